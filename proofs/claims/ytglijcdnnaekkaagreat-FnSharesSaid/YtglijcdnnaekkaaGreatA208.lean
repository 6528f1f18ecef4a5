/- Several parts of the proof in one text; each part says what it shows. Nothing is assumed. -/
import Derived.Test.YtglijcdnnaekkaaGreatA201
import Derived.Test.YtglijcdnnaekkaaGreatA16
import Derived.Test.YtglijcdnnaekkaaGreatA173
import Derived.Test.YtglijcdnnaekkaaGreatA174
import Derived.Test.YtglijcdnnaekkaaGreatA177
/- Sets of points: the program's side. -/
namespace Go.Proofs.YtglijcdnnaekkaaGreat
set_option linter.unusedVariables false
set_option linter.unusedSimpArgs false
open Go.RowKit

def sI (n c f : Nat) : List (List Int) := (subL n c f).map tJ
theorem sI_zero (n f : Nat) : sI n 0 f = [[]] := by unfold sI; rw [sub_zero]; rfl
theorem sI_step {n c f : Nat} (h : f + (c + 1) ≤ n) : sI n (c + 1) f = (sI n c (f + 1)).map (fun l => (f : Int) :: l) ++ sI n (c + 1) (f + 1) := by
  unfold sI
  rw [sub_step h, List.map_append, List.map_map, List.map_map]
  rfl
theorem sI_end {n c f : Nat} (h : ¬ f + (c + 1) ≤ n) : sI n (c + 1) f = [] := by unfold sI; rw [sub_end h]; rfl
theorem sI_small : ∀ n c f : Fin 8, (sI n c f).length ≤ 64 := by decide +kernel
theorem sI_le {n c f : Nat} (hn : n ≤ 6) (hf : f ≤ n + 1) : (sI n c f).length ≤ 64 := by
  by_cases hc : c < 8
  · exact sI_small ⟨n, by omega⟩ ⟨c, hc⟩ ⟨f, by omega⟩
  · obtain ⟨c, rfl⟩ : ∃ d, c = d + 1 := ⟨c - 1, by omega⟩
    rw [sI_end (by omega)]
    simp
theorem sI_row {n c f : Nat} (hf : f ≤ n) {l : List Int} (h : l ∈ sI n c f) : l.length = c := by
  unfold sI at h
  obtain ⟨p, hp, rfl⟩ := List.mem_map.1 h
  rw [tJ_len]
  exact ((sub_mem hf p).1 hp).1
theorem i_subsets_zero (n f : Nat) (w : World) : Calls Tryz.prog 71 #[.int .i64 n, .int .i64 f, .int .i64 0] w (fun e w' => ∃ v, e = .returned v ∧ OwnII w' w.heap.size v [[]] ∧ Below w.heap.size w w') := by
  go_enter Tryz.func71, Tryz.ntmps71
  go_wp2_with (fail)
  go_ret
  refine ⟨_, rfl, ?_, ?_⟩
  · refine ⟨[.slice none 0 0], ?_, rfl, fun i hi => ?_, fun i j h1 h2 => by simp at h2; omega⟩
    · exact World.ownsRow_lit (base := w.heap.size) (size := 1) w #[.slice none 0 0] 1 (Nat.le_refl _) (by simp [maxLen]) rfl
    · simp at hi
      subst hi
      exact World.ownsRow_nil _ _ _ _
  · exact (Below.refl _ _).alloc (Nat.le_refl _) _
set_option maxRecDepth 10000 in
set_option maxHeartbeats 4000000 in
theorem i_subsets (n : Nat) (hn6 : n ≤ 6) : ∀ (c k : Nat) (w : World), c ≤ 6 → k ≤ n →
    Calls Tryz.prog 71 #[.int .i64 n, .int .i64 k, .int .i64 c] w (fun e w' => ∃ v, e = .returned v ∧ OwnII w' w.heap.size v (sI n c k) ∧ Below w.heap.size w w') := by
  intro c
  induction c with
  | zero =>
    intro k w _ _
    rw [sI_zero]
    exact i_subsets_zero n k w
  | succ c ih =>
    intro k w hc6 hk
    obtain ⟨i0, hi, hz0, hz1, hz2⟩ := info_parts infoI64
    obtain ⟨i1, hi1, hy0, hy1, hy2⟩ := info_parts infoSl
    have IH := Lib.hid ih
    clear ih
    have hcz : (((c + 1 : Nat) : Int) == 0) = false := by rw [beq_eq_false_iff_ne]; omega
    have hcs : ((c + 1 : Nat) : Int) = (c : Int) + 1 := by omega
    rw [hcs] at hcz ⊢
    have hcm : (c : Int) + 1 - 1 = (c : Int) := by omega
    clear hcs
    have HCM := Lib.hid hcm
    clear hcm
    go_enter Tryz.func71, Tryz.ntmps71
    go_wp2_with (fail)
    go_loopw [7, 8] (fun u7 u8 wr => ∃ (kk : Nat) (acc : List (List Int)), k ≤ kk ∧ kk ≤ n + 1 ∧ u8 = .int .i64 kk ∧ Hid (acc ++ sI n (c + 1) kk = sI n (c + 1) k) ∧ OwnII wr w.heap.size u7 acc ∧ Below w.heap.size w wr) (fun _ u8 _ => n + 1 - (intOf u8).toNat)
    case atStart => exact ⟨k, [], Nat.le_refl _, by omega, rfl, by simp [Hid], own_nil _ _, Below.refl _ _⟩
    case round =>
      obtain ⟨ws, rfl⟩ : ∃ ws : World, ws = wr := ⟨_, rfl⟩
      obtain ⟨kk, acc, hkk, hkn, rfl, HG, hown, hb⟩ := hrel
      by_cases hle : kk + (c + 1) ≤ n
      · have hrl := sI_le (n := n) (c := c) (f := kk + 1) hn6 (by omega)
        have hrw : ∀ l ∈ sI n c (kk + 1), l.length ≤ 6 := fun l h => by rw [sI_row (by omega) h]; omega
        have hal : acc.length + (sI n c (kk + 1)).length ≤ 64 := by
          have h1 := sI_le (n := n) (c := c + 1) (f := k) hn6 (by omega)
          have h2 := HG.out
          rw [sI_step hle] at h2
          rw [← h2] at h1
          simp at h1; omega
        generalize hrest : sI n c (kk + 1) = restl at *
        have HREST := Lib.hid hrest
        clear hrest
        have HRW := Lib.hid hrw
        clear hrw
        obtain ⟨R, hR⟩ : ∃ R, R = restl.length := ⟨_, rfl⟩
        rw [← hR] at hal hrl
        have HR := Lib.hid hR
        clear hR
        have hik := fun W => IH.out (kk + 1) W (by omega) (by omega)
        rw [HREST.out, show ((kk + 1 : Nat) : Int) = (kk : Int) + 1 by omega] at hik
        go_wp2_with (go_at_call 71; (try rw [HCM.out]); refine (hik _).mono ?_; rintro e w2 ⟨vr, rfl, ⟨rvs, hro, hrr⟩, hb2⟩; rw [← HR.out] at hro; obtain ⟨Ar, capr, rfl, _⟩ := own_slice' hro)
        obtain ⟨vs, ho, hrows⟩ := hown
        have b2 : Below w.heap.size w w2 := hb.trans (hb2.mono hb.size)
        have hst : TyIn w w2 ws.heap.size kk acc restl 0 u7 w2 :=
          ⟨⟨vs, by simpa using own_below ho hb2, by simpa using hrows.below hb2⟩, Mid.refl _ _, fun g hg => .inl (ho.lt g hg).2, b2⟩
        have hal2 := hal
        clear ho hrows b2 hal hrl hik
        obtain ⟨wo, rfl⟩ : ∃ wo : World, wo = w2 := ⟨_, rfl⟩
        go_loopw [7, 29] (fun u7 u29 wr' => ∃ i : Nat, i ≤ R ∧ u29 = .int .i64 i ∧ TyIn w wo ws.heap.size kk acc restl i u7 wr') (fun _ u29 _ => R - (intOf u29).toNat)
        case atStart => exact ⟨0, Nat.zero_le _, rfl, hst⟩
        case round =>
          clear hst
          obtain ⟨i, hiR, rfl, ⟨vs, ho, hrows⟩, hm, h5, hb'⟩ := hrel
          by_cases hlt : i < R
          · have hrowi := (hrr.mid hm).2.1 i (by rw [hrr.1, ← HR.out]; exact hlt)
            obtain ⟨gr, rfl, _, _, hcr⟩ := own_src (own_mid hro hm) (by omega)
            have hcell := hcr i _ (gv_at (by rw [hrr.1, ← HR.out]; exact hlt))
            clear hcr
            obtain ⟨Ai, ci, hvi, _⟩ := own_slice' hrowi
            rw [hvi] at hcell hrowi
            clear hvi
            unfold OwnI at hrowi
            have hLi : (gl restl i).length ≤ 6 := HRW.out _ (gl_mem (by rw [← HR.out]; exact hlt))
            obtain ⟨A5, c5, rfl, _⟩ := own_slice' ho
            have hlen5 : (acc ++ (restl.take i).map (fun l => (kk : Int) :: l)).length ≤ 64 := by simp; omega
            have HL : Hid ((gl restl i).length ≤ 6) := hLi
            generalize hLe : (gl restl i).length = L at *
            have HLE := Lib.hid hLe
            clear hLe
            generalize hne : (acc ++ (restl.take i).map (fun l => (kk : Int) :: l)).length = N5 at *
            have HNE := Lib.hid hne
            clear hne
            have hsz := hb'.size
            go_wp2_with (first
              | (at_builtin; refine wpList_append_src rfl (.tmp 35) (.tmp 36) 24 rfl wr.heap.size 2 i0 (.int .i64 0) 1 8 Tryz.underlying24 hi hz0 hz1 hz2 rfl (by omega) (.slice (some ⟨wr.heap.size, 0, none⟩) 1 1) 1 [.int .i64 (kk : Int)] rfl (own_one wr _ _) Ai L ci (ints (gl restl i)) rfl (by rw [ints_length, HLE.out, Nat.mul_one]) (own_hsrc (World.ownsRow.alloc hrowi _)) (own_hnil hrowi) (ints_one _) (by simp only [maxLen]; omega) (by omega) (by simp) ?_; intro v1 w1 hown1 hg1 hat1; obtain ⟨A1, c1, rfl, _⟩ := own_slice' hown1; clear hat1)
              | (at_builtin; refine wpList_append_src rfl (.tmp 33) (.tmp 38) 29 rfl w.heap.size 24 i1 (.slice none 0 0) 1 24 Tryz.underlying29 hi1 hy0 hy1 hy2 rfl (by omega) (.slice A5 N5 c5) N5 vs rfl (own_below ho ((new_below hg1).alloc (new_below hg1).size _)) (some ⟨w1.heap.size, 0, none⟩) 1 1 [.slice A1 (1 + L) c1] rfl rfl (one_src w1 _ _) (by intro h; cases h) (by intro u hu; simp at hu; subst hu; rfl) (by simp only [maxLen]; omega) (by omega) (by have := (new_below hg1).size; simp; omega) ?_; intro v2 w3 hown2 hg2 hat2))
            go_roundw
            case rel =>
              refine ⟨i + 1, by omega, by go_num, ?_⟩
              have hi' : i < restl.length := by rw [← HR.out]; exact hlt
              rw [← HLE.out] at hown1 hown2
              rw [← HNE.out] at ho hown2 h5 hg2 hat2
              exact TyIn.round hi' ho hrows hm h5 hb' hown1 hg1 rfl hown2 hg2 hat2
            case measure => simp [intOf]; omega
          · obtain rfl : i = R := by omega
            have hfin : acc ++ (restl.take i).map (fun l => (kk : Int) :: l) = acc ++ restl.map (fun l => (kk : Int) :: l) := by
              rw [List.take_of_length_le (by rw [← HR.out]; exact Nat.le_refl _)]
            rw [hfin] at ho hrows
            have HNL := Lib.hid ho
            clear ho hfin
            go_wp2_with (fail)
            go_roundw
            case rel =>
              refine ⟨kk + 1, acc ++ restl.map (fun l => (kk : Int) :: l), by omega, by omega, by go_num, ?_, ⟨vs, HNL.out, hrows⟩, hb'⟩
              have h1 := HG.out
              rw [sI_step hle, HREST.out] at h1
              unfold Hid
              rw [List.append_assoc]; exact h1
            case measure => simp [intOf]; omega
      · have hfin : acc = sI n (c + 1) k := by
          have h1 := HG.out
          rwa [sI_end hle, List.append_nil] at h1
        rw [hfin] at hown
        have HOW := Lib.hid hown
        clear hown hfin
        go_wp2_with (fail)
        go_ret
        exact ⟨_, rfl, HOW.out, hb⟩
end Go.Proofs.YtglijcdnnaekkaaGreat
/- Images of sets of points; is a set a block: the program's side. -/
namespace Go.Proofs.YtglijcdnnaekkaaGreat
set_option linter.unusedVariables false
set_option linter.unusedSimpArgs false
open Go.RowKit

set_option maxRecDepth 10000 in
set_option maxHeartbeats 2000000 in
theorem i_image (A Ap : Option Addr) (n ca m cp : Nat) (a pts : List Int) (w : World) (ha : InR n a) (hn6 : n ≤ 6) (hs : IS w w.heap.size A a) (hm : m = pts.length) (h0 : 0 < m) (hm6 : m ≤ 6) (hp : ∀ k, k < m → 0 ≤ gt pts k ∧ gt pts k < (n : Int)) (hsp : IS w w.heap.size Ap pts) :
    Calls Tryz.prog 125 #[.slice A n ca, .slice Ap m cp] w (MI w.heap.size m (imgL a pts) w) := by
  obtain ⟨i0, hi, hz0, hz1, hz2⟩ := info_parts infoI64
  have hI : imgL a pts = ((pts.map fun x => gt a x.toNat).mergeSort fun x y => decide (x ≤ y)) := rfl
  rw [hI]
  have htk : ∀ k, k < m → ((pts.take (k + 1)).map fun x => gt a x.toNat) = ((pts.take k).map fun x => gt a x.toNat) ++ [gt a (gt pts k).toNat] := fun k hk => by
    have hk' : k < pts.length := by omega
    rw [List.take_succ_eq_append_getElem hk', List.map_append]
    simp [gt_eq hk']
  have hfl : ((pts.take m).map fun x => gt a x.toNat) = pts.map fun x => gt a x.toNat := by rw [List.take_of_length_le (by omega)]
  generalize (pts.map fun x => gt a x.toNat) = fin at *
  have HTK := Lib.hid htk
  have HFL := Lib.hid hfl
  have HP := Lib.hid hp
  have HM := Lib.hid hm
  have HAL := Lib.hid ha.1.symm
  clear hI htk hfl hp hm ha
  go_enter Tryz.func125, Tryz.ntmps125
  go_wp2_with (fail)
  go_loopw [5, 10] (fun u5 u10 wr => ∃ k : Nat, k ≤ m ∧ u10 = .int .i64 k ∧ wr.ownsRow w.heap.size 2 1 u5 k (ints ((pts.take k).map fun x => gt a x.toNat)) ∧ Below w.heap.size w wr) (fun _ u10 _ => m - (intOf u10).toNat)
  case atStart => exact ⟨0, Nat.zero_le _, rfl, World.ownsRow_nil _ _ _ _, Below.refl _ _⟩
  case round =>
    obtain ⟨ws, rfl⟩ : ∃ ws : World, ws = wr := ⟨_, rfl⟩
    obtain ⟨k, hk, rfl, hown, hb⟩ := hrel
    obtain ⟨A3, c3, rfl, _⟩ := own_slice' hown
    have hsz := hb.size
    by_cases hlt : k < m
    · obtain ⟨b, off, rfl, hbb, hcell⟩ := hsp.at (k := k) (by rw [← HM.out]; exact hlt)
      have e1 := (hb.cell (p := ⟨b, off + k, none⟩) hbb).trans (hcell k (by rw [← HM.out]; exact hlt))
      obtain ⟨p1, p2⟩ := HP.out k hlt
      obtain ⟨q, hq⟩ := Int.eq_ofNat_of_zero_le p1
      have hst := HTK.out k hlt
      rw [hq] at e1 p2 hst
      rw [Int.toNat_natCast] at hst
      have hqn : q < n := by omega
      obtain ⟨b2, off2, rfl, hbb2, hcell2⟩ := hs.at (k := q) (by rw [← HAL.out]; exact hqn)
      have e2 := (hb.cell (p := ⟨b2, off2 + q, none⟩) hbb2).trans (hcell2 q (by rw [← HAL.out]; exact hqn))
      generalize gt a q = y at *
      have HST := Lib.hid hst
      clear hst hcell hcell2 hq p1 p2
      go_wp2_with (first
        | (at_builtin; refine wpList_append_src rfl (.tmp 14) (.tmp 19) 24 rfl w.heap.size 2 i0 (.int .i64 0) 1 8 Tryz.underlying24 hi hz0 hz1 hz2 rfl (by omega) (.slice A3 k c3) k (ints ((pts.take k).map fun x => gt a x.toNat)) rfl (World.ownsRow.alloc hown _) (some ⟨ws.heap.size, 0, none⟩) 1 1 [.int .i64 y] rfl rfl (one_src ws _ _) (by intro h; cases h) (by intro u hu; simp at hu; subst hu; rfl) (by simp only [maxLen]; omega) (by omega) (by simp; omega) ?_; intro v7 w7 hown7 hg7 hat7)
        | go_in)
      go_roundw
      case rel => exact ⟨k + 1, by omega, by go_num, by rw [HST.out, ints_snoc]; exact hown7, (hb.alloc hsz _).grown hg7 (by simp; omega) (fun g hg => (hown.lt g hg).1)⟩
      case measure => simp [intOf]; omega
    · obtain rfl : k = m := by omega
      rw [HFL.out] at hown
      obtain ⟨g, rfl, hg0, hg1, _⟩ := own_src hown h0
      go_wp2_with (fail)
      refine (c_sort _ g k c3 _ _ hown (by omega)).mono ?_
      rintro e w5 ⟨rfl, hown5, hg5⟩
      go_wp2_with (fail)
      go_ret
      exact ⟨_, rfl, hown5, hb.grown hg5 hsz (fun x hx => by injection hx; omega)⟩
set_option maxHeartbeats 1000000 in
theorem i_blk2 (gx : Nat) (A : Option Addr) (L c : Nat) (x : Int) (l : List Int) (w : World) (hL : L = l.length) (hl : L ≤ 1000) (hs : IS w w.heap.size A l) (h1 : w.cell? ⟨gx, 0, none⟩ = some (.slice A L c)) :
    Calls Tryz.prog 141 #[.int .i64 x, .pointer (some ⟨gx, 0, none⟩)] w (Q (.bool (decide (x ∈ l))) w) := by
  have hc := fun W h => c_hasInt A L c x l W w.heap.size hL hl h
  generalize decide (x ∈ l) = b at *
  clear hL
  go_enter Tryz.func141, Tryz.ntmps141
  go_wp2_with (first | (go_at_call 72; refine (hc _ hs).mono ?_; rintro e w1 ⟨rfl, m, rfl⟩) | go_in)
  go_ret
  exact ⟨rfl, m, rfl⟩
set_option maxRecDepth 10000 in
set_option maxHeartbeats 1000000 in
theorem c_idxBlk (gx : Nat) (A' : Option Addr) (L' c' : Nat) (l' : List Int) (A : Option Addr) (L c : Nat) (l : List Int) (w : World) (hL : L = l.length) (hl : L ≤ 1000) (hs : IS w w.heap.size A l) (hL' : L' = l'.length) (hl' : L' ≤ 1000) (hs' : IS w w.heap.size A' l') (h1 : w.cell? ⟨gx, 0, none⟩ = some (.slice A' L' c')) :
    Calls Tryz.prog 177 #[.slice A L c, .func (.func 141) #[] #[.pointer (some ⟨gx, 0, none⟩)]] w (fun e w' => ∃ k : Int, e = .returned (.int .i64 k) ∧ decide (0 ≤ k) = (l.any fun x => decide (x ∈ l')) ∧ ∃ m, w' = w.drewN m) := by
  have HL := Lib.hid hL
  have hp := fun (m : Nat) (x : Int) => i_blk2 gx A' L' c' x l' (w.drewN m) hL' hl' hs' h1
  have HP := Lib.hid hp
  clear hL hL' hp hs'
  go_enter Tryz.func177, Tryz.ntmps177
  go_wp2_with (fail)
  go_loopw [8] (fun u wr => ∃ k : Nat, k ≤ L ∧ u = .int .i64 k ∧ Hid (∀ j, j < k → ¬ gt l j ∈ l') ∧ ∃ m, wr = w.drewN m) (fun u _ => L - (intOf u).toNat)
  case atStart => exact ⟨0, Nat.zero_le _, rfl, fun j hj => by omega, 0, rfl⟩
  case round =>
    obtain ⟨k, hk, rfl, HI, m, rfl⟩ := hrel
    by_cases hlt : k < L
    · obtain ⟨b, off, rfl, hbb, hcell⟩ := IS.at hs (k := k) (by rw [← HL.out]; exact hlt)
      have hc1 := hcell k (by rw [← HL.out]; exact hlt)
      clear hcell
      have hpx := fun m => HP.out m (gt l k)
      have hmem : gt l k ∈ l := gt_mem (by rw [← HL.out]; exact hlt)
      by_cases heq : gt l k ∈ l'
      · have hm : (l.any fun x => decide (x ∈ l')) = true := by
          rw [List.any_eq_true]
          exact ⟨gt l k, hmem, by simpa using heq⟩
        have HM := Lib.hid hm
        have hd : decide (gt l k ∈ l') = true := by simpa using heq
        rw [hd] at hpx
        clear hm heq hd hmem
        generalize gt l k = y at *
        go_wp2_with (first | (go_at_call 141; refine (hpx _).mono ?_; rintro e w1 ⟨rfl, m1, rfl⟩) | go_in)
        go_ret
        exact ⟨k, rfl, by rw [HM.out]; simp, by first | exact dq1 | exact dq2⟩
      · have hn : ∀ j, j < k + 1 → ¬ gt l j ∈ l' := fun j hj => by
          by_cases hjk : j = k
          · subst hjk; exact heq
          · exact HI.out j (by omega)
        have HN := Lib.hid hn
        have hd : decide (gt l k ∈ l') = false := by simpa using heq
        rw [hd] at hpx
        clear hn heq hd hmem
        generalize gt l k = y at *
        go_wp2_with (first | (go_at_call 141; refine (hpx _).mono ?_; rintro e w1 ⟨rfl, m1, rfl⟩) | go_in)
        go_roundw
        case rel => exact ⟨k + 1, by omega, by go_num, HN.out, by first | exact dq1 | exact dq2⟩
        case measure => simp [intOf]; omega
    · obtain rfl : k = L := by omega
      have hm : (l.any fun x => decide (x ∈ l')) = false := by
        rw [List.any_eq_false]
        intro x hx
        obtain ⟨j, hj, e⟩ := List.mem_iff_getElem.1 hx
        have h2 := HI.out j (by rw [HL.out]; exact hj)
        rw [show gt l j = x by simp [gt, List.getElem?_eq_getElem hj, e]] at h2
        simpa using h2
      have HM := Lib.hid hm
      clear hm
      go_wp2_with (fail)
      go_ret
      exact ⟨-1, rfl, by rw [HM.out]; simp, by first | exact dq1 | exact dq2⟩
set_option maxHeartbeats 1000000 in
theorem c_contAny (A : Option Addr) (L c : Nat) (v : Value) (b : Bool) (w : World) (hc : Calls Tryz.prog 177 #[.slice A L c, v] w (fun e w' => ∃ k : Int, e = .returned (.int .i64 k) ∧ decide (0 ≤ k) = b ∧ ∃ m, w' = w.drewN m)) :
    Calls Tryz.prog 137 #[.slice A L c, v] w (Q (.bool b) w) := by
  cases b
  · have hc2 := hc.mono (R' := fun e w' => ∃ k : Int, e = .returned (.int .i64 k) ∧ k < 0 ∧ ∃ m, w' = w.drewN m) (fun e w' ⟨k, h1, h2, h3⟩ => ⟨k, h1, by have := of_decide_eq_false h2; omega, h3⟩)
    clear hc
    go_enter Tryz.func137, Tryz.ntmps137
    go_wp2_with (go_at_call 177; refine hc2.mono ?_; rintro e w1 ⟨k, rfl, hk, m, rfl⟩)
    go_ret
    exact ⟨ret_bool (by first | rfl | (simp; omega)), m, rfl⟩
  · have hc2 := hc.mono (R' := fun e w' => ∃ k : Int, e = .returned (.int .i64 k) ∧ 0 ≤ k ∧ ∃ m, w' = w.drewN m) (fun e w' ⟨k, h1, h2, h3⟩ => ⟨k, h1, of_decide_eq_true h2, h3⟩)
    clear hc
    go_enter Tryz.func137, Tryz.ntmps137
    go_wp2_with (go_at_call 177; refine hc2.mono ?_; rintro e w1 ⟨k, rfl, hk, m, rfl⟩)
    go_ret
    exact ⟨ret_bool (by first | rfl | (simp; omega)), m, rfl⟩
/-- A set that a permutation neither keeps nor moves away as a whole. -/
def badB (a pts : List Int) : Bool := !(decide (imgL a pts = pts)) && (imgL a pts).any fun x => decide (x ∈ pts)
theorem blkB_eq (ms : List (List Int)) (pts : List Int) : blkB ms pts = !(ms.any fun a => badB a pts) := rfl
set_option maxRecDepth 10000 in
set_option maxHeartbeats 2000000 in
theorem i_blk1 (A Ap : Option Addr) (n ca m cp gx : Nat) (a pts : List Int) (w : World) (ha : InR n a) (hn6 : n ≤ 6) (hs : IS w w.heap.size A a) (hm : m = pts.length) (h0 : 0 < m) (hm6 : m ≤ 6) (hp : ∀ k, k < m → 0 ≤ gt pts k ∧ gt pts k < (n : Int)) (hsp : IS w w.heap.size Ap pts) (hgx : gx < w.heap.size) (hx : w.cell? ⟨gx, 0, none⟩ = some (.slice Ap m cp)) :
    Calls Tryz.prog 140 #[.slice A n ca, .pointer (some ⟨gx, 0, none⟩)] w (M (.bool (badB a pts)) w) := by
  have him := i_image A Ap n ca m cp a pts w ha hn6 hs hm h0 hm6 hp hsp
  have hil : m = (imgL a pts).length := by rw [img_len]; exact hm
  have hbd : badB a pts = (!(decide (imgL a pts = pts)) && (imgL a pts).any fun x => decide (x ∈ pts)) := rfl
  rw [hbd]
  have hsm := fun A2 c2 W h1 h2 => i_same A2 Ap m c2 m cp (imgL a pts) pts W W.heap.size W.heap.size hil hm (by omega) (by omega) h1 h2
  have hct := fun A2 c2 W h1 h2 h3 => c_contAny A2 m c2 _ _ W (c_idxBlk gx Ap m cp pts A2 m c2 (imgL a pts) W hil (by omega) h1 hm (by omega) h2 h3)
  have HIL := Lib.hid hil
  generalize decide (imgL a pts = pts) = b1 at *
  generalize ((imgL a pts).any fun x => decide (x ∈ pts)) = b2 at *
  generalize imgL a pts = im at *
  clear hbd hil hm hp ha hs
  cases b1
  · go_enter Tryz.func140, Tryz.ntmps140
    go_wp2_with (first
      | (go_at_call 125; refine him.mono ?_; rintro e w1 ⟨v1, rfl, ho, hb1⟩; obtain ⟨A2, c2, rfl, _⟩ := own_slice' ho; have his := own_isn ho HIL.out; have hx1 := (hb1.cell (p := ⟨gx, 0, none⟩) hgx).trans hx; have hsp1 := hsp.call hb1)
      | (go_at_call 95; refine (hsm A2 c2 _ his hsp1).mono ?_; rintro e w2 ⟨rfl, q2, rfl⟩)
      | (go_at_call 137; refine (hct A2 c2 _ (his.drewN q2) (hsp1.drewN q2) hx1).mono ?_; rintro e w3 ⟨rfl, q3, rfl⟩))
    go_ret
    refine ⟨by cases b2 <;> rfl, ?_⟩
    repeat (first | exact hb1 | refine below_drewN ?_ _)
  · go_enter Tryz.func140, Tryz.ntmps140
    go_wp2_with (first
      | (go_at_call 125; refine him.mono ?_; rintro e w1 ⟨v1, rfl, ho, hb1⟩; obtain ⟨A2, c2, rfl, _⟩ := own_slice' ho; have his := own_isn ho HIL.out; have hx1 := (hb1.cell (p := ⟨gx, 0, none⟩) hgx).trans hx; have hsp1 := hsp.call hb1)
      | (go_at_call 95; refine (hsm A2 c2 _ his hsp1).mono ?_; rintro e w2 ⟨rfl, q2, rfl⟩))
    go_ret
    refine ⟨rfl, ?_⟩
    repeat (first | exact hb1 | refine below_drewN ?_ _)
set_option maxHeartbeats 1000000 in
theorem i_idxBl (A : Option Addr) (L c n : Nat) (ll : List (List Int)) (w : World) (B : Nat) (hL : L = ll.length) (hl : L ≤ 1048576) (hB : B ≤ w.heap.size) (hs : II w B A ll) (Ap : Option Addr) (m cp gx : Nat) (pts : List Int) (hn6 : n ≤ 6) (hin : ∀ k, k < L → InR n (gl ll k)) (hm : m = pts.length) (h0 : 0 < m) (hm6 : m ≤ 6) (hpn : ∀ k, k < m → 0 ≤ gt pts k ∧ gt pts k < (n : Int)) (hsp : IS w w.heap.size Ap pts) (hgx : gx < w.heap.size) (hx : w.cell? ⟨gx, 0, none⟩ = some (.slice Ap m cp)) :
    Calls Tryz.prog 164 #[.slice A L c, .func (.func 140) #[] #[.pointer (some ⟨gx, 0, none⟩)]] w (fun e w' => ∃ k : Int, e = .returned (.int .i64 k) ∧ decide (0 ≤ k) = (ll.any fun a => badB a pts) ∧ Below w.heap.size w w') := by
  have HL := Lib.hid hL
  clear hL
  go_enter Tryz.func164, Tryz.ntmps164
  go_wp2_with (fail)
  go_loopw [8] (fun u8 wr => ∃ k : Nat, k ≤ L ∧ u8 = .int .i64 k ∧ Hid (∀ j, j < k → (fun a : List Int => badB a pts) (gl ll j) = false) ∧ Below w.heap.size w wr) (fun u8 _ => L - (intOf u8).toNat)
  case atStart => exact ⟨0, Nat.zero_le _, rfl, fun j hj => by omega, Below.refl _ _⟩
  case round =>
    obtain ⟨ws, rfl⟩ : ∃ ws : World, ws = wr := ⟨_, rfl⟩
    obtain ⟨k, hk, rfl, HI, hb⟩ := hrel
    have hsz := hb.size
    by_cases hlt : k < L
    · obtain ⟨b, off, rfl, hbb, hcell⟩ := hs.at (k := k) (by rw [← HL.out]; exact hlt)
      obtain ⟨A', c', e1, _, _, his⟩ := hcell k (by rw [← HL.out]; exact hlt)
      have e1 := (hb.cell (p := ⟨b, off + k, none⟩) (by show b < _; omega)).trans e1
      have his := (his.below (hb.mono hB)).more (show B ≤ ws.heap.size by omega)
      have hR := hin k hlt; rw [hR.1] at e1; have hp := fun W hW => i_blk1 A' Ap n c' m cp gx (gl ll k) pts W hR hn6 (IS.call his hW) hm h0 hm6 hpn ((hsp.call hb).call hW) (by have := hW.size; omega) ((hW.cell (p := ⟨gx, 0, none⟩) (by show gx < _; omega)).trans ((hb.cell (p := ⟨gx, 0, none⟩) hgx).trans hx)); clear hR hsp hm hpn
      clear hcell
      by_cases hneg : (fun a : List Int => badB a pts) (gl ll k) = true
      · have hany : (ll.any fun a => badB a pts) = true := by
          rw [List.any_eq_true]
          exact ⟨gl ll k, gl_mem (by rw [← HL.out]; exact hlt), hneg⟩
        have HANY := Lib.hid hany
        have hneg : (fun a : List Int => badB a pts) (gl ll k) = true := hneg
        simp only [hneg] at hp
        clear hany his hs
        go_wp2_with (first | (go_at_call 140; refine (hp _ (Below.refl _ _)).mono ?_; rintro e w2 ⟨rfl, hb2⟩) | go_in)
        go_ret
        exact ⟨k, rfl, by rw [HANY.out]; simp, hb.trans (hb2.mono hsz)⟩
      · have hneg : (fun a : List Int => badB a pts) (gl ll k) = false := by rw [Bool.eq_false_iff]; exact hneg
        simp only [hneg] at hp
        have hn' : ∀ j, j < k + 1 → (fun a : List Int => badB a pts) (gl ll j) = false := fun j hj => by
          by_cases hjk : j = k
          · subst hjk; exact hneg
          · exact HI.out j (by omega)
        have HN' := Lib.hid hn'
        clear hn' his hs
        go_wp2_with (first | (go_at_call 140; refine (hp _ (Below.refl _ _)).mono ?_; rintro e w2 ⟨rfl, hb2⟩) | go_in)
        go_roundw
        case rel => exact ⟨k + 1, by omega, by go_num, HN'.out, hb.trans (hb2.mono hsz)⟩
        case measure => simp [intOf]; omega
    · obtain rfl : k = L := by omega
      have hany : (ll.any fun a => badB a pts) = false := by
        rw [List.any_eq_false]
        intro a ha
        obtain ⟨j, hj, rfl⟩ := mem_gl.1 ha
        have h9 := HI.out j (by rw [HL.out]; exact hj)
        exact Bool.eq_false_iff.1 h9
      have HANY := Lib.hid hany
      clear hany
      go_wp2_with (fail)
      go_ret
      exact ⟨-1, rfl, by rw [HANY.out]; simp, hb⟩
theorem i_idxBlC (A : Option Addr) (L c n : Nat) (ll : List (List Int)) (w : World) (B : Nat) (hL : L = ll.length) (hl : L ≤ 1048576) (hB : B ≤ w.heap.size) (hs : II w B A ll) (Ap : Option Addr) (m cp gx : Nat) (pts : List Int) (hn6 : n ≤ 6) (hin : ∀ k, k < L → InR n (gl ll k)) (hm : m = pts.length) (h0 : 0 < m) (hm6 : m ≤ 6) (hpn : ∀ k, k < m → 0 ≤ gt pts k ∧ gt pts k < (n : Int)) (hsp : IS w w.heap.size Ap pts) (hgx : gx < w.heap.size) (hx : w.cell? ⟨gx, 0, none⟩ = some (.slice Ap m cp)) :
    Calls Tryz.prog 103 #[.slice A L c, .func (.func 140) #[] #[.pointer (some ⟨gx, 0, none⟩)]] w (M (.bool (ll.any fun a => badB a pts)) w) := c_contains A L c _ _ w (i_idxBl A L c n ll w B hL hl hB hs Ap m cp gx pts hn6 hin hm h0 hm6 hpn hsp hgx hx)
set_option maxRecDepth 10000 in
set_option maxHeartbeats 2000000 in
theorem i_isBlock (n : Nat) (A Ap : Option Addr) (L c m cp : Nat) (l pts : List Int) (w : World) (hn : 1 ≤ n) (hn6 : n ≤ 6) (hL : L = l.length) (hl : L ≤ 1000) (hk : InK n l) (hs : IS w w.heap.size A l) (hm : m = pts.length) (h0 : 0 < m) (hm6 : m ≤ 6) (hp : ∀ k, k < m → 0 ≤ gt pts k ∧ gt pts k < (n : Int)) (hsp : IS w w.heap.size Ap pts) :
    Calls Tryz.prog 73 #[.agg #[.int .i64 n, .slice A L c], .slice Ap m cp] w (M (.bool (blkB (memL n l) pts)) w) := by
  have hmi := mem_InR hk hL
  have hml' := memL_len n l
  rw [blkB_eq]
  have hbb := fun Am cm W B h1 h2 h3 h4 h5 => i_idxBlC Am L cm n (memL n l) W B (by rw [hml', hL]) (by omega) h1 h2 Ap m cp (w.heap.size + 1) pts hn6 hmi hm h0 hm6 hp h3 h4 h5
  have hmb := fun W h => i_members n A L c l W hn hn6 hL (by omega) hk h
  generalize ((memL n l).any fun a => badB a pts) = bb at *
  rw [← hL] at hml'
  generalize memL n l = ll at *
  have HML := Lib.hid hml'
  clear hL hk hm hmi hml' hp
  obtain ⟨f0, f1, _, _⟩ := (BK.new w 26 #[.int .i64 (n : Int), .slice A L c]).two
  have hB1 := BK.new (w.alloc (.cells #[.int .i64 (n : Int), .slice A L c] 26)) 24 #[.slice Ap m cp]
  have hb0 := ((Below.refl w.heap.size w).alloc (Nat.le_refl _) (.cells #[.int .i64 (n : Int), .slice A L c] 26)).alloc (by simp) (.cells #[.slice Ap m cp] 24)
  have hs0 := hs.call hb0
  have hx0 := hsp.call hb0
  have f0 := (((Below.refl _ _).alloc (Nat.le_refl _) (.cells #[.slice Ap m cp] 24)).cell (p := ⟨w.heap.size, 0, none⟩) (by simp)).trans f0
  have f1 := (((Below.refl _ _).alloc (Nat.le_refl _) (.cells #[.slice Ap m cp] 24)).cell (p := ⟨w.heap.size, 0 + 1, none⟩) (by simp)).trans f1
  have g0 := hB1.cell 0
  rw [World.size_alloc] at g0
  have g0 := g0.trans (rfl : _ = some (Value.slice Ap m cp))
  cases bb
  all_goals
    go_enter Tryz.func73, Tryz.ntmps73
    go_wp2_with (first
      | (go_at_call 120; refine (hmb _ hs0).mono ?_; rintro e w2 ⟨Am, cm, vs, rfl, hom, hrm, hb2⟩; rw [HML.out] at hom ⊢)
      | (go_at_call 103; refine (hbb Am cm _ _ (Nat.le_refl _) (OwnII.ii hom hrm) (hx0.call hb2) (by have := hb2.size; simp at this; omega) ((hb2.cell (p := ⟨w.heap.size + 1, 0, none⟩) (by simp)).trans g0)).mono ?_; rintro e w3 ⟨rfl, hb3⟩))
    go_ret
    exact ⟨rfl, bel_call (bel_call hb0 hb2) hb3⟩
end Go.Proofs.YtglijcdnnaekkaaGreat
/- BlockWith: the program's side. -/
namespace Go.Proofs.YtglijcdnnaekkaaGreat
set_option linter.unusedVariables false
set_option linter.unusedSimpArgs false
open Go.RowKit

set_option maxHeartbeats 1000000 in
theorem i_mv1 (gx : Nat) (p x : Int) (w : World) (hp : 1 ≤ p ∧ p ≤ 6) (h1 : w.cell? ⟨gx, 0, none⟩ = some (.int .i64 p)) :
    Calls Tryz.prog 138 #[.int .i64 x, .pointer (some ⟨gx, 0, none⟩)] w (Q (.bool (!inB x 0 (p - 1))) w) := by
  have hw : IntKind.i64.wrap (p - 1) = p - 1 := IntWalk.i64_in _ (by omega)
  have hin := fun W => i_within x 0 (p - 1) W
  generalize inB x 0 (p - 1) = b at *
  go_enter Tryz.func138, Tryz.ntmps138
  go_wp2_with (first | (go_at_call 76; refine (hin _).mono ?_; rintro e w1 ⟨rfl, m, rfl⟩) | go_in)
  go_ret
  exact ⟨rfl, m, rfl⟩
set_option maxRecDepth 10000 in
set_option maxHeartbeats 1000000 in
theorem c_idxMv (gx : Nat) (p : Int) (hp : 1 ≤ p ∧ p ≤ 6) (A : Option Addr) (L c : Nat) (l : List Int) (w : World) (hL : L = l.length) (hl : L ≤ 1000) (hs : IS w w.heap.size A l) (h1 : w.cell? ⟨gx, 0, none⟩ = some (.int .i64 p)) :
    Calls Tryz.prog 177 #[.slice A L c, .func (.func 138) #[] #[.pointer (some ⟨gx, 0, none⟩)]] w (fun e w' => ∃ k : Int, e = .returned (.int .i64 k) ∧ decide (0 ≤ k) = (l.any fun x => !inB x 0 (p - 1)) ∧ ∃ m, w' = w.drewN m) := by
  have HL := Lib.hid hL
  have hp := fun (m : Nat) (x : Int) => i_mv1 gx p x (w.drewN m) hp h1
  have HP := Lib.hid hp
  clear hL hp
  go_enter Tryz.func177, Tryz.ntmps177
  go_wp2_with (fail)
  go_loopw [8] (fun u wr => ∃ k : Nat, k ≤ L ∧ u = .int .i64 k ∧ Hid (∀ j, j < k → inB (gt l j) 0 (p - 1) = true) ∧ ∃ m, wr = w.drewN m) (fun u _ => L - (intOf u).toNat)
  case atStart => exact ⟨0, Nat.zero_le _, rfl, fun j hj => by omega, 0, rfl⟩
  case round =>
    obtain ⟨k, hk, rfl, HI, m, rfl⟩ := hrel
    by_cases hlt : k < L
    · obtain ⟨b, off, rfl, hbb, hcell⟩ := IS.at hs (k := k) (by rw [← HL.out]; exact hlt)
      have hc1 := hcell k (by rw [← HL.out]; exact hlt)
      clear hcell
      have hpx := fun m => HP.out m (gt l k)
      have hmem : gt l k ∈ l := gt_mem (by rw [← HL.out]; exact hlt)
      cases hd : inB (gt l k) 0 (p - 1)
      · have hm : (l.any fun x => !inB x 0 (p - 1)) = true := by
          rw [List.any_eq_true]
          exact ⟨gt l k, hmem, by rw [hd]; rfl⟩
        have HM := Lib.hid hm
        rw [hd] at hpx
        clear hm hd hmem
        generalize gt l k = y at *
        go_wp2_with (first | (go_at_call 138; refine (hpx _).mono ?_; rintro e w1 ⟨rfl, m1, rfl⟩) | go_in)
        go_ret
        exact ⟨k, rfl, by rw [HM.out]; simp, by first | exact dq1 | exact dq2⟩
      · have hn : ∀ j, j < k + 1 → inB (gt l j) 0 (p - 1) = true := fun j hj => by
          by_cases hjk : j = k
          · subst hjk; exact hd
          · exact HI.out j (by omega)
        have HN := Lib.hid hn
        rw [hd] at hpx
        clear hn hd hmem
        generalize gt l k = y at *
        go_wp2_with (first | (go_at_call 138; refine (hpx _).mono ?_; rintro e w1 ⟨rfl, m1, rfl⟩) | go_in)
        go_roundw
        case rel => exact ⟨k + 1, by omega, by go_num, HN.out, by first | exact dq1 | exact dq2⟩
        case measure => simp [intOf]; omega
    · obtain rfl : k = L := by omega
      have hm : (l.any fun x => !inB x 0 (p - 1)) = false := by
        rw [List.any_eq_false]
        intro x hx
        obtain ⟨j, hj, e⟩ := List.mem_iff_getElem.1 hx
        have h2 := HI.out j (by rw [HL.out]; exact hj)
        rw [show gt l j = x by simp [gt, List.getElem?_eq_getElem hj, e]] at h2
        simp [h2]
      have HM := Lib.hid hm
      clear hm
      go_wp2_with (fail)
      go_ret
      exact ⟨-1, rfl, by rw [HM.out]; simp, by first | exact dq1 | exact dq2⟩
/-- The error of a group and points. -/
def mvL (p : Int) (l pts : List Int) : Int := if grpB p l then (if pts.any fun x => !inB x 0 (p - 1) then 2 else 0) else 1
set_option maxHeartbeats 1000000 in
theorem i_movedL (p : Int) (A Ap : Option Addr) (L c m cp : Nat) (l pts : List Int) (w : World) (hL : L = l.length) (hl : L ≤ 1048576) (hs : IS w w.heap.size A l) (hm : m = pts.length) (hml : m ≤ 1000) (hsp : IS w w.heap.size Ap pts) :
    Calls Tryz.prog 70 #[.agg #[.int .i64 p, .slice A L c], .slice Ap m cp] w (M (.int .i64 (mvL p l pts)) w) := by
  obtain ⟨c0, c1, _, _⟩ := (BK.new w 26 #[.int .i64 p, .slice A L c]).two
  have hb0 := (Below.refl w.heap.size w).alloc (Nat.le_refl _) (.cells #[.int .i64 p, .slice A L c] 26)
  have hs0 := hs.call hb0
  have hg := i_IsGroup p A L c l _ hL hl hs0
  unfold mvL
  cases hgb : grpB p l
  · rw [hgb] at hg
    clear hL hs hs0 hm hsp hgb
    go_enter Tryz.func70, Tryz.ntmps70
    go_wp2_with (go_at_call 60; refine hg.mono ?_; rintro e w2 ⟨rfl, hb2⟩)
    go_ret
    exact ⟨rfl, bel_call hb0 hb2⟩
  · rw [hgb] at hg
    obtain ⟨n, rfl, h1, h2, _⟩ := grpB_t hgb
    have hct := fun W h h1' => c_contAny Ap m cp _ _ W (c_idxMv w.heap.size (n : Int) (by omega) Ap m cp pts W hm hml h h1')
    generalize (pts.any fun x => !inB x 0 ((n : Int) - 1)) = b at *
    have hsp0 := hsp.call hb0
    clear hL hs hs0 hm hsp hgb
    cases b
    · go_enter Tryz.func70, Tryz.ntmps70
      go_wp2_with (first
        | (go_at_call 60; refine hg.mono ?_; rintro e w2 ⟨rfl, hb2⟩; have c2 := (hb2.cell (p := ⟨w.heap.size, 0, none⟩) (by simp)).trans c0)
        | (go_at_call 137; refine (hct _ (hsp0.call hb2) c2).mono ?_; rintro e w3 ⟨rfl, nq, rfl⟩))
      go_ret
      exact ⟨rfl, below_drewN (bel_call hb0 hb2) _⟩
    · go_enter Tryz.func70, Tryz.ntmps70
      go_wp2_with (first
        | (go_at_call 60; refine hg.mono ?_; rintro e w2 ⟨rfl, hb2⟩; have c2 := (hb2.cell (p := ⟨w.heap.size, 0, none⟩) (by simp)).trans c0)
        | (go_at_call 137; refine (hct _ (hsp0.call hb2) c2).mono ?_; rintro e w3 ⟨rfl, nq, rfl⟩))
      go_ret
      exact ⟨rfl, below_drewN (bel_call hb0 hb2) _⟩
end Go.Proofs.YtglijcdnnaekkaaGreat
/- BlockWith: the program's search. -/
namespace Go.Proofs.YtglijcdnnaekkaaGreat
set_option linter.unusedVariables false
set_option linter.unusedSimpArgs false
open Go.RowKit

def RVC (out : List Int) (code : Int) (w : World) (e : Ending) (w' : World) : Prop := ∃ A c, e = .returned (.tuple #[.slice A out.length c, .int .i64 code]) ∧ w'.ownsRow w.heap.size 2 1 (.slice A out.length c) out.length (ints out) ∧ Below w.heap.size w w'
theorem rvc_none (w w' : World) (code : Int) (hb : Below w.heap.size w w') : RVC [] code w (.returned (.tuple #[.slice none 0 0, .int .i64 code])) w' := ⟨none, 0, rfl, World.ownsRow_nil _ _ _ _, hb⟩
def gdB (ms : List (List Int)) (x y : Nat) (pts : List Int) : Bool := decide ((x : Int) ∈ pts) && (decide ((y : Int) ∈ pts) && blkB ms pts)
theorem sI_at {n k j : Nat} (h : j < (sI n k 0).length) : ∃ pts, pts ∈ subL n k 0 ∧ gl (sI n k 0) j = tJ pts := by
  have h1 := gl_mem h
  unfold sI at h1
  obtain ⟨pts, h2, h3⟩ := List.mem_map.1 h1
  exact ⟨pts, h2, h3.symm⟩
theorem sI_in {n k j : Nat} (h : j < (sI n k 0).length) : (gl (sI n k 0) j).length = k ∧ ∀ i, i < k → 0 ≤ gt (gl (sI n k 0) j) i ∧ gt (gl (sI n k 0) j) i < (n : Int) := by
  obtain ⟨pts, h1, h2⟩ := sI_at h
  obtain ⟨h3, h4, h5⟩ := (sub_mem (Nat.zero_le _) pts).1 h1
  rw [h2]
  refine ⟨by rw [tJ_len]; exact h3, fun i hi => ?_⟩
  have h6 : gt (tJ pts) i ∈ tJ pts := gt_mem (by rw [tJ_len]; omega)
  obtain ⟨q, hq, e⟩ := mem_tJ.1 h6
  have := h5 q hq
  omega
theorem gd_iff {ms : List (List Int)} {x y : Nat} {pts : List Nat} : gdB ms x y (tJ pts) = true ↔ (x ∈ pts ∧ y ∈ pts ∧ blkB ms (tJ pts) = true) := by
  unfold gdB
  rw [Bool.and_eq_true, Bool.and_eq_true, decide_eq_true_eq, decide_eq_true_eq, mem_tJ', mem_tJ']
theorem gd_found {n : Nat} {ms : List (List Int)} {c : List Int} {x y k j : Nat} (hG : PG n ms) (h : Cls n ms [x, y] c) (hc : Cong n ms c) (hx : x < n) (hy : y < n) (hxy : ap c x = ap c y) (hk : k ≤ (clsN n c x).length) (hj : j < (sI n k 0).length) (hg : gdB ms x y (gl (sI n k 0) j) = true) : gl (sI n k 0) j = tJ (clsN n c x) := by
  obtain ⟨pts, h1, h2⟩ := sI_at hj
  rw [h2] at hg ⊢
  obtain ⟨f1, f2⟩ := find_cls hG h hc hx hy hxy h1
  have hg := gd_iff.1 hg
  by_cases hlt : k < (clsN n c x).length
  · exact absurd hg (f1 hlt)
  · rw [f2 (by omega) hg]
theorem gd_last {n : Nat} {ms : List (List Int)} {c : List Int} {x y k : Nat} (hG : PG n ms) (h : Cls n ms [x, y] c) (hc : Cong n ms c) (hx : x < n) (hy : y < n) (hxy : ap c x = ap c y) (hk : k ≤ (clsN n c x).length) (hno : ∀ j, j < (sI n k 0).length → gdB ms x y (gl (sI n k 0) j) = false) : k < (clsN n c x).length := by
  apply Classical.byContradiction
  intro hlt
  obtain rfl : k = (clsN n c x).length := by omega
  obtain ⟨h1, h2, h3, h4⟩ := cls_found hG h hc hx hy hxy
  obtain ⟨j, hj, e⟩ := List.mem_iff_getElem.1 h1
  have hj' : j < (sI n (clsN n c x).length 0).length := by unfold sI; rw [List.length_map]; exact hj
  have h5 := hno j hj'
  have h6 : gl (sI n (clsN n c x).length 0) j = tJ (clsN n c x) := by
    unfold sI
    simp [gl, List.getElem?_eq_getElem hj, e]
  rw [h6, gd_iff.2 ⟨h2, h3, h4⟩] at h5
  exact absurd h5 (by decide)
/-- What BlockWith answers. -/
def BWP (p : Int) (l : List Int) (a b : Int) (out : List Int) (code : Int) : Prop :=
  (¬ mvL p l [a, b] = 0 ∧ out = [] ∧ code = mvL p l [a, b]) ∨
  (∃ n : Nat, p = n ∧ grpB n l = true ∧ mvL p l [a, b] = 0 ∧ ¬ (orL n l 0).length = n ∧ out = [] ∧ code = 5) ∨
  (∃ n x y : Nat, ∃ c, p = n ∧ a = x ∧ b = y ∧ x < n ∧ y < n ∧ grpB n l = true ∧ mvL p l [a, b] = 0 ∧ (orL n l 0).length = n ∧ Cls n (memL n l) [x, y] c ∧ Cong n (memL n l) c ∧ ap c x = ap c y ∧ out = tJ (clsN n c x) ∧ code = 0)
theorem two_isn (w : World) (a b : Int) : IS (w.alloc (.cells #[.int .i64 a, .int .i64 b] 2)) (w.alloc (.cells #[.int .i64 a, .int .i64 b] 2)).heap.size (some ⟨w.heap.size, 0, none⟩) [a, b] :=
  own_isn (World.ownsRow_lit (base := w.heap.size) w #[.int .i64 a, .int .i64 b] 2 (Nat.le_refl _) (by simp [maxLen]) rfl) rfl
set_option maxRecDepth 20000 in
set_option maxHeartbeats 1000000 in
theorem i_BlockWith (p a b : Int) (A : Option Addr) (L c : Nat) (l : List Int) (out : List Int) (code : Int) (w : World) (hL : L = l.length) (hl : L ≤ 1048576) (hs : IS w w.heap.size A l) (h : BWP p l a b out code) :
    Calls Tryz.prog 12 #[.agg #[.int .i64 p, .slice A L c], .int .i64 a, .int .i64 b] w (RVC out code w) := by
  have B0 := BK.new w 26 #[.int .i64 p, .slice A L c]
  obtain ⟨c0, c1, _, _⟩ := B0.two
  have hb0 := (Below.refl w.heap.size w).alloc (Nat.le_refl _) (.cells #[.int .i64 p, .slice A L c] 26)
  have hs0 := hs.call hb0
  have hB0 := fun W (h : Below (w.alloc (.cells #[.int .i64 p, .slice A L c] 26)).heap.size (w.alloc (.cells #[.int .i64 p, .slice A L c] 26)) W) => (B0.below h (by simp)).two
  have htw := two_isn (w.alloc (.cells #[.int .i64 p, .slice A L c] 26)) a b
  have hze : (w.alloc (.cells #[.int .i64 p, .slice A L c] 26)).heap.size = w.heap.size + 1 := World.size_alloc _ _
  rw [hze] at htw
  clear hze
  have hbt := (Below.refl (w.alloc (.cells #[.int .i64 p, .slice A L c] 26)).heap.size (w.alloc (.cells #[.int .i64 p, .slice A L c] 26))).alloc (Nat.le_refl _) (.cells #[.int .i64 a, .int .i64 b] 2)
  have hmv := i_movedL p A _ L c 2 2 l [a, b] _ hL hl (hs0.call hbt) rfl (by omega) htw
  rcases h with ⟨hne, rfl, hce⟩ | ⟨n, rfl, hg, hm0, hnt, rfl, rfl⟩ | ⟨n, x, y, cl, rfl, rfl, rfl, hx, hy, hg, hm0, htr, hC, hCg, hxy, rfl, rfl⟩
  · rw [← hce] at hmv hne
    have hcz : (code != 0) = true := by rw [bne_iff_ne]; exact hne
    clear hce hL hs hs0 B0 hB0 htw
    go_enter Tryz.func12, Tryz.ntmps12
    go_wp2_with (go_at_call 70; refine hmv.mono ?_; rintro e w2 ⟨rfl, hb2⟩)
    go_ret2
    exact rvc_none _ _ _ (bel_call (bel_call hb0 hbt) hb2)
  · rw [hm0] at hmv
    obtain ⟨n', hn', h1, h2, h3, h4, hk⟩ := grpB_t hg
    obtain rfl : n = n' := by omega
    have htr := fun W h => i_trans n A L c l W h1 h2 hL (by omega) (by omega) hk h
    rw [decide_eq_false hnt] at htr
    have hB2 := fun W h => hB0 W (bel_call hbt h)
    clear hL hs B0 htw hB0 hk hn' hnt hg hm0
    go_enter Tryz.func12, Tryz.ntmps12
    go_wp2_with (first
      | (go_at_call 70; refine hmv.mono ?_; rintro e w2 ⟨rfl, hb2⟩; obtain ⟨d0, d1, _, _⟩ := hB2 _ hb2)
      | (go_at_call 61; refine (htr _ (hs0.call (bel_call hbt hb2))).mono ?_; rintro e w3 ⟨rfl, hb3⟩))
    go_ret2
    exact rvc_none _ _ _ (bel_call (bel_call (bel_call hb0 hbt) hb2) hb3)
  · rw [hm0] at hmv
    obtain ⟨n', hn', h1, h2, h3, h4, hk⟩ := grpB_t hg
    obtain rfl : n = n' := by omega
    have hG := pg_of hg
    have htr' := fun W h => i_trans n A L c l W h1 h2 hL (by omega) (by omega) hk h
    rw [decide_eq_true htr] at htr'
    have hB2 := fun W h => hB0 W (bel_call hbt h)
    have hib := fun Ap m cp pts W hs' h5 h6 h7 h8 h9 => i_isBlock n A Ap L c m cp l pts W h1 h2 hL (by omega) hk hs' h5 h6 h7 h8 h9
    have hfnd := fun k (hk : k ≤ (clsN n cl x).length) j hj hg => gd_found (k := k) (j := j) hG hC hCg hx hy hxy hk hj hg
    have hlst := fun k (hk : k ≤ (clsN n cl x).length) hno => gd_last (k := k) hG hC hCg hx hy hxy hk hno
    have hK1 : 1 ≤ (clsN n cl x).length := List.length_pos_of_mem (mem_cls.2 ⟨hx, rfl⟩)
    have hKn : (clsN n cl x).length ≤ n := by
      unfold clsN
      refine Nat.le_trans (List.length_filter_le _ _) ?_
      simp
    have hsub := fun k W (hk : k ≤ 6) => i_subsets n h2 k 0 W hk (Nat.zero_le _)
    rw [show ((0 : Nat) : Int) = 0 by rfl] at hsub
    have hgd : ∀ pts, gdB (memL n l) x y pts = (decide ((x : Int) ∈ pts) && (decide ((y : Int) ∈ pts) && blkB (memL n l) pts)) := fun _ => rfl
    have hol : (tJ (clsN n cl x)).length = (clsN n cl x).length := tJ_len _
    generalize tJ (clsN n cl x) = out at *
    generalize (clsN n cl x).length = K at *
    generalize gdB (memL n l) x y = gd at *
    generalize blkB (memL n l) = bl at *
    have HFND := Lib.hid hfnd
    have HLST := Lib.hid hlst
    have HGD := Lib.hid hgd
    have HOL := Lib.hid hol
    clear hL B0 htw hB0 hk hn' htr hg hm0 hG hC hCg hxy hfnd hlst hgd hol
    go_enter Tryz.func12, Tryz.ntmps12
    go_wp2_with (first
      | (go_at_call 70; refine hmv.mono ?_; rintro e w2 ⟨rfl, hb2⟩; obtain ⟨d0, d1, _, _⟩ := hB2 _ hb2)
      | (go_at_call 61; refine (htr' _ (hs0.call (bel_call hbt hb2))).mono ?_; rintro e w3 ⟨rfl, hb3⟩))
    have b3 := bel_call (bel_call (bel_call hb0 hbt) hb2) hb3
    have hs3 := hs.call b3
    have hB3 := fun W h => hB2 W (bel_call (bel_call hb2 hb3) h)
    clear hmv htr' d0 d1 hb2 hb3 hB2 hbt hb0 hs0 c0 c1
    go_loopw [9] (fun u9 wr => ∃ k : Nat, 1 ≤ k ∧ k ≤ K ∧ u9 = .int .i64 k ∧ Below w3.heap.size w3 wr) (fun u9 _ => K + 1 - (intOf u9).toNat)
    case atStart => exact ⟨1, Nat.le_refl _, hK1, rfl, Below.refl _ _⟩
    case round =>
      obtain ⟨ws, rfl⟩ : ∃ ws : World, ws = wr := ⟨_, rfl⟩
      obtain ⟨k, hk1, hkK, rfl, hb⟩ := hrel
      have hk6 : k ≤ 6 := by omega
      obtain ⟨d0, d1, _, _⟩ := hB3 _ hb
      have hsk := fun W => hsub k W hk6
      have hfd := HFND.out k hkK
      have hls := HLST.out k hkK
      have hin := fun j h => sI_in (n := n) (k := k) (j := j) h
      have hle := sI_le (n := n) (c := k) (f := 0) h2 (Nat.zero_le _)
      generalize sI n k 0 = ll at *
      generalize hR : ll.length = R at *
      have HR := Lib.hid hR.symm
      have HFD := Lib.hid hfd
      have HLS := Lib.hid hls
      have HIN := Lib.hid hin
      clear hR hfd hls hin
      go_wp2_with (go_at_call 71; refine (hsk _).mono ?_; rintro e w4 ⟨v4, rfl, ⟨vs, ho4, hr4⟩, hb4⟩; rw [← HR.out] at ho4; obtain ⟨A4, c4, rfl, _⟩ := own_slice' ho4)
      have b4 := bel_call hb hb4
      clear hsk d0 d1
      obtain ⟨wo, rfl⟩ : ∃ wo : World, wo = w4 := ⟨_, rfl⟩
      go_loopw [30] (fun u30 wr => ∃ j : Nat, j ≤ R ∧ u30 = .int .i64 j ∧ Hid (∀ i, i < j → gd (gl ll i) = false) ∧ Below wo.heap.size wo wr) (fun u30 _ => R - (intOf u30).toNat)
      case atStart => exact ⟨0, Nat.zero_le _, rfl, fun i hi => by omega, Below.refl _ _⟩
      case round =>
        obtain ⟨wx, rfl⟩ : ∃ wx : World, wx = wr := ⟨_, rfl⟩
        obtain ⟨j, hj, rfl, HI, hbx⟩ := hrel
        by_cases hlt : j < R
        · have hjl : j < ll.length := by rw [← HR.out]; exact hlt
          have hrow := hr4.2.1 j (by rw [hr4.1]; exact hjl)
          obtain ⟨g4, rfl, _, hg4, hc4⟩ := own_src ho4 (by omega)
          have e1 := (hbx.cell (p := ⟨g4, j, none⟩) hg4).trans (hc4 j _ (gv_at (by rw [hr4.1]; exact hjl)))
          obtain ⟨Ai, ci, hvi, _⟩ := own_slice' hrow
          rw [hvi] at e1 hrow
          unfold OwnI at hrow
          obtain ⟨q1, q2⟩ := HIN.out j hlt
          have hfd := HFD.out j hlt
          have hgd := HGD.out (gl ll j)
          have hnx : gd (gl ll j) = false → ∀ i, i < j + 1 → gd (gl ll i) = false := fun h i hi => by
            by_cases hij : i = j
            · subst hij; exact h
            · exact HI.out i (by omega)
          generalize gl ll j = row at *
          rw [q1] at e1 hrow
          have hrow := own_below hrow hbx
          have his := own_isn hrow q1.symm
          have bx := bel_call b4 hbx
          obtain ⟨d0, d1, _, _⟩ := hB3 _ bx
          have hsx := hs3.call bx
          have hcA := fun W h => c_hasInt Ai k ci (x : Int) row W wx.heap.size q1.symm (by omega) h
          have hcB := fun W h => c_hasInt Ai k ci (y : Int) row W wx.heap.size q1.symm (by omega) h
          have hbk := fun W h h' => hib Ai k ci row W h q1.symm hk1 hk6 q2 h'
          generalize decide ((x : Int) ∈ row) = i1 at *
          generalize decide ((y : Int) ∈ row) = i2 at *
          generalize bl row = i3 at *
          have HFD1 := Lib.hid hfd
          have HNX := Lib.hid hnx
          have HROW := Lib.hid hrow
          have HQ1 := Lib.hid q1
          clear hfd hnx hrow hvi q2 hc4
          cases i1
          · have HG := Lib.hid (hgd : gd row = false)
            clear hgd q1
            go_wp2_with (first
              | (go_at_call 72; refine (hcA _ his).mono ?_; rintro e w5 ⟨rfl, q5, rfl⟩))
            go_roundw
            case rel => exact ⟨j + 1, by omega, by go_num, HNX.out HG.out, below_drewN hbx _⟩
            case measure => simp [intOf]; omega
          cases i2
          · have HG := Lib.hid (hgd : gd row = false)
            clear hgd q1
            go_wp2_with (first
              | (go_at_call 72; refine (hcB _ (his.drewN q5)).mono ?_; rintro e w6 ⟨rfl, q6, rfl⟩)
              | (go_at_call 72; refine (hcA _ his).mono ?_; rintro e w5 ⟨rfl, q5, rfl⟩))
            go_roundw
            case rel => exact ⟨j + 1, by omega, by go_num, HNX.out HG.out, by repeat (first | exact hbx | refine below_drewN ?_ _)⟩
            case measure => simp [intOf]; omega
          cases i3
          · have HG := Lib.hid (hgd : gd row = false)
            clear hgd q1
            go_wp2_with (first
              | (go_at_call 73; refine (hbk _ (by first | exact hsx.drewN _ | exact (hsx.drewN _).drewN _) (by first | exact his.drewN _ | exact (his.drewN _).drewN _)).mono ?_; rintro e w7 ⟨rfl, hb7⟩)
              | (go_at_call 72; refine (hcB _ (his.drewN q5)).mono ?_; rintro e w6 ⟨rfl, q6, rfl⟩)
              | (go_at_call 72; refine (hcA _ his).mono ?_; rintro e w5 ⟨rfl, q5, rfl⟩))
            go_roundw
            case rel => exact ⟨j + 1, by omega, by go_num, HNX.out HG.out, bel_call hbx (undrew hb7)⟩
            case measure => simp [intOf]; omega
          · have HG := Lib.hid (HFD1.out (hgd : gd row = true))
            clear hgd q1
            go_wp2_with (first
              | (go_at_call 73; refine (hbk _ (by first | exact hsx.drewN _ | exact (hsx.drewN _).drewN _) (by first | exact his.drewN _ | exact (his.drewN _).drewN _)).mono ?_; rintro e w7 ⟨rfl, hb7⟩)
              | (go_at_call 72; refine (hcB _ (his.drewN q5)).mono ?_; rintro e w6 ⟨rfl, q6, rfl⟩)
              | (go_at_call 72; refine (hcA _ his).mono ?_; rintro e w5 ⟨rfl, q5, rfl⟩))
            have hb7 := undrew hb7
            have hzx := bx.size
            have hbz := (bel_call b3 b4).size
            go_ret2
            have e9 := HG.out
            have e8 := HQ1.out
            subst e9
            refine ⟨Ai, ci, by rw [e8]; rfl, ?_, bel_call b3 (bel_call bx hb7)⟩
            rw [e8]
            exact own_mono (own_below HROW.out hb7) (by have := b3.size; have := hb.size; omega)
        · obtain rfl : j = R := by omega
          have hkl := HLS.out HI.out
          go_wp2_with (fail)
          go_roundw
          case rel => exact ⟨k + 1, by omega, by omega, by go_num, bel_call b4 hbx⟩
          case measure => simp [intOf]; omega
end Go.Proofs.YtglijcdnnaekkaaGreat
