/- Sets of points: the program's side. -/
import Derived.Test.YtglijcdnnaekkaaGreatA201
import Derived.Test.YtglijcdnnaekkaaGreatA16
namespace Go.Proofs.YtglijcdnnaekkaaGreat
set_option linter.unusedVariables false
set_option linter.unusedSimpArgs false
open Go.RowKit

def sI (n c f : Nat) : List (List Int) := (subL n c f).map tJ
theorem sI_zero (n f : Nat) : sI n 0 f = [[]] := by unfold sI; rw [sub_zero]; rfl
theorem sI_step {n c f : Nat} (h : f + (c + 1) ≤ n) : sI n (c + 1) f = (sI n c (f + 1)).map (fun l => (f : Int) :: l) ++ sI n (c + 1) (f + 1) := by
  unfold sI
  rw [sub_step h, List.map_append, List.map_map, List.map_map]
  rfl
theorem sI_end {n c f : Nat} (h : ¬ f + (c + 1) ≤ n) : sI n (c + 1) f = [] := by unfold sI; rw [sub_end h]; rfl
theorem sI_small : ∀ n c f : Fin 8, (sI n c f).length ≤ 64 := by decide +kernel
theorem sI_le {n c f : Nat} (hn : n ≤ 6) (hf : f ≤ n + 1) : (sI n c f).length ≤ 64 := by
  by_cases hc : c < 8
  · exact sI_small ⟨n, by omega⟩ ⟨c, hc⟩ ⟨f, by omega⟩
  · obtain ⟨c, rfl⟩ : ∃ d, c = d + 1 := ⟨c - 1, by omega⟩
    rw [sI_end (by omega)]
    simp
theorem sI_row {n c f : Nat} (hf : f ≤ n) {l : List Int} (h : l ∈ sI n c f) : l.length = c := by
  unfold sI at h
  obtain ⟨p, hp, rfl⟩ := List.mem_map.1 h
  rw [tJ_len]
  exact ((sub_mem hf p).1 hp).1
theorem i_subsets_zero (n f : Nat) (w : World) : Calls Tryz.prog 71 #[.int .i64 n, .int .i64 f, .int .i64 0] w (fun e w' => ∃ v, e = .returned v ∧ OwnII w' w.heap.size v [[]] ∧ Below w.heap.size w w') := by
  go_enter Tryz.func71, Tryz.ntmps71
  go_wp2_with (fail)
  go_ret
  refine ⟨_, rfl, ?_, ?_⟩
  · refine ⟨[.slice none 0 0], ?_, rfl, fun i hi => ?_, fun i j h1 h2 => by simp at h2; omega⟩
    · exact World.ownsRow_lit (base := w.heap.size) (size := 1) w #[.slice none 0 0] 1 (Nat.le_refl _) (by simp [maxLen]) rfl
    · simp at hi
      subst hi
      exact World.ownsRow_nil _ _ _ _
  · exact (Below.refl _ _).alloc (Nat.le_refl _) _
set_option maxRecDepth 10000 in
set_option maxHeartbeats 4000000 in
theorem i_subsets (n : Nat) (hn6 : n ≤ 6) : ∀ (c k : Nat) (w : World), c ≤ 6 → k ≤ n →
    Calls Tryz.prog 71 #[.int .i64 n, .int .i64 k, .int .i64 c] w (fun e w' => ∃ v, e = .returned v ∧ OwnII w' w.heap.size v (sI n c k) ∧ Below w.heap.size w w') := by
  intro c
  induction c with
  | zero =>
    intro k w _ _
    rw [sI_zero]
    exact i_subsets_zero n k w
  | succ c ih =>
    intro k w hc6 hk
    obtain ⟨i0, hi, hz0, hz1, hz2⟩ := info_parts infoI64
    obtain ⟨i1, hi1, hy0, hy1, hy2⟩ := info_parts infoSl
    have IH := Lib.hid ih
    clear ih
    have hcz : (((c + 1 : Nat) : Int) == 0) = false := by rw [beq_eq_false_iff_ne]; omega
    have hcs : ((c + 1 : Nat) : Int) = (c : Int) + 1 := by omega
    rw [hcs] at hcz ⊢
    have hcm : (c : Int) + 1 - 1 = (c : Int) := by omega
    clear hcs
    have HCM := Lib.hid hcm
    clear hcm
    go_enter Tryz.func71, Tryz.ntmps71
    go_wp2_with (fail)
    go_loopw [7, 8] (fun u7 u8 wr => ∃ (kk : Nat) (acc : List (List Int)), k ≤ kk ∧ kk ≤ n + 1 ∧ u8 = .int .i64 kk ∧ Hid (acc ++ sI n (c + 1) kk = sI n (c + 1) k) ∧ OwnII wr w.heap.size u7 acc ∧ Below w.heap.size w wr) (fun _ u8 _ => n + 1 - (intOf u8).toNat)
    case atStart => exact ⟨k, [], Nat.le_refl _, by omega, rfl, by simp [Hid], own_nil _ _, Below.refl _ _⟩
    case round =>
      obtain ⟨ws, rfl⟩ : ∃ ws : World, ws = wr := ⟨_, rfl⟩
      obtain ⟨kk, acc, hkk, hkn, rfl, HG, hown, hb⟩ := hrel
      by_cases hle : kk + (c + 1) ≤ n
      · have hrl := sI_le (n := n) (c := c) (f := kk + 1) hn6 (by omega)
        have hrw : ∀ l ∈ sI n c (kk + 1), l.length ≤ 6 := fun l h => by rw [sI_row (by omega) h]; omega
        have hal : acc.length + (sI n c (kk + 1)).length ≤ 64 := by
          have h1 := sI_le (n := n) (c := c + 1) (f := k) hn6 (by omega)
          have h2 := HG.out
          rw [sI_step hle] at h2
          rw [← h2] at h1
          simp at h1; omega
        generalize hrest : sI n c (kk + 1) = restl at *
        have HREST := Lib.hid hrest
        clear hrest
        have HRW := Lib.hid hrw
        clear hrw
        obtain ⟨R, hR⟩ : ∃ R, R = restl.length := ⟨_, rfl⟩
        rw [← hR] at hal hrl
        have HR := Lib.hid hR
        clear hR
        have hik := fun W => IH.out (kk + 1) W (by omega) (by omega)
        rw [HREST.out, show ((kk + 1 : Nat) : Int) = (kk : Int) + 1 by omega] at hik
        go_wp2_with (go_at_call 71; (try rw [HCM.out]); refine (hik _).mono ?_; rintro e w2 ⟨vr, rfl, ⟨rvs, hro, hrr⟩, hb2⟩; rw [← HR.out] at hro; obtain ⟨Ar, capr, rfl, _⟩ := own_slice' hro)
        obtain ⟨vs, ho, hrows⟩ := hown
        have b2 : Below w.heap.size w w2 := hb.trans (hb2.mono hb.size)
        have hst : TyIn w w2 ws.heap.size kk acc restl 0 u7 w2 :=
          ⟨⟨vs, by simpa using own_below ho hb2, by simpa using hrows.below hb2⟩, Mid.refl _ _, fun g hg => .inl (ho.lt g hg).2, b2⟩
        have hal2 := hal
        clear ho hrows b2 hal hrl hik
        obtain ⟨wo, rfl⟩ : ∃ wo : World, wo = w2 := ⟨_, rfl⟩
        go_loopw [7, 29] (fun u7 u29 wr' => ∃ i : Nat, i ≤ R ∧ u29 = .int .i64 i ∧ TyIn w wo ws.heap.size kk acc restl i u7 wr') (fun _ u29 _ => R - (intOf u29).toNat)
        case atStart => exact ⟨0, Nat.zero_le _, rfl, hst⟩
        case round =>
          clear hst
          obtain ⟨i, hiR, rfl, ⟨vs, ho, hrows⟩, hm, h5, hb'⟩ := hrel
          by_cases hlt : i < R
          · have hrowi := (hrr.mid hm).2.1 i (by rw [hrr.1, ← HR.out]; exact hlt)
            obtain ⟨gr, rfl, _, _, hcr⟩ := own_src (own_mid hro hm) (by omega)
            have hcell := hcr i _ (gv_at (by rw [hrr.1, ← HR.out]; exact hlt))
            clear hcr
            obtain ⟨Ai, ci, hvi, _⟩ := own_slice' hrowi
            rw [hvi] at hcell hrowi
            clear hvi
            unfold OwnI at hrowi
            have hLi : (gl restl i).length ≤ 6 := HRW.out _ (gl_mem (by rw [← HR.out]; exact hlt))
            obtain ⟨A5, c5, rfl, _⟩ := own_slice' ho
            have hlen5 : (acc ++ (restl.take i).map (fun l => (kk : Int) :: l)).length ≤ 64 := by simp; omega
            have HL : Hid ((gl restl i).length ≤ 6) := hLi
            generalize hLe : (gl restl i).length = L at *
            have HLE := Lib.hid hLe
            clear hLe
            generalize hne : (acc ++ (restl.take i).map (fun l => (kk : Int) :: l)).length = N5 at *
            have HNE := Lib.hid hne
            clear hne
            have hsz := hb'.size
            go_wp2_with (first
              | (at_builtin; refine wpList_append_src rfl (.tmp 35) (.tmp 36) 24 rfl wr.heap.size 2 i0 (.int .i64 0) 1 8 Tryz.underlying24 hi hz0 hz1 hz2 rfl (by omega) (.slice (some ⟨wr.heap.size, 0, none⟩) 1 1) 1 [.int .i64 (kk : Int)] rfl (own_one wr _ _) Ai L ci (ints (gl restl i)) rfl (by rw [ints_length, HLE.out, Nat.mul_one]) (own_hsrc (World.ownsRow.alloc hrowi _)) (own_hnil hrowi) (ints_one _) (by simp only [maxLen]; omega) (by omega) (by simp) ?_; intro v1 w1 hown1 hg1 hat1; obtain ⟨A1, c1, rfl, _⟩ := own_slice' hown1; clear hat1)
              | (at_builtin; refine wpList_append_src rfl (.tmp 33) (.tmp 38) 29 rfl w.heap.size 24 i1 (.slice none 0 0) 1 24 Tryz.underlying29 hi1 hy0 hy1 hy2 rfl (by omega) (.slice A5 N5 c5) N5 vs rfl (own_below ho ((new_below hg1).alloc (new_below hg1).size _)) (some ⟨w1.heap.size, 0, none⟩) 1 1 [.slice A1 (1 + L) c1] rfl rfl (one_src w1 _ _) (by intro h; cases h) (by intro u hu; simp at hu; subst hu; rfl) (by simp only [maxLen]; omega) (by omega) (by have := (new_below hg1).size; simp; omega) ?_; intro v2 w3 hown2 hg2 hat2))
            go_roundw
            case rel =>
              refine ⟨i + 1, by omega, by go_num, ?_⟩
              have hi' : i < restl.length := by rw [← HR.out]; exact hlt
              rw [← HLE.out] at hown1 hown2
              rw [← HNE.out] at ho hown2 h5 hg2 hat2
              exact TyIn.round hi' ho hrows hm h5 hb' hown1 hg1 rfl hown2 hg2 hat2
            case measure => simp [intOf]; omega
          · obtain rfl : i = R := by omega
            have hfin : acc ++ (restl.take i).map (fun l => (kk : Int) :: l) = acc ++ restl.map (fun l => (kk : Int) :: l) := by
              rw [List.take_of_length_le (by rw [← HR.out]; exact Nat.le_refl _)]
            rw [hfin] at ho hrows
            have HNL := Lib.hid ho
            clear ho hfin
            go_wp2_with (fail)
            go_roundw
            case rel =>
              refine ⟨kk + 1, acc ++ restl.map (fun l => (kk : Int) :: l), by omega, by omega, by go_num, ?_, ⟨vs, HNL.out, hrows⟩, hb'⟩
              have h1 := HG.out
              rw [sI_step hle, HREST.out] at h1
              unfold Hid
              rw [List.append_assoc]; exact h1
            case measure => simp [intOf]; omega
      · have hfin : acc = sI n (c + 1) k := by
          have h1 := HG.out
          rwa [sI_end hle, List.append_nil] at h1
        rw [hfin] at hown
        have HOW := Lib.hid hown
        clear hown hfin
        go_wp2_with (fail)
        go_ret
        exact ⟨_, rfl, HOW.out, hb⟩
end Go.Proofs.YtglijcdnnaekkaaGreat
