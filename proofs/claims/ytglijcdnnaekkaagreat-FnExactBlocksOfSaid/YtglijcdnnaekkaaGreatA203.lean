/- Images of sets of points; is a set a block: the program's side. -/
import Derived.Test.YtglijcdnnaekkaaGreatA202
import Derived.Test.YtglijcdnnaekkaaGreatA173
import Derived.Test.YtglijcdnnaekkaaGreatA174
namespace Go.Proofs.YtglijcdnnaekkaaGreat
set_option linter.unusedVariables false
set_option linter.unusedSimpArgs false
open Go.RowKit

set_option maxRecDepth 10000 in
set_option maxHeartbeats 2000000 in
theorem i_image (A Ap : Option Addr) (n ca m cp : Nat) (a pts : List Int) (w : World) (ha : InR n a) (hn6 : n ≤ 6) (hs : IS w w.heap.size A a) (hm : m = pts.length) (h0 : 0 < m) (hm6 : m ≤ 6) (hp : ∀ k, k < m → 0 ≤ gt pts k ∧ gt pts k < (n : Int)) (hsp : IS w w.heap.size Ap pts) :
    Calls Tryz.prog 125 #[.slice A n ca, .slice Ap m cp] w (MI w.heap.size m (imgL a pts) w) := by
  obtain ⟨i0, hi, hz0, hz1, hz2⟩ := info_parts infoI64
  have hI : imgL a pts = ((pts.map fun x => gt a x.toNat).mergeSort fun x y => decide (x ≤ y)) := rfl
  rw [hI]
  have htk : ∀ k, k < m → ((pts.take (k + 1)).map fun x => gt a x.toNat) = ((pts.take k).map fun x => gt a x.toNat) ++ [gt a (gt pts k).toNat] := fun k hk => by
    have hk' : k < pts.length := by omega
    rw [List.take_succ_eq_append_getElem hk', List.map_append]
    simp [gt_eq hk']
  have hfl : ((pts.take m).map fun x => gt a x.toNat) = pts.map fun x => gt a x.toNat := by rw [List.take_of_length_le (by omega)]
  generalize (pts.map fun x => gt a x.toNat) = fin at *
  have HTK := Lib.hid htk
  have HFL := Lib.hid hfl
  have HP := Lib.hid hp
  have HM := Lib.hid hm
  have HAL := Lib.hid ha.1.symm
  clear hI htk hfl hp hm ha
  go_enter Tryz.func125, Tryz.ntmps125
  go_wp2_with (fail)
  go_loopw [5, 10] (fun u5 u10 wr => ∃ k : Nat, k ≤ m ∧ u10 = .int .i64 k ∧ wr.ownsRow w.heap.size 2 1 u5 k (ints ((pts.take k).map fun x => gt a x.toNat)) ∧ Below w.heap.size w wr) (fun _ u10 _ => m - (intOf u10).toNat)
  case atStart => exact ⟨0, Nat.zero_le _, rfl, World.ownsRow_nil _ _ _ _, Below.refl _ _⟩
  case round =>
    obtain ⟨ws, rfl⟩ : ∃ ws : World, ws = wr := ⟨_, rfl⟩
    obtain ⟨k, hk, rfl, hown, hb⟩ := hrel
    obtain ⟨A3, c3, rfl, _⟩ := own_slice' hown
    have hsz := hb.size
    by_cases hlt : k < m
    · obtain ⟨b, off, rfl, hbb, hcell⟩ := hsp.at (k := k) (by rw [← HM.out]; exact hlt)
      have e1 := (hb.cell (p := ⟨b, off + k, none⟩) hbb).trans (hcell k (by rw [← HM.out]; exact hlt))
      obtain ⟨p1, p2⟩ := HP.out k hlt
      obtain ⟨q, hq⟩ := Int.eq_ofNat_of_zero_le p1
      have hst := HTK.out k hlt
      rw [hq] at e1 p2 hst
      rw [Int.toNat_natCast] at hst
      have hqn : q < n := by omega
      obtain ⟨b2, off2, rfl, hbb2, hcell2⟩ := hs.at (k := q) (by rw [← HAL.out]; exact hqn)
      have e2 := (hb.cell (p := ⟨b2, off2 + q, none⟩) hbb2).trans (hcell2 q (by rw [← HAL.out]; exact hqn))
      generalize gt a q = y at *
      have HST := Lib.hid hst
      clear hst hcell hcell2 hq p1 p2
      go_wp2_with (first
        | (at_builtin; refine wpList_append_src rfl (.tmp 14) (.tmp 19) 24 rfl w.heap.size 2 i0 (.int .i64 0) 1 8 Tryz.underlying24 hi hz0 hz1 hz2 rfl (by omega) (.slice A3 k c3) k (ints ((pts.take k).map fun x => gt a x.toNat)) rfl (World.ownsRow.alloc hown _) (some ⟨ws.heap.size, 0, none⟩) 1 1 [.int .i64 y] rfl rfl (one_src ws _ _) (by intro h; cases h) (by intro u hu; simp at hu; subst hu; rfl) (by simp only [maxLen]; omega) (by omega) (by simp; omega) ?_; intro v7 w7 hown7 hg7 hat7)
        | go_in)
      go_roundw
      case rel => exact ⟨k + 1, by omega, by go_num, by rw [HST.out, ints_snoc]; exact hown7, (hb.alloc hsz _).grown hg7 (by simp; omega) (fun g hg => (hown.lt g hg).1)⟩
      case measure => simp [intOf]; omega
    · obtain rfl : k = m := by omega
      rw [HFL.out] at hown
      obtain ⟨g, rfl, hg0, hg1, _⟩ := own_src hown h0
      go_wp2_with (fail)
      refine (c_sort _ g k c3 _ _ hown (by omega)).mono ?_
      rintro e w5 ⟨rfl, hown5, hg5⟩
      go_wp2_with (fail)
      go_ret
      exact ⟨_, rfl, hown5, hb.grown hg5 hsz (fun x hx => by injection hx; omega)⟩
set_option maxHeartbeats 1000000 in
theorem i_blk2 (gx : Nat) (A : Option Addr) (L c : Nat) (x : Int) (l : List Int) (w : World) (hL : L = l.length) (hl : L ≤ 1000) (hs : IS w w.heap.size A l) (h1 : w.cell? ⟨gx, 0, none⟩ = some (.slice A L c)) :
    Calls Tryz.prog 141 #[.int .i64 x, .pointer (some ⟨gx, 0, none⟩)] w (Q (.bool (decide (x ∈ l))) w) := by
  have hc := fun W h => c_hasInt A L c x l W w.heap.size hL hl h
  generalize decide (x ∈ l) = b at *
  clear hL
  go_enter Tryz.func141, Tryz.ntmps141
  go_wp2_with (first | (go_at_call 72; refine (hc _ hs).mono ?_; rintro e w1 ⟨rfl, m, rfl⟩) | go_in)
  go_ret
  exact ⟨rfl, m, rfl⟩
set_option maxRecDepth 10000 in
set_option maxHeartbeats 1000000 in
theorem c_idxBlk (gx : Nat) (A' : Option Addr) (L' c' : Nat) (l' : List Int) (A : Option Addr) (L c : Nat) (l : List Int) (w : World) (hL : L = l.length) (hl : L ≤ 1000) (hs : IS w w.heap.size A l) (hL' : L' = l'.length) (hl' : L' ≤ 1000) (hs' : IS w w.heap.size A' l') (h1 : w.cell? ⟨gx, 0, none⟩ = some (.slice A' L' c')) :
    Calls Tryz.prog 177 #[.slice A L c, .func (.func 141) #[] #[.pointer (some ⟨gx, 0, none⟩)]] w (fun e w' => ∃ k : Int, e = .returned (.int .i64 k) ∧ decide (0 ≤ k) = (l.any fun x => decide (x ∈ l')) ∧ ∃ m, w' = w.drewN m) := by
  have HL := Lib.hid hL
  have hp := fun (m : Nat) (x : Int) => i_blk2 gx A' L' c' x l' (w.drewN m) hL' hl' hs' h1
  have HP := Lib.hid hp
  clear hL hL' hp hs'
  go_enter Tryz.func177, Tryz.ntmps177
  go_wp2_with (fail)
  go_loopw [8] (fun u wr => ∃ k : Nat, k ≤ L ∧ u = .int .i64 k ∧ Hid (∀ j, j < k → ¬ gt l j ∈ l') ∧ ∃ m, wr = w.drewN m) (fun u _ => L - (intOf u).toNat)
  case atStart => exact ⟨0, Nat.zero_le _, rfl, fun j hj => by omega, 0, rfl⟩
  case round =>
    obtain ⟨k, hk, rfl, HI, m, rfl⟩ := hrel
    by_cases hlt : k < L
    · obtain ⟨b, off, rfl, hbb, hcell⟩ := IS.at hs (k := k) (by rw [← HL.out]; exact hlt)
      have hc1 := hcell k (by rw [← HL.out]; exact hlt)
      clear hcell
      have hpx := fun m => HP.out m (gt l k)
      have hmem : gt l k ∈ l := gt_mem (by rw [← HL.out]; exact hlt)
      by_cases heq : gt l k ∈ l'
      · have hm : (l.any fun x => decide (x ∈ l')) = true := by
          rw [List.any_eq_true]
          exact ⟨gt l k, hmem, by simpa using heq⟩
        have HM := Lib.hid hm
        have hd : decide (gt l k ∈ l') = true := by simpa using heq
        rw [hd] at hpx
        clear hm heq hd hmem
        generalize gt l k = y at *
        go_wp2_with (first | (go_at_call 141; refine (hpx _).mono ?_; rintro e w1 ⟨rfl, m1, rfl⟩) | go_in)
        go_ret
        exact ⟨k, rfl, by rw [HM.out]; simp, by first | exact dq1 | exact dq2⟩
      · have hn : ∀ j, j < k + 1 → ¬ gt l j ∈ l' := fun j hj => by
          by_cases hjk : j = k
          · subst hjk; exact heq
          · exact HI.out j (by omega)
        have HN := Lib.hid hn
        have hd : decide (gt l k ∈ l') = false := by simpa using heq
        rw [hd] at hpx
        clear hn heq hd hmem
        generalize gt l k = y at *
        go_wp2_with (first | (go_at_call 141; refine (hpx _).mono ?_; rintro e w1 ⟨rfl, m1, rfl⟩) | go_in)
        go_roundw
        case rel => exact ⟨k + 1, by omega, by go_num, HN.out, by first | exact dq1 | exact dq2⟩
        case measure => simp [intOf]; omega
    · obtain rfl : k = L := by omega
      have hm : (l.any fun x => decide (x ∈ l')) = false := by
        rw [List.any_eq_false]
        intro x hx
        obtain ⟨j, hj, e⟩ := List.mem_iff_getElem.1 hx
        have h2 := HI.out j (by rw [HL.out]; exact hj)
        rw [show gt l j = x by simp [gt, List.getElem?_eq_getElem hj, e]] at h2
        simpa using h2
      have HM := Lib.hid hm
      clear hm
      go_wp2_with (fail)
      go_ret
      exact ⟨-1, rfl, by rw [HM.out]; simp, by first | exact dq1 | exact dq2⟩
set_option maxHeartbeats 1000000 in
theorem c_contAny (A : Option Addr) (L c : Nat) (v : Value) (b : Bool) (w : World) (hc : Calls Tryz.prog 177 #[.slice A L c, v] w (fun e w' => ∃ k : Int, e = .returned (.int .i64 k) ∧ decide (0 ≤ k) = b ∧ ∃ m, w' = w.drewN m)) :
    Calls Tryz.prog 137 #[.slice A L c, v] w (Q (.bool b) w) := by
  cases b
  · have hc2 := hc.mono (R' := fun e w' => ∃ k : Int, e = .returned (.int .i64 k) ∧ k < 0 ∧ ∃ m, w' = w.drewN m) (fun e w' ⟨k, h1, h2, h3⟩ => ⟨k, h1, by have := of_decide_eq_false h2; omega, h3⟩)
    clear hc
    go_enter Tryz.func137, Tryz.ntmps137
    go_wp2_with (go_at_call 177; refine hc2.mono ?_; rintro e w1 ⟨k, rfl, hk, m, rfl⟩)
    go_ret
    exact ⟨ret_bool (by first | rfl | (simp; omega)), m, rfl⟩
  · have hc2 := hc.mono (R' := fun e w' => ∃ k : Int, e = .returned (.int .i64 k) ∧ 0 ≤ k ∧ ∃ m, w' = w.drewN m) (fun e w' ⟨k, h1, h2, h3⟩ => ⟨k, h1, of_decide_eq_true h2, h3⟩)
    clear hc
    go_enter Tryz.func137, Tryz.ntmps137
    go_wp2_with (go_at_call 177; refine hc2.mono ?_; rintro e w1 ⟨k, rfl, hk, m, rfl⟩)
    go_ret
    exact ⟨ret_bool (by first | rfl | (simp; omega)), m, rfl⟩
/-- A set that a permutation neither keeps nor moves away as a whole. -/
def badB (a pts : List Int) : Bool := !(decide (imgL a pts = pts)) && (imgL a pts).any fun x => decide (x ∈ pts)
theorem blkB_eq (ms : List (List Int)) (pts : List Int) : blkB ms pts = !(ms.any fun a => badB a pts) := rfl
set_option maxRecDepth 10000 in
set_option maxHeartbeats 2000000 in
theorem i_blk1 (A Ap : Option Addr) (n ca m cp gx : Nat) (a pts : List Int) (w : World) (ha : InR n a) (hn6 : n ≤ 6) (hs : IS w w.heap.size A a) (hm : m = pts.length) (h0 : 0 < m) (hm6 : m ≤ 6) (hp : ∀ k, k < m → 0 ≤ gt pts k ∧ gt pts k < (n : Int)) (hsp : IS w w.heap.size Ap pts) (hgx : gx < w.heap.size) (hx : w.cell? ⟨gx, 0, none⟩ = some (.slice Ap m cp)) :
    Calls Tryz.prog 140 #[.slice A n ca, .pointer (some ⟨gx, 0, none⟩)] w (M (.bool (badB a pts)) w) := by
  have him := i_image A Ap n ca m cp a pts w ha hn6 hs hm h0 hm6 hp hsp
  have hil : m = (imgL a pts).length := by rw [img_len]; exact hm
  have hbd : badB a pts = (!(decide (imgL a pts = pts)) && (imgL a pts).any fun x => decide (x ∈ pts)) := rfl
  rw [hbd]
  have hsm := fun A2 c2 W h1 h2 => i_same A2 Ap m c2 m cp (imgL a pts) pts W W.heap.size W.heap.size hil hm (by omega) (by omega) h1 h2
  have hct := fun A2 c2 W h1 h2 h3 => c_contAny A2 m c2 _ _ W (c_idxBlk gx Ap m cp pts A2 m c2 (imgL a pts) W hil (by omega) h1 hm (by omega) h2 h3)
  have HIL := Lib.hid hil
  generalize decide (imgL a pts = pts) = b1 at *
  generalize ((imgL a pts).any fun x => decide (x ∈ pts)) = b2 at *
  generalize imgL a pts = im at *
  clear hbd hil hm hp ha hs
  cases b1
  · go_enter Tryz.func140, Tryz.ntmps140
    go_wp2_with (first
      | (go_at_call 125; refine him.mono ?_; rintro e w1 ⟨v1, rfl, ho, hb1⟩; obtain ⟨A2, c2, rfl, _⟩ := own_slice' ho; have his := own_isn ho HIL.out; have hx1 := (hb1.cell (p := ⟨gx, 0, none⟩) hgx).trans hx; have hsp1 := hsp.call hb1)
      | (go_at_call 95; refine (hsm A2 c2 _ his hsp1).mono ?_; rintro e w2 ⟨rfl, q2, rfl⟩)
      | (go_at_call 137; refine (hct A2 c2 _ (his.drewN q2) (hsp1.drewN q2) hx1).mono ?_; rintro e w3 ⟨rfl, q3, rfl⟩))
    go_ret
    refine ⟨by cases b2 <;> rfl, ?_⟩
    repeat (first | exact hb1 | refine below_drewN ?_ _)
  · go_enter Tryz.func140, Tryz.ntmps140
    go_wp2_with (first
      | (go_at_call 125; refine him.mono ?_; rintro e w1 ⟨v1, rfl, ho, hb1⟩; obtain ⟨A2, c2, rfl, _⟩ := own_slice' ho; have his := own_isn ho HIL.out; have hx1 := (hb1.cell (p := ⟨gx, 0, none⟩) hgx).trans hx; have hsp1 := hsp.call hb1)
      | (go_at_call 95; refine (hsm A2 c2 _ his hsp1).mono ?_; rintro e w2 ⟨rfl, q2, rfl⟩))
    go_ret
    refine ⟨rfl, ?_⟩
    repeat (first | exact hb1 | refine below_drewN ?_ _)
set_option maxHeartbeats 1000000 in
theorem i_idxBl (A : Option Addr) (L c n : Nat) (ll : List (List Int)) (w : World) (B : Nat) (hL : L = ll.length) (hl : L ≤ 1048576) (hB : B ≤ w.heap.size) (hs : II w B A ll) (Ap : Option Addr) (m cp gx : Nat) (pts : List Int) (hn6 : n ≤ 6) (hin : ∀ k, k < L → InR n (gl ll k)) (hm : m = pts.length) (h0 : 0 < m) (hm6 : m ≤ 6) (hpn : ∀ k, k < m → 0 ≤ gt pts k ∧ gt pts k < (n : Int)) (hsp : IS w w.heap.size Ap pts) (hgx : gx < w.heap.size) (hx : w.cell? ⟨gx, 0, none⟩ = some (.slice Ap m cp)) :
    Calls Tryz.prog 164 #[.slice A L c, .func (.func 140) #[] #[.pointer (some ⟨gx, 0, none⟩)]] w (fun e w' => ∃ k : Int, e = .returned (.int .i64 k) ∧ decide (0 ≤ k) = (ll.any fun a => badB a pts) ∧ Below w.heap.size w w') := by
  have HL := Lib.hid hL
  clear hL
  go_enter Tryz.func164, Tryz.ntmps164
  go_wp2_with (fail)
  go_loopw [8] (fun u8 wr => ∃ k : Nat, k ≤ L ∧ u8 = .int .i64 k ∧ Hid (∀ j, j < k → (fun a : List Int => badB a pts) (gl ll j) = false) ∧ Below w.heap.size w wr) (fun u8 _ => L - (intOf u8).toNat)
  case atStart => exact ⟨0, Nat.zero_le _, rfl, fun j hj => by omega, Below.refl _ _⟩
  case round =>
    obtain ⟨ws, rfl⟩ : ∃ ws : World, ws = wr := ⟨_, rfl⟩
    obtain ⟨k, hk, rfl, HI, hb⟩ := hrel
    have hsz := hb.size
    by_cases hlt : k < L
    · obtain ⟨b, off, rfl, hbb, hcell⟩ := hs.at (k := k) (by rw [← HL.out]; exact hlt)
      obtain ⟨A', c', e1, _, _, his⟩ := hcell k (by rw [← HL.out]; exact hlt)
      have e1 := (hb.cell (p := ⟨b, off + k, none⟩) (by show b < _; omega)).trans e1
      have his := (his.below (hb.mono hB)).more (show B ≤ ws.heap.size by omega)
      have hR := hin k hlt; rw [hR.1] at e1; have hp := fun W hW => i_blk1 A' Ap n c' m cp gx (gl ll k) pts W hR hn6 (IS.call his hW) hm h0 hm6 hpn ((hsp.call hb).call hW) (by have := hW.size; omega) ((hW.cell (p := ⟨gx, 0, none⟩) (by show gx < _; omega)).trans ((hb.cell (p := ⟨gx, 0, none⟩) hgx).trans hx)); clear hR hsp hm hpn
      clear hcell
      by_cases hneg : (fun a : List Int => badB a pts) (gl ll k) = true
      · have hany : (ll.any fun a => badB a pts) = true := by
          rw [List.any_eq_true]
          exact ⟨gl ll k, gl_mem (by rw [← HL.out]; exact hlt), hneg⟩
        have HANY := Lib.hid hany
        have hneg : (fun a : List Int => badB a pts) (gl ll k) = true := hneg
        simp only [hneg] at hp
        clear hany his hs
        go_wp2_with (first | (go_at_call 140; refine (hp _ (Below.refl _ _)).mono ?_; rintro e w2 ⟨rfl, hb2⟩) | go_in)
        go_ret
        exact ⟨k, rfl, by rw [HANY.out]; simp, hb.trans (hb2.mono hsz)⟩
      · have hneg : (fun a : List Int => badB a pts) (gl ll k) = false := by rw [Bool.eq_false_iff]; exact hneg
        simp only [hneg] at hp
        have hn' : ∀ j, j < k + 1 → (fun a : List Int => badB a pts) (gl ll j) = false := fun j hj => by
          by_cases hjk : j = k
          · subst hjk; exact hneg
          · exact HI.out j (by omega)
        have HN' := Lib.hid hn'
        clear hn' his hs
        go_wp2_with (first | (go_at_call 140; refine (hp _ (Below.refl _ _)).mono ?_; rintro e w2 ⟨rfl, hb2⟩) | go_in)
        go_roundw
        case rel => exact ⟨k + 1, by omega, by go_num, HN'.out, hb.trans (hb2.mono hsz)⟩
        case measure => simp [intOf]; omega
    · obtain rfl : k = L := by omega
      have hany : (ll.any fun a => badB a pts) = false := by
        rw [List.any_eq_false]
        intro a ha
        obtain ⟨j, hj, rfl⟩ := mem_gl.1 ha
        have h9 := HI.out j (by rw [HL.out]; exact hj)
        exact Bool.eq_false_iff.1 h9
      have HANY := Lib.hid hany
      clear hany
      go_wp2_with (fail)
      go_ret
      exact ⟨-1, rfl, by rw [HANY.out]; simp, hb⟩
theorem i_idxBlC (A : Option Addr) (L c n : Nat) (ll : List (List Int)) (w : World) (B : Nat) (hL : L = ll.length) (hl : L ≤ 1048576) (hB : B ≤ w.heap.size) (hs : II w B A ll) (Ap : Option Addr) (m cp gx : Nat) (pts : List Int) (hn6 : n ≤ 6) (hin : ∀ k, k < L → InR n (gl ll k)) (hm : m = pts.length) (h0 : 0 < m) (hm6 : m ≤ 6) (hpn : ∀ k, k < m → 0 ≤ gt pts k ∧ gt pts k < (n : Int)) (hsp : IS w w.heap.size Ap pts) (hgx : gx < w.heap.size) (hx : w.cell? ⟨gx, 0, none⟩ = some (.slice Ap m cp)) :
    Calls Tryz.prog 103 #[.slice A L c, .func (.func 140) #[] #[.pointer (some ⟨gx, 0, none⟩)]] w (M (.bool (ll.any fun a => badB a pts)) w) := c_contains A L c _ _ w (i_idxBl A L c n ll w B hL hl hB hs Ap m cp gx pts hn6 hin hm h0 hm6 hpn hsp hgx hx)
set_option maxRecDepth 10000 in
set_option maxHeartbeats 2000000 in
theorem i_isBlock (n : Nat) (A Ap : Option Addr) (L c m cp : Nat) (l pts : List Int) (w : World) (hn : 1 ≤ n) (hn6 : n ≤ 6) (hL : L = l.length) (hl : L ≤ 1000) (hk : InK n l) (hs : IS w w.heap.size A l) (hm : m = pts.length) (h0 : 0 < m) (hm6 : m ≤ 6) (hp : ∀ k, k < m → 0 ≤ gt pts k ∧ gt pts k < (n : Int)) (hsp : IS w w.heap.size Ap pts) :
    Calls Tryz.prog 73 #[.agg #[.int .i64 n, .slice A L c], .slice Ap m cp] w (M (.bool (blkB (memL n l) pts)) w) := by
  have hmi := mem_InR hk hL
  have hml' := memL_len n l
  rw [blkB_eq]
  have hbb := fun Am cm W B h1 h2 h3 h4 h5 => i_idxBlC Am L cm n (memL n l) W B (by rw [hml', hL]) (by omega) h1 h2 Ap m cp (w.heap.size + 1) pts hn6 hmi hm h0 hm6 hp h3 h4 h5
  have hmb := fun W h => i_members n A L c l W hn hn6 hL (by omega) hk h
  generalize ((memL n l).any fun a => badB a pts) = bb at *
  rw [← hL] at hml'
  generalize memL n l = ll at *
  have HML := Lib.hid hml'
  clear hL hk hm hmi hml' hp
  obtain ⟨f0, f1, _, _⟩ := (BK.new w 26 #[.int .i64 (n : Int), .slice A L c]).two
  have hB1 := BK.new (w.alloc (.cells #[.int .i64 (n : Int), .slice A L c] 26)) 24 #[.slice Ap m cp]
  have hb0 := ((Below.refl w.heap.size w).alloc (Nat.le_refl _) (.cells #[.int .i64 (n : Int), .slice A L c] 26)).alloc (by simp) (.cells #[.slice Ap m cp] 24)
  have hs0 := hs.call hb0
  have hx0 := hsp.call hb0
  have f0 := (((Below.refl _ _).alloc (Nat.le_refl _) (.cells #[.slice Ap m cp] 24)).cell (p := ⟨w.heap.size, 0, none⟩) (by simp)).trans f0
  have f1 := (((Below.refl _ _).alloc (Nat.le_refl _) (.cells #[.slice Ap m cp] 24)).cell (p := ⟨w.heap.size, 0 + 1, none⟩) (by simp)).trans f1
  have g0 := hB1.cell 0
  rw [World.size_alloc] at g0
  have g0 := g0.trans (rfl : _ = some (Value.slice Ap m cp))
  cases bb
  all_goals
    go_enter Tryz.func73, Tryz.ntmps73
    go_wp2_with (first
      | (go_at_call 120; refine (hmb _ hs0).mono ?_; rintro e w2 ⟨Am, cm, vs, rfl, hom, hrm, hb2⟩; rw [HML.out] at hom ⊢)
      | (go_at_call 103; refine (hbb Am cm _ _ (Nat.le_refl _) (OwnII.ii hom hrm) (hx0.call hb2) (by have := hb2.size; simp at this; omega) ((hb2.cell (p := ⟨w.heap.size + 1, 0, none⟩) (by simp)).trans g0)).mono ?_; rintro e w3 ⟨rfl, hb3⟩))
    go_ret
    exact ⟨rfl, bel_call (bel_call hb0 hb2) hb3⟩
end Go.Proofs.YtglijcdnnaekkaaGreat
