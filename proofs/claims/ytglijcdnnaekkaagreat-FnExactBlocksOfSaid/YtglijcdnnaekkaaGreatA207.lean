/- BlockWith: the program's side. -/
import Derived.Test.YtglijcdnnaekkaaGreatA203
import Derived.Test.YtglijcdnnaekkaaGreatA177
namespace Go.Proofs.YtglijcdnnaekkaaGreat
set_option linter.unusedVariables false
set_option linter.unusedSimpArgs false
open Go.RowKit

set_option maxHeartbeats 1000000 in
theorem i_mv1 (gx : Nat) (p x : Int) (w : World) (hp : 1 ≤ p ∧ p ≤ 6) (h1 : w.cell? ⟨gx, 0, none⟩ = some (.int .i64 p)) :
    Calls Tryz.prog 138 #[.int .i64 x, .pointer (some ⟨gx, 0, none⟩)] w (Q (.bool (!inB x 0 (p - 1))) w) := by
  have hw : IntKind.i64.wrap (p - 1) = p - 1 := IntWalk.i64_in _ (by omega)
  have hin := fun W => i_within x 0 (p - 1) W
  generalize inB x 0 (p - 1) = b at *
  go_enter Tryz.func138, Tryz.ntmps138
  go_wp2_with (first | (go_at_call 76; refine (hin _).mono ?_; rintro e w1 ⟨rfl, m, rfl⟩) | go_in)
  go_ret
  exact ⟨rfl, m, rfl⟩
set_option maxRecDepth 10000 in
set_option maxHeartbeats 1000000 in
theorem c_idxMv (gx : Nat) (p : Int) (hp : 1 ≤ p ∧ p ≤ 6) (A : Option Addr) (L c : Nat) (l : List Int) (w : World) (hL : L = l.length) (hl : L ≤ 1000) (hs : IS w w.heap.size A l) (h1 : w.cell? ⟨gx, 0, none⟩ = some (.int .i64 p)) :
    Calls Tryz.prog 177 #[.slice A L c, .func (.func 138) #[] #[.pointer (some ⟨gx, 0, none⟩)]] w (fun e w' => ∃ k : Int, e = .returned (.int .i64 k) ∧ decide (0 ≤ k) = (l.any fun x => !inB x 0 (p - 1)) ∧ ∃ m, w' = w.drewN m) := by
  have HL := Lib.hid hL
  have hp := fun (m : Nat) (x : Int) => i_mv1 gx p x (w.drewN m) hp h1
  have HP := Lib.hid hp
  clear hL hp
  go_enter Tryz.func177, Tryz.ntmps177
  go_wp2_with (fail)
  go_loopw [8] (fun u wr => ∃ k : Nat, k ≤ L ∧ u = .int .i64 k ∧ Hid (∀ j, j < k → inB (gt l j) 0 (p - 1) = true) ∧ ∃ m, wr = w.drewN m) (fun u _ => L - (intOf u).toNat)
  case atStart => exact ⟨0, Nat.zero_le _, rfl, fun j hj => by omega, 0, rfl⟩
  case round =>
    obtain ⟨k, hk, rfl, HI, m, rfl⟩ := hrel
    by_cases hlt : k < L
    · obtain ⟨b, off, rfl, hbb, hcell⟩ := IS.at hs (k := k) (by rw [← HL.out]; exact hlt)
      have hc1 := hcell k (by rw [← HL.out]; exact hlt)
      clear hcell
      have hpx := fun m => HP.out m (gt l k)
      have hmem : gt l k ∈ l := gt_mem (by rw [← HL.out]; exact hlt)
      cases hd : inB (gt l k) 0 (p - 1)
      · have hm : (l.any fun x => !inB x 0 (p - 1)) = true := by
          rw [List.any_eq_true]
          exact ⟨gt l k, hmem, by rw [hd]; rfl⟩
        have HM := Lib.hid hm
        rw [hd] at hpx
        clear hm hd hmem
        generalize gt l k = y at *
        go_wp2_with (first | (go_at_call 138; refine (hpx _).mono ?_; rintro e w1 ⟨rfl, m1, rfl⟩) | go_in)
        go_ret
        exact ⟨k, rfl, by rw [HM.out]; simp, by first | exact dq1 | exact dq2⟩
      · have hn : ∀ j, j < k + 1 → inB (gt l j) 0 (p - 1) = true := fun j hj => by
          by_cases hjk : j = k
          · subst hjk; exact hd
          · exact HI.out j (by omega)
        have HN := Lib.hid hn
        rw [hd] at hpx
        clear hn hd hmem
        generalize gt l k = y at *
        go_wp2_with (first | (go_at_call 138; refine (hpx _).mono ?_; rintro e w1 ⟨rfl, m1, rfl⟩) | go_in)
        go_roundw
        case rel => exact ⟨k + 1, by omega, by go_num, HN.out, by first | exact dq1 | exact dq2⟩
        case measure => simp [intOf]; omega
    · obtain rfl : k = L := by omega
      have hm : (l.any fun x => !inB x 0 (p - 1)) = false := by
        rw [List.any_eq_false]
        intro x hx
        obtain ⟨j, hj, e⟩ := List.mem_iff_getElem.1 hx
        have h2 := HI.out j (by rw [HL.out]; exact hj)
        rw [show gt l j = x by simp [gt, List.getElem?_eq_getElem hj, e]] at h2
        simp [h2]
      have HM := Lib.hid hm
      clear hm
      go_wp2_with (fail)
      go_ret
      exact ⟨-1, rfl, by rw [HM.out]; simp, by first | exact dq1 | exact dq2⟩
/-- The error of a group and points. -/
def mvL (p : Int) (l pts : List Int) : Int := if grpB p l then (if pts.any fun x => !inB x 0 (p - 1) then 2 else 0) else 1
set_option maxHeartbeats 1000000 in
theorem i_movedL (p : Int) (A Ap : Option Addr) (L c m cp : Nat) (l pts : List Int) (w : World) (hL : L = l.length) (hl : L ≤ 1048576) (hs : IS w w.heap.size A l) (hm : m = pts.length) (hml : m ≤ 1000) (hsp : IS w w.heap.size Ap pts) :
    Calls Tryz.prog 70 #[.agg #[.int .i64 p, .slice A L c], .slice Ap m cp] w (M (.int .i64 (mvL p l pts)) w) := by
  obtain ⟨c0, c1, _, _⟩ := (BK.new w 26 #[.int .i64 p, .slice A L c]).two
  have hb0 := (Below.refl w.heap.size w).alloc (Nat.le_refl _) (.cells #[.int .i64 p, .slice A L c] 26)
  have hs0 := hs.call hb0
  have hg := i_IsGroup p A L c l _ hL hl hs0
  unfold mvL
  cases hgb : grpB p l
  · rw [hgb] at hg
    clear hL hs hs0 hm hsp hgb
    go_enter Tryz.func70, Tryz.ntmps70
    go_wp2_with (go_at_call 60; refine hg.mono ?_; rintro e w2 ⟨rfl, hb2⟩)
    go_ret
    exact ⟨rfl, bel_call hb0 hb2⟩
  · rw [hgb] at hg
    obtain ⟨n, rfl, h1, h2, _⟩ := grpB_t hgb
    have hct := fun W h h1' => c_contAny Ap m cp _ _ W (c_idxMv w.heap.size (n : Int) (by omega) Ap m cp pts W hm hml h h1')
    generalize (pts.any fun x => !inB x 0 ((n : Int) - 1)) = b at *
    have hsp0 := hsp.call hb0
    clear hL hs hs0 hm hsp hgb
    cases b
    · go_enter Tryz.func70, Tryz.ntmps70
      go_wp2_with (first
        | (go_at_call 60; refine hg.mono ?_; rintro e w2 ⟨rfl, hb2⟩; have c2 := (hb2.cell (p := ⟨w.heap.size, 0, none⟩) (by simp)).trans c0)
        | (go_at_call 137; refine (hct _ (hsp0.call hb2) c2).mono ?_; rintro e w3 ⟨rfl, nq, rfl⟩))
      go_ret
      exact ⟨rfl, below_drewN (bel_call hb0 hb2) _⟩
    · go_enter Tryz.func70, Tryz.ntmps70
      go_wp2_with (first
        | (go_at_call 60; refine hg.mono ?_; rintro e w2 ⟨rfl, hb2⟩; have c2 := (hb2.cell (p := ⟨w.heap.size, 0, none⟩) (by simp)).trans c0)
        | (go_at_call 137; refine (hct _ (hsp0.call hb2) c2).mono ?_; rintro e w3 ⟨rfl, nq, rfl⟩))
      go_ret
      exact ⟨rfl, below_drewN (bel_call hb0 hb2) _⟩
end Go.Proofs.YtglijcdnnaekkaaGreat
