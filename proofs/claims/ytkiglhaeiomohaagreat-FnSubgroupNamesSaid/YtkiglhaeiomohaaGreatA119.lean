/- A permutation is one; its type. -/
import Derived.Test.YtkiglhaeiomohaaGreatA118
import Derived.Test.YtkiglhaeiomohaaGreatA142
namespace Go.Proofs.YtkiglhaeiomohaaGreat
set_option linter.unusedVariables false
set_option linter.unusedSimpArgs false
open Go.RowKit

set_option maxRecDepth 10000 in
set_option maxHeartbeats 1000000 in
theorem i_IsPermutation (A : Option Addr) (n c : Nat) (a : List Int) (w : World) (hn1 : 1 ≤ n) (hn6 : n ≤ 6) (hnc : n ≤ c) (ha : InR n a) (hd : ∀ k, k < n → (a.take k).contains (gt a k) = false) (hs : IS w w.heap.size A a) :
    Calls Tryz.prog 59 #[.slice A n c] w (Q (.bool true) w) := by
  obtain ⟨b, off, rfl, hbb, hcell⟩ := hs (by rw [ha.1]; omega)
  have hcon := fun k (hk : k < n) d m => Tryz.slices_Contains_int b off k d a (gt a k) (w.drewN m) (by rw [ha.1]; omega) (by omega) (fun j hj => hcell j hj)
  have hin : ∀ k, k < n → inB (gt a k) 0 ((n : Int) - 1) = true := fun k hk => by
    have := ha.2 k hk
    simp [inB]; omega
  have hcell : ∀ k, k < n → w.cell? ⟨b, off + k, none⟩ = some (.int .i64 (gt a k)) := fun k hk => hcell k (by rw [ha.1]; exact hk)
  have hin2 : inB (n : Int) 1 6 = true := by simp [inB]; omega
  clear hs ha
  have HD := Lib.hid hd
  have HIN := Lib.hid hin
  clear hd hin
  have HN := Lib.hid hn6
  clear hn1
  go_enter Tryz.func59, Tryz.ntmps59
  go_wp2_with (fail)
  go_loopw [7] (fun u wr => ∃ k : Nat, k ≤ n ∧ u = .int .i64 k ∧ DR w wr) (fun u _ => n - (intOf u).toNat)
  case atStart => exact ⟨0, Nat.zero_le _, rfl, DR.refl _⟩
  case round =>
    obtain ⟨k, hk, rfl, mq, rfl⟩ := hrel
    by_cases hlt : k < n
    · have hkc : k ≤ c := by omega
      have e1 : (w.drewN mq).cell? ⟨b, off + k, none⟩ = some (.int .i64 (gt a k)) := hcell k hlt
      have i1 := HIN.out k hlt
      have d1 := HD.out k hlt
      have hc1 := fun d m => hcon k hlt d m
      go_wp2_with (first
        | (go_at_call 54; refine (i_size _ _ _ _).mono ?_; rintro e w1 ⟨rfl, nq, rfl⟩)
        | (go_at_call 56; refine (i_within _ _ _ _).mono ?_; rintro e w1 ⟨rfl, nq, rfl⟩; rw [i1])
        | (go_at_call 87; refine (hc1 _ _).mono ?_; rintro e w1 ⟨rfl, rfl⟩; rw [d1]))
      go_roundw
      case rel => exact ⟨k + 1, by omega, by go_num, _, rfl⟩
      case measure => simp [intOf]; omega
    · obtain rfl : k = n := by omega
      go_wp2_with (first
        | (go_at_call 54; refine (i_size _ _ _ _).mono ?_; rintro e w1 ⟨rfl, nq, rfl⟩)
        | (go_at_call 56; refine (i_within _ _ _ _).mono ?_; rintro e w1 ⟨rfl, nq2, rfl⟩; rw [hin2]))
      go_ret
      exact ⟨rfl, _, rfl⟩
theorem wr_distinct : ∀ n : Fin 6, ∀ r : Fin 120, r.val < fact n.val → ∀ k : Fin 6, k.val < n.val → ((wrL n r).take k.val).contains (gt (wrL n r) k) = false := by decide +kernel
theorem wr_distinct' {n r : Nat} (hn : n ≤ 5) (hr : r < fact n) {k : Nat} (hk : k < n) : ((wrL n r).take k).contains (gt (wrL n r) k) = false := by
  have h1 : r < 120 := by have h2 : ∀ m : Fin 6, fact m.val ≤ 120 := by decide
                          have := h2 ⟨n, by omega⟩
                          simp at this; omega
  exact wr_distinct ⟨n, by omega⟩ ⟨r, h1⟩ hr ⟨k, by omega⟩ hk
set_option maxRecDepth 10000 in
set_option maxHeartbeats 1000000 in
theorem i_PermutationWith (n r : Nat) (w : World) (hn : 1 ≤ n) (hn6 : n ≤ 6) (hr : r < fact n) :
    Calls Tryz.prog 18 #[.int .i64 n, .int .i64 r] w (fun e w' => ∃ A c, e = .returned (.tuple #[.slice A n c, .int .i64 0]) ∧ n ≤ c ∧ IS w' w'.heap.size A (wrL n r) ∧ Below w.heap.size w w') := by
  have hfac := fun W => i_factN n W hn6
  have hwith := fun W => i_withRank n r W hn hn6 hr
  have hin : inB (n : Int) 1 6 = true := by simp [inB]; omega
  have hin2 : inB (r : Int) 0 ((fact n : Nat) - 1) = true := by simp [inB]; omega
  have hf7 : fact n ≤ 720 := fact_720 hn6
  have hL := (wrL_in hr).1
  generalize fact n = F at *
  go_enter Tryz.func18, Tryz.ntmps18
  go_wp2_with (first
    | (go_at_call 57; refine (hfac _).mono ?_; rintro e w1 ⟨rfl, nq, rfl⟩)
    | (go_at_call 56; refine (i_within _ _ _ _).mono ?_; rintro e w1 ⟨rfl, nq, rfl⟩; first | rw [hin] | rw [hin2])
    | (go_at_call 58; refine (hwith _).mono ?_; rintro e w2 ⟨v, rfl, ho, hb⟩; obtain ⟨B, d, rfl, hd⟩ := own_slice' ho))
  go_ret2
  exact ⟨_, _, rfl, hd, own_isn ho hL.symm, (below_drewN (Below.refl _ _) _).trans hb⟩
set_option maxHeartbeats 1000000 in
theorem i_CycleType (A : Option Addr) (n c : Nat) (a : List Int) (w : World) (hn1 : 1 ≤ n) (hn6 : n ≤ 6) (hnc : n ≤ c) (ha : InR n a) (hd : ∀ k, k < n → (a.take k).contains (gt a k) = false) (hs : IS w w.heap.size A a) :
    Calls Tryz.prog 20 #[.slice A n c] w (fun e w' => ∃ B d, e = .returned (.tuple #[.slice B (tyS a).length d, .int .i64 0]) ∧ IS w' w'.heap.size B (tyS a) ∧ Below w.heap.size w w') := by
  have h1 := i_IsPermutation A n c a w hn1 hn6 hnc ha hd hs
  have h2 := fun q => i_cycleType A n c a (w.drewN q) hn1 hn6 ha hs
  clear hd ha hs
  rw [← tyS_len] at h2
  go_enter Tryz.func20, Tryz.ntmps20
  go_wp2_with (first
    | (go_at_call 59; refine h1.mono ?_; rintro e w1 ⟨rfl, nq, rfl⟩)
    | (go_at_call 60; refine (h2 _).mono ?_; rintro e w2 ⟨v, rfl, ho, hb⟩; obtain ⟨B, d, rfl, hd⟩ := own_slice' ho))
  go_ret2
  exact ⟨_, _, rfl, own_isn ho rfl, (below_drewN (Below.refl _ _) _).trans hb⟩
end Go.Proofs.YtkiglhaeiomohaaGreat
