/- Contracts: impl's library. -/
import Derived.Test.YtglijcdnnaekkaaGreatA79
namespace Go.Proofs.YtglijcdnnaekkaaGreat
set_option linter.unusedVariables false
set_option linter.unusedSimpArgs false
open Go.RowKit

def allocs (w : World) (os : List Obj) : World := os.foldl World.alloc w
theorem allocs_spec : ∀ (os : List Obj) (w : World), (allocs w os).heap.size = w.heap.size + os.length ∧ (∀ j o, os[j]? = some o → (allocs w os).heap[w.heap.size + j]? = some o) ∧ Below w.heap.size w (allocs w os)
  | [], w => ⟨rfl, fun j o h => by simp at h, Below.refl _ _⟩
  | a :: os, w => by
    obtain ⟨h1, h2, h3⟩ := allocs_spec os (w.alloc a)
    have e : allocs w (a :: os) = allocs (w.alloc a) os := rfl
    rw [e]
    rw [World.size_alloc] at h1 h2 h3
    refine ⟨by rw [h1, List.length_cons]; omega, fun j o h => ?_, ((Below.refl w.heap.size w).alloc (Nat.le_refl _) a).trans (h3.mono (by omega))⟩
    cases j with
    | zero =>
      simp at h
      subst h
      rw [Nat.add_zero, h3.block w.heap.size (by omega)]
      exact heap_alloc_new w a
    | succ j =>
      have := h2 j o (by simpa using h)
      rw [← this]; congr 1; omega
theorem ii_bk1 {W : World} {B b1 b2 n : Nat} {r : List Int} (h1 : BK W b1 2 (ints r).toArray) (h2 : BK W b2 24 #[.slice (some ⟨b1, 0, none⟩) n n]) (hn : r.length = n) (l1 : b1 < B) (l2 : b2 < B) (hm : n ≤ maxLen) : II W B (some ⟨b2, 0, none⟩) [r] := fun _ => by
  subst hn
  refine ⟨_, _, rfl, l2, fun k hk => ?_⟩
  simp at hk
  subst hk
  have e : gl [r] 0 = r := rfl
  rw [e]
  refine ⟨_, _, (h2.cell 0).trans rfl, Nat.le_refl _, hm, fun _ => ⟨_, _, rfl, l1, fun j hj => ?_⟩⟩
  rw [Nat.zero_add, h1.cell j]
  simpa using ints_at hj
theorem ii_bk2 {W : World} {B b1 b3 b2 n : Nat} {r q : List Int} (h1 : BK W b1 2 (ints r).toArray) (h3 : BK W b3 2 (ints q).toArray) (h2 : BK W b2 24 #[.slice (some ⟨b1, 0, none⟩) n n, .slice (some ⟨b3, 0, none⟩) n n]) (hn : r.length = n) (hq : q.length = n) (l1 : b1 < B) (l3 : b3 < B) (l2 : b2 < B) (hm : n ≤ maxLen) : II W B (some ⟨b2, 0, none⟩) [r, q] := fun _ => by
  refine ⟨_, _, rfl, l2, fun k hk => ?_⟩
  simp at hk
  rcases Nat.lt_or_ge k 1 with h | h
  · obtain rfl : k = 0 := by omega
    have e : gl [r, q] 0 = r := rfl
    rw [e, hn]
    refine ⟨_, _, (h2.cell 0).trans rfl, Nat.le_refl _, hm, fun _ => ⟨_, _, rfl, l1, fun j hj => ?_⟩⟩
    rw [Nat.zero_add, h1.cell j]
    simpa using ints_at hj
  · obtain rfl : k = 1 := by omega
    have e : gl [r, q] 1 = q := rfl
    rw [e, hq]
    refine ⟨_, _, (h2.cell 1).trans rfl, Nat.le_refl _, hm, fun _ => ⟨_, _, rfl, l3, fun j hj => ?_⟩⟩
    rw [Nat.zero_add, h3.cell j]
    simpa using ints_at hj
/-- Block b holds the library. -/
def LIBR (W : World) (B b : Nat) : Prop := b < B ∧ ∀ i, i < 14 → ∃ (nb : ByteArray) (A : Option Addr) (c : Nat), nb.toList = lbN i ∧ W.cell? ⟨b, i * 3, none⟩ = some (.string nb) ∧ W.cell? ⟨b, i * 3 + 1, none⟩ = some (.int .i64 (lbP i : Nat)) ∧ W.cell? ⟨b, i * 3 + 2, none⟩ = some (.slice A (lbG i).length c) ∧ II W B A (lbG i)
theorem LIBR.below {W W' : World} {B b : Nat} (h : LIBR W B b) (hb : Below B W W') : LIBR W' B b := by
  refine ⟨h.1, fun i hi => ?_⟩
  obtain ⟨nb, A, c, h1, h2, h3, h4, h5⟩ := h.2 i hi
  exact ⟨nb, A, c, h1, by rw [hb.cell (by exact h.1)]; exact h2, by rw [hb.cell (by exact h.1)]; exact h3, by rw [hb.cell (by exact h.1)]; exact h4, h5.below hb⟩
theorem LIBR.more {W : World} {B B' b : Nat} (h : LIBR W B b) (hB : B ≤ B') : LIBR W B' b := by
  refine ⟨Nat.lt_of_lt_of_le h.1 hB, fun i hi => ?_⟩
  obtain ⟨nb, A, c, h1, h2, h3, h4, h5⟩ := h.2 i hi
  exact ⟨nb, A, c, h1, h2, h3, h4, h5.more hB⟩
def libO (s : Nat) : List Obj := [
  Obj.cells #[.int .i64 0] 2,
  Obj.cells #[.slice (some ⟨s + 0, 0, none⟩) 1 1] 24,
  Obj.cells #[.int .i64 1, .int .i64 0] 2,
  Obj.cells #[.slice (some ⟨s + 2, 0, none⟩) 2 2] 24,
  Obj.cells #[.int .i64 1, .int .i64 2, .int .i64 0] 2,
  Obj.cells #[.slice (some ⟨s + 4, 0, none⟩) 3 3] 24,
  Obj.cells #[.int .i64 1, .int .i64 2, .int .i64 0] 2,
  Obj.cells #[.int .i64 1, .int .i64 0, .int .i64 2] 2,
  Obj.cells #[.slice (some ⟨s + 6, 0, none⟩) 3 3, .slice (some ⟨s + 7, 0, none⟩) 3 3] 24,
  Obj.cells #[.int .i64 1, .int .i64 2, .int .i64 3, .int .i64 0] 2,
  Obj.cells #[.slice (some ⟨s + 9, 0, none⟩) 4 4] 24,
  Obj.cells #[.int .i64 1, .int .i64 0, .int .i64 3, .int .i64 2] 2,
  Obj.cells #[.int .i64 2, .int .i64 3, .int .i64 0, .int .i64 1] 2,
  Obj.cells #[.slice (some ⟨s + 11, 0, none⟩) 4 4, .slice (some ⟨s + 12, 0, none⟩) 4 4] 24,
  Obj.cells #[.int .i64 1, .int .i64 2, .int .i64 3, .int .i64 0] 2,
  Obj.cells #[.int .i64 2, .int .i64 1, .int .i64 0, .int .i64 3] 2,
  Obj.cells #[.slice (some ⟨s + 14, 0, none⟩) 4 4, .slice (some ⟨s + 15, 0, none⟩) 4 4] 24,
  Obj.cells #[.int .i64 1, .int .i64 2, .int .i64 0, .int .i64 3] 2,
  Obj.cells #[.int .i64 1, .int .i64 0, .int .i64 3, .int .i64 2] 2,
  Obj.cells #[.slice (some ⟨s + 17, 0, none⟩) 4 4, .slice (some ⟨s + 18, 0, none⟩) 4 4] 24,
  Obj.cells #[.int .i64 1, .int .i64 2, .int .i64 3, .int .i64 0] 2,
  Obj.cells #[.int .i64 1, .int .i64 0, .int .i64 2, .int .i64 3] 2,
  Obj.cells #[.slice (some ⟨s + 20, 0, none⟩) 4 4, .slice (some ⟨s + 21, 0, none⟩) 4 4] 24,
  Obj.cells #[.int .i64 1, .int .i64 2, .int .i64 3, .int .i64 4, .int .i64 0] 2,
  Obj.cells #[.slice (some ⟨s + 23, 0, none⟩) 5 5] 24,
  Obj.cells #[.int .i64 1, .int .i64 2, .int .i64 3, .int .i64 4, .int .i64 0] 2,
  Obj.cells #[.int .i64 0, .int .i64 4, .int .i64 3, .int .i64 2, .int .i64 1] 2,
  Obj.cells #[.slice (some ⟨s + 25, 0, none⟩) 5 5, .slice (some ⟨s + 26, 0, none⟩) 5 5] 24,
  Obj.cells #[.int .i64 1, .int .i64 2, .int .i64 3, .int .i64 4, .int .i64 0] 2,
  Obj.cells #[.int .i64 0, .int .i64 2, .int .i64 4, .int .i64 1, .int .i64 3] 2,
  Obj.cells #[.slice (some ⟨s + 28, 0, none⟩) 5 5, .slice (some ⟨s + 29, 0, none⟩) 5 5] 24,
  Obj.cells #[.int .i64 1, .int .i64 2, .int .i64 3, .int .i64 4, .int .i64 0] 2,
  Obj.cells #[.int .i64 1, .int .i64 2, .int .i64 0, .int .i64 3, .int .i64 4] 2,
  Obj.cells #[.slice (some ⟨s + 31, 0, none⟩) 5 5, .slice (some ⟨s + 32, 0, none⟩) 5 5] 24,
  Obj.cells #[.int .i64 1, .int .i64 2, .int .i64 3, .int .i64 4, .int .i64 0] 2,
  Obj.cells #[.int .i64 1, .int .i64 0, .int .i64 2, .int .i64 3, .int .i64 4] 2,
  Obj.cells #[.slice (some ⟨s + 34, 0, none⟩) 5 5, .slice (some ⟨s + 35, 0, none⟩) 5 5] 24,
  Obj.cells #[.string ⟨#[67, 49]⟩, .int .i64 1, .slice (some ⟨s + 1, 0, none⟩) 1 1, .string ⟨#[67, 50]⟩, .int .i64 2, .slice (some ⟨s + 3, 0, none⟩) 1 1, .string ⟨#[67, 51]⟩, .int .i64 3, .slice (some ⟨s + 5, 0, none⟩) 1 1, .string ⟨#[83, 51]⟩, .int .i64 3, .slice (some ⟨s + 8, 0, none⟩) 2 2, .string ⟨#[67, 52]⟩, .int .i64 4, .slice (some ⟨s + 10, 0, none⟩) 1 1, .string ⟨#[86, 52]⟩, .int .i64 4, .slice (some ⟨s + 13, 0, none⟩) 2 2, .string ⟨#[68, 52]⟩, .int .i64 4, .slice (some ⟨s + 16, 0, none⟩) 2 2, .string ⟨#[65, 52]⟩, .int .i64 4, .slice (some ⟨s + 19, 0, none⟩) 2 2, .string ⟨#[83, 52]⟩, .int .i64 4, .slice (some ⟨s + 22, 0, none⟩) 2 2, .string ⟨#[67, 53]⟩, .int .i64 5, .slice (some ⟨s + 24, 0, none⟩) 1 1, .string ⟨#[68, 53]⟩, .int .i64 5, .slice (some ⟨s + 27, 0, none⟩) 2 2, .string ⟨#[70, 53]⟩, .int .i64 5, .slice (some ⟨s + 30, 0, none⟩) 2 2, .string ⟨#[65, 53]⟩, .int .i64 5, .slice (some ⟨s + 33, 0, none⟩) 2 2, .string ⟨#[83, 53]⟩, .int .i64 5, .slice (some ⟨s + 36, 0, none⟩) 2 2] 156]
theorem lib_ok (w : World) : LIBR (allocs w (libO w.heap.size)) (allocs w (libO w.heap.size)).heap.size (w.heap.size + 37) ∧ Below w.heap.size w (allocs w (libO w.heap.size)) := by
  obtain ⟨h1, h2, h3⟩ := allocs_spec (libO w.heap.size) w
  have hl : (libO w.heap.size).length = 38 := rfl
  rw [hl] at h1
  refine ⟨⟨by omega, fun i hi => ?_⟩, h3⟩
  have hk : ∀ j cs t, (libO w.heap.size)[j]? = some (.cells cs t) → BK (allocs w (libO w.heap.size)) (w.heap.size + j) t cs := fun j cs t h => h2 j _ h
  have hE := hk 37 _ _ rfl
  generalize allocs w (libO w.heap.size) = W at *
  clear h2 h3
  match i, hi with
  | 0, _ => exact ⟨⟨#[67, 49]⟩, _, _, by first | decide +kernel | simp [lbN, LB], (hE.cell 0).trans rfl, (hE.cell 1).trans rfl, (hE.cell 2).trans rfl, ii_bk1 (hk 0 _ _ rfl) (hk 1 _ _ rfl) rfl (by omega) (by omega) (by simp [maxLen])⟩
  | 1, _ => exact ⟨⟨#[67, 50]⟩, _, _, by first | decide +kernel | simp [lbN, LB], (hE.cell 3).trans rfl, (hE.cell 4).trans rfl, (hE.cell 5).trans rfl, ii_bk1 (hk 2 _ _ rfl) (hk 3 _ _ rfl) rfl (by omega) (by omega) (by simp [maxLen])⟩
  | 2, _ => exact ⟨⟨#[67, 51]⟩, _, _, by first | decide +kernel | simp [lbN, LB], (hE.cell 6).trans rfl, (hE.cell 7).trans rfl, (hE.cell 8).trans rfl, ii_bk1 (hk 4 _ _ rfl) (hk 5 _ _ rfl) rfl (by omega) (by omega) (by simp [maxLen])⟩
  | 3, _ => exact ⟨⟨#[83, 51]⟩, _, _, by first | decide +kernel | simp [lbN, LB], (hE.cell 9).trans rfl, (hE.cell 10).trans rfl, (hE.cell 11).trans rfl, ii_bk2 (hk 6 _ _ rfl) (hk 7 _ _ rfl) (hk 8 _ _ rfl) rfl rfl (by omega) (by omega) (by omega) (by simp [maxLen])⟩
  | 4, _ => exact ⟨⟨#[67, 52]⟩, _, _, by first | decide +kernel | simp [lbN, LB], (hE.cell 12).trans rfl, (hE.cell 13).trans rfl, (hE.cell 14).trans rfl, ii_bk1 (hk 9 _ _ rfl) (hk 10 _ _ rfl) rfl (by omega) (by omega) (by simp [maxLen])⟩
  | 5, _ => exact ⟨⟨#[86, 52]⟩, _, _, by first | decide +kernel | simp [lbN, LB], (hE.cell 15).trans rfl, (hE.cell 16).trans rfl, (hE.cell 17).trans rfl, ii_bk2 (hk 11 _ _ rfl) (hk 12 _ _ rfl) (hk 13 _ _ rfl) rfl rfl (by omega) (by omega) (by omega) (by simp [maxLen])⟩
  | 6, _ => exact ⟨⟨#[68, 52]⟩, _, _, by first | decide +kernel | simp [lbN, LB], (hE.cell 18).trans rfl, (hE.cell 19).trans rfl, (hE.cell 20).trans rfl, ii_bk2 (hk 14 _ _ rfl) (hk 15 _ _ rfl) (hk 16 _ _ rfl) rfl rfl (by omega) (by omega) (by omega) (by simp [maxLen])⟩
  | 7, _ => exact ⟨⟨#[65, 52]⟩, _, _, by first | decide +kernel | simp [lbN, LB], (hE.cell 21).trans rfl, (hE.cell 22).trans rfl, (hE.cell 23).trans rfl, ii_bk2 (hk 17 _ _ rfl) (hk 18 _ _ rfl) (hk 19 _ _ rfl) rfl rfl (by omega) (by omega) (by omega) (by simp [maxLen])⟩
  | 8, _ => exact ⟨⟨#[83, 52]⟩, _, _, by first | decide +kernel | simp [lbN, LB], (hE.cell 24).trans rfl, (hE.cell 25).trans rfl, (hE.cell 26).trans rfl, ii_bk2 (hk 20 _ _ rfl) (hk 21 _ _ rfl) (hk 22 _ _ rfl) rfl rfl (by omega) (by omega) (by omega) (by simp [maxLen])⟩
  | 9, _ => exact ⟨⟨#[67, 53]⟩, _, _, by first | decide +kernel | simp [lbN, LB], (hE.cell 27).trans rfl, (hE.cell 28).trans rfl, (hE.cell 29).trans rfl, ii_bk1 (hk 23 _ _ rfl) (hk 24 _ _ rfl) rfl (by omega) (by omega) (by simp [maxLen])⟩
  | 10, _ => exact ⟨⟨#[68, 53]⟩, _, _, by first | decide +kernel | simp [lbN, LB], (hE.cell 30).trans rfl, (hE.cell 31).trans rfl, (hE.cell 32).trans rfl, ii_bk2 (hk 25 _ _ rfl) (hk 26 _ _ rfl) (hk 27 _ _ rfl) rfl rfl (by omega) (by omega) (by omega) (by simp [maxLen])⟩
  | 11, _ => exact ⟨⟨#[70, 53]⟩, _, _, by first | decide +kernel | simp [lbN, LB], (hE.cell 33).trans rfl, (hE.cell 34).trans rfl, (hE.cell 35).trans rfl, ii_bk2 (hk 28 _ _ rfl) (hk 29 _ _ rfl) (hk 30 _ _ rfl) rfl rfl (by omega) (by omega) (by omega) (by simp [maxLen])⟩
  | 12, _ => exact ⟨⟨#[65, 53]⟩, _, _, by first | decide +kernel | simp [lbN, LB], (hE.cell 36).trans rfl, (hE.cell 37).trans rfl, (hE.cell 38).trans rfl, ii_bk2 (hk 31 _ _ rfl) (hk 32 _ _ rfl) (hk 33 _ _ rfl) rfl rfl (by omega) (by omega) (by omega) (by simp [maxLen])⟩
  | 13, _ => exact ⟨⟨#[83, 53]⟩, _, _, by first | decide +kernel | simp [lbN, LB], (hE.cell 39).trans rfl, (hE.cell 40).trans rfl, (hE.cell 41).trans rfl, ii_bk2 (hk 34 _ _ rfl) (hk 35 _ _ rfl) (hk 36 _ _ rfl) rfl rfl (by omega) (by omega) (by omega) (by simp [maxLen])⟩
set_option maxRecDepth 10000 in
set_option maxHeartbeats 4000000 in
theorem i_library (w : World) : Calls Tryz.prog 192 #[] w (fun e w' => ∃ b, e = .returned (.slice (some ⟨b, 0, none⟩) 14 14) ∧ LIBR w' w'.heap.size b ∧ Below w.heap.size w w') := by
  go_enter Tryz.func192, Tryz.ntmps192
  go_wp2_with (fail)
  go_ret
  exact ⟨w.heap.size + 37, rfl, lib_ok w⟩
end Go.Proofs.YtglijcdnnaekkaaGreat
