/- Draws: one of some numbers; primes; values. -/
import Derived.Test.YthjoegoeaiemdaaA110
namespace Go.Proofs.Ythjoegoeaiemdaa
set_option linter.unusedVariables false
set_option linter.unusedSimpArgs false
open Go.RowKit

theorem inN_lt {n k : Nat} (h : inN (n : Int) (k : Int)) (h1 : 1 ≤ n) : k < n := by
  obtain ⟨r0, r1, r2⟩ := h
  by_cases h : n = 1
  · have := r2 (by omega); omega
  · have := r1 (by omega); omega
set_option maxHeartbeats 1000000 in
theorem s_l01Pick (g b n c : Nat) (l : List Int) (w : World) (hs : SRC w g) (hbg : b ≠ g) (hb : b < w.heap.size) (hn : n = l.length) (h1 : 1 ≤ n) (hc : ∀ k, k < n → w.cell? ⟨b, k, none⟩ = some (.int .i64 (gt l k))) :
    Calls Try.prog 78 #[.pointer (some ⟨g, 0, none⟩), .slice (some ⟨b, 0, none⟩) n c] w (NX g (fun r => r ∈ l) w) := by
  have HN := Lib.hid hn
  have HC := Lib.hid hc
  clear hn hc
  have hnx := fun W h => s_l01Next g (n : Int) W h
  go_enter Try.func78, Try.ntmps78
  go_wp2_with (go_at_call 61; refine (hnx _ hs).mono ?_; rintro e w1 ⟨r, rfl, ⟨r0, r1, r2⟩, hs1, hu1⟩; obtain ⟨k, rfl⟩ := Int.eq_ofNat_of_zero_le r0; have hk : k < n := inN_lt ⟨r0, r1, r2⟩ h1; have e1 := (hu1.cell (p := ⟨b, k, none⟩) hb hbg).trans (HC.out k hk))
  go_ret
  exact ⟨_, rfl, gt_mem (by rw [← HN.out]; exact hk), hs1, hu1⟩
/-- The cells of a literal. -/
theorem lit_cells (w : World) (l : List Int) (t : TypeId) : ∀ k, k < l.length → (w.alloc (.cells ((l.map fun x => Value.int .i64 x).toArray) t)).cell? ⟨w.heap.size, k, none⟩ = some (.int .i64 (gt l k)) := fun k hk => by
  have h := (BK.new w t (l.map fun x => Value.int .i64 x).toArray).cell k
  rw [h]
  simp [gt, hk]
theorem s_pickLit (g n c : Nat) (l : List Int) (cs : Array Value) (w : World) (t : TypeId) (hs : SRC w g) (hcs : cs = (l.map fun x => Value.int .i64 x).toArray) (hn : n = l.length) (h1 : 1 ≤ n) :
    Calls Try.prog 78 #[.pointer (some ⟨g, 0, none⟩), .slice (some ⟨w.heap.size, 0, none⟩) n c] (w.alloc (.cells cs t)) (fun e w' => ∃ r : Int, e = .returned (.int .i64 r) ∧ r ∈ l ∧ SRC w' g ∧ Up g w.heap.size w w') := by
  subst hcs
  have hb := (Below.refl w.heap.size w).alloc (Nat.le_refl _) (.cells ((l.map fun x => Value.int .i64 x).toArray) t)
  refine (s_l01Pick g w.heap.size n c l _ (hs.call hb) (by have := hs.lt; omega) (by simp) hn h1 (fun k hk => lit_cells w l t k (by omega))).mono ?_
  rintro e w' ⟨r, h1, h2, h3, h4⟩
  exact ⟨r, h1, h2, h3, (Up.of hb).call h4⟩
theorem s_pick2 (g : Nat) (a0 a1 : Int) (w : World) (hs : SRC w g) : Calls Try.prog 78 #[.pointer (some ⟨g, 0, none⟩), .slice (some ⟨w.heap.size, 0, none⟩) 2 2] (w.alloc (.cells #[.int .i64 a0, .int .i64 a1] 2)) (fun e w' => ∃ r : Int, e = .returned (.int .i64 r) ∧ r ∈ [a0, a1] ∧ SRC w' g ∧ Up g w.heap.size w w') :=
  s_pickLit g 2 2 [a0, a1] _ w 2 hs rfl rfl (by omega)
theorem s_pick3 (g : Nat) (a0 a1 a2 : Int) (w : World) (hs : SRC w g) : Calls Try.prog 78 #[.pointer (some ⟨g, 0, none⟩), .slice (some ⟨w.heap.size, 0, none⟩) 3 3] (w.alloc (.cells #[.int .i64 a0, .int .i64 a1, .int .i64 a2] 2)) (fun e w' => ∃ r : Int, e = .returned (.int .i64 r) ∧ r ∈ [a0, a1, a2] ∧ SRC w' g ∧ Up g w.heap.size w w') :=
  s_pickLit g 3 3 [a0, a1, a2] _ w 2 hs rfl rfl (by omega)
theorem s_pick4 (g : Nat) (a0 a1 a2 a3 : Int) (w : World) (hs : SRC w g) : Calls Try.prog 78 #[.pointer (some ⟨g, 0, none⟩), .slice (some ⟨w.heap.size, 0, none⟩) 4 4] (w.alloc (.cells #[.int .i64 a0, .int .i64 a1, .int .i64 a2, .int .i64 a3] 2)) (fun e w' => ∃ r : Int, e = .returned (.int .i64 r) ∧ r ∈ [a0, a1, a2, a3] ∧ SRC w' g ∧ Up g w.heap.size w w') :=
  s_pickLit g 4 4 [a0, a1, a2, a3] _ w 2 hs rfl rfl (by omega)
theorem s_pick5 (g : Nat) (a0 a1 a2 a3 a4 : Int) (w : World) (hs : SRC w g) : Calls Try.prog 78 #[.pointer (some ⟨g, 0, none⟩), .slice (some ⟨w.heap.size, 0, none⟩) 5 5] (w.alloc (.cells #[.int .i64 a0, .int .i64 a1, .int .i64 a2, .int .i64 a3, .int .i64 a4] 2)) (fun e w' => ∃ r : Int, e = .returned (.int .i64 r) ∧ r ∈ [a0, a1, a2, a3, a4] ∧ SRC w' g ∧ Up g w.heap.size w w') :=
  s_pickLit g 5 5 [a0, a1, a2, a3, a4] _ w 2 hs rfl rfl (by omega)
theorem s_pick6 (g : Nat) (a0 a1 a2 a3 a4 a5 : Int) (w : World) (hs : SRC w g) : Calls Try.prog 78 #[.pointer (some ⟨g, 0, none⟩), .slice (some ⟨w.heap.size, 0, none⟩) 6 6] (w.alloc (.cells #[.int .i64 a0, .int .i64 a1, .int .i64 a2, .int .i64 a3, .int .i64 a4, .int .i64 a5] 2)) (fun e w' => ∃ r : Int, e = .returned (.int .i64 r) ∧ r ∈ [a0, a1, a2, a3, a4, a5] ∧ SRC w' g ∧ Up g w.heap.size w w') :=
  s_pickLit g 6 6 [a0, a1, a2, a3, a4, a5] _ w 2 hs rfl rfl (by omega)
theorem s_pick7 (g : Nat) (a0 a1 a2 a3 a4 a5 a6 : Int) (w : World) (hs : SRC w g) : Calls Try.prog 78 #[.pointer (some ⟨g, 0, none⟩), .slice (some ⟨w.heap.size, 0, none⟩) 7 7] (w.alloc (.cells #[.int .i64 a0, .int .i64 a1, .int .i64 a2, .int .i64 a3, .int .i64 a4, .int .i64 a5, .int .i64 a6] 2)) (fun e w' => ∃ r : Int, e = .returned (.int .i64 r) ∧ r ∈ [a0, a1, a2, a3, a4, a5, a6] ∧ SRC w' g ∧ Up g w.heap.size w w') :=
  s_pickLit g 7 7 [a0, a1, a2, a3, a4, a5, a6] _ w 2 hs rfl rfl (by omega)
theorem s_pick8 (g : Nat) (a0 a1 a2 a3 a4 a5 a6 a7 : Int) (w : World) (hs : SRC w g) : Calls Try.prog 78 #[.pointer (some ⟨g, 0, none⟩), .slice (some ⟨w.heap.size, 0, none⟩) 8 8] (w.alloc (.cells #[.int .i64 a0, .int .i64 a1, .int .i64 a2, .int .i64 a3, .int .i64 a4, .int .i64 a5, .int .i64 a6, .int .i64 a7] 2)) (fun e w' => ∃ r : Int, e = .returned (.int .i64 r) ∧ r ∈ [a0, a1, a2, a3, a4, a5, a6, a7] ∧ SRC w' g ∧ Up g w.heap.size w w') :=
  s_pickLit g 8 8 [a0, a1, a2, a3, a4, a5, a6, a7] _ w 2 hs rfl rfl (by omega)
theorem s_pick9 (g : Nat) (a0 a1 a2 a3 a4 a5 a6 a7 a8 : Int) (w : World) (hs : SRC w g) : Calls Try.prog 78 #[.pointer (some ⟨g, 0, none⟩), .slice (some ⟨w.heap.size, 0, none⟩) 9 9] (w.alloc (.cells #[.int .i64 a0, .int .i64 a1, .int .i64 a2, .int .i64 a3, .int .i64 a4, .int .i64 a5, .int .i64 a6, .int .i64 a7, .int .i64 a8] 2)) (fun e w' => ∃ r : Int, e = .returned (.int .i64 r) ∧ r ∈ [a0, a1, a2, a3, a4, a5, a6, a7, a8] ∧ SRC w' g ∧ Up g w.heap.size w w') :=
  s_pickLit g 9 9 [a0, a1, a2, a3, a4, a5, a6, a7, a8] _ w 2 hs rfl rfl (by omega)
theorem s_pick10 (g : Nat) (a0 a1 a2 a3 a4 a5 a6 a7 a8 a9 : Int) (w : World) (hs : SRC w g) : Calls Try.prog 78 #[.pointer (some ⟨g, 0, none⟩), .slice (some ⟨w.heap.size, 0, none⟩) 10 10] (w.alloc (.cells #[.int .i64 a0, .int .i64 a1, .int .i64 a2, .int .i64 a3, .int .i64 a4, .int .i64 a5, .int .i64 a6, .int .i64 a7, .int .i64 a8, .int .i64 a9] 2)) (fun e w' => ∃ r : Int, e = .returned (.int .i64 r) ∧ r ∈ [a0, a1, a2, a3, a4, a5, a6, a7, a8, a9] ∧ SRC w' g ∧ Up g w.heap.size w w') :=
  s_pickLit g 10 10 [a0, a1, a2, a3, a4, a5, a6, a7, a8, a9] _ w 2 hs rfl rfl (by omega)
theorem s_pick11 (g : Nat) (a0 a1 a2 a3 a4 a5 a6 a7 a8 a9 a10 : Int) (w : World) (hs : SRC w g) : Calls Try.prog 78 #[.pointer (some ⟨g, 0, none⟩), .slice (some ⟨w.heap.size, 0, none⟩) 11 11] (w.alloc (.cells #[.int .i64 a0, .int .i64 a1, .int .i64 a2, .int .i64 a3, .int .i64 a4, .int .i64 a5, .int .i64 a6, .int .i64 a7, .int .i64 a8, .int .i64 a9, .int .i64 a10] 2)) (fun e w' => ∃ r : Int, e = .returned (.int .i64 r) ∧ r ∈ [a0, a1, a2, a3, a4, a5, a6, a7, a8, a9, a10] ∧ SRC w' g ∧ Up g w.heap.size w w') :=
  s_pickLit g 11 11 [a0, a1, a2, a3, a4, a5, a6, a7, a8, a9, a10] _ w 2 hs rfl rfl (by omega)
end Go.Proofs.Ythjoegoeaiemdaa
