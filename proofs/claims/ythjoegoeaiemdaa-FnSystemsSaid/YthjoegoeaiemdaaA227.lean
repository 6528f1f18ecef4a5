/- Draws of residues and systems. -/
import Derived.Test.YthjoegoeaiemdaaA226
import Derived.Test.YthjoegoeaiemdaaA64
import Derived.Test.YthjoegoeaiemdaaA16
import Derived.Deep.RegionHeld3
namespace Go.Proofs.Ythjoegoeaiemdaa
set_option linter.unusedVariables false
set_option linter.unusedSimpArgs false
open Go.RowKit

set_option maxRecDepth 20000 in
set_option maxHeartbeats 2000000 in
theorem s_l02DrawResidue (g : Nat) (p n : Int) (w : World) (hp : -3 ≤ p ∧ p ≤ 101) (hs : SRC w g) : Calls Try.prog 136 #[.pointer (some ⟨g, 0, none⟩), .agg #[.int .i64 p, .int .i64 n]] w (NX g (fun r => -1 ≤ r ∧ r ≤ 1000000000) w) := by
  have hri := fun W => s_IsRing p n W (by omega)
  have hpk := fun a b c d e f i W h => s_pick10 g a b c 0 1 d e (-1) f i W h
  have hgw := hs.lt
  have B0 := BK.new w 93 #[.int .i64 p, .int .i64 n]
  obtain ⟨b0, b1, _, _⟩ := B0.two
  have hb0 := (Below.refl w.heap.size w).alloc (Nat.le_refl _) (.cells #[.int .i64 p, .int .i64 n] 93)
  have hs0 := hs.call hb0
  have u0 := Up.of (g := g) hb0
  have hB0 := fun W (h : Below (w.alloc (.cells #[.int .i64 p, .int .i64 n] 93)).heap.size (w.alloc (.cells #[.int .i64 p, .int .i64 n] 93)) W) => (B0.below h (by simp)).two
  clear hs B0
  cases hr : ringB p n
  · rw [hr] at hri
    clear hr hpk
    go_enter Try.func136, Try.ntmps136
    go_wp2_with (go_at_call 141; refine (hri _).mono ?_; rintro e w1 ⟨rfl, hb1⟩; have hs1 := hs0.call hb1; have u1 := u0.thenB hb1)
    refine (s_nextI g 10 (by omega) _ hs1).mono ?_
    rintro e w2 ⟨k, rfl, hk, hs2, hu2⟩
    go_wp2_with (fail)
    go_ret
    exact ⟨k, rfl, ⟨by omega, by omega⟩, hs2, u1.call hu2⟩
  · rw [hr] at hri
    obtain ⟨p1, p2, n1, n2, hpw, _⟩ := ringB_bd hr
    obtain ⟨P, rfl⟩ := Int.eq_ofNat_of_zero_le (show 0 ≤ p by omega)
    obtain ⟨N, rfl⟩ := Int.eq_ofNat_of_zero_le (show 0 ≤ n by omega)
    have hmo := fun W => s_l02Modulus P N W (by omega) (by omega) (by omega)
    have hmd := md_le P N
    have hm1 : 1 ≤ md P N := by
      unfold md
      rw [Int.toNat_natCast, Int.toNat_natCast] at hpw
      rw [if_pos hpw]
      exact Nat.pos_of_ne_zero (fun h => by have := Nat.pow_eq_zero.1 h; omega)
    generalize md P N = m at *
    have hw1 : IntKind.i64.wrap ((m : Int) - 1) = (m : Int) - 1 := IntWalk.i64_in _ (by omega)
    clear hr hpw
    go_enter Try.func136, Try.ntmps136
    go_wp2_with (first
      | (go_at_call 141; refine (hri _).mono ?_; rintro e w1 ⟨rfl, hb1⟩; have hs1 := hs0.call hb1; have u1 := u0.thenB hb1; obtain ⟨d0, d1, _, _⟩ := hB0 _ hb1)
      | (go_at_call 84; refine (hmo _).mono ?_; rintro e w1' ⟨rfl, q1, rfl⟩))
    have hs2 := hs1.drewN q1
    have u2 := u1.drewN q1
    generalize w1.drewN q1 = w2 at *
    clear hs0 hs1 u0 u1 hb1 d0 d1 b0 b1 hb0 hB0 hri hmo
    refine (s_nextI g (m : Nat) (by omega) _ hs2).mono ?_
    rintro e w3 ⟨k3, rfl, h3, hs3, hu3⟩
    have u3 := u2.call hu3
    go_wp2_with (fail)
    refine (s_nextI g (m : Nat) (by omega) _ hs3).mono ?_
    rintro e w4 ⟨k4, rfl, hk4, hsw4, huw4⟩
    have uw4 := u3.call huw4
    go_wp2_with (fail)
    refine (s_nextI g (m : Nat) (by omega) _ hsw4).mono ?_
    rintro e w5 ⟨k5, rfl, hk5, hsw5, huw5⟩
    have uw5 := uw4.call huw5
    go_wp2_with (fail)
    refine (s_nextI g (m : Nat) (by omega) _ hsw5).mono ?_
    rintro e w6 ⟨k6, rfl, hk6, hsw6, huw6⟩
    have uw6 := uw5.call huw6
    go_wp2_with (fail)
    refine (s_nextI g (m : Nat) (by omega) _ hsw6).mono ?_
    rintro e w7 ⟨k7, rfl, hk7, hsw7, huw7⟩
    have uw7 := uw6.call huw7
    go_wp2_with (fail)
    refine (hpk _ _ _ _ _ _ _ _ hsw7).mono ?_
    rintro e w8 ⟨r, rfl, hr, hs8, hu8⟩
    have hr : -1 ≤ r ∧ r ≤ 1000000000 := by
      simp at hr
      omega
    go_wp2_with (fail)
    go_ret
    exact ⟨r, rfl, hr, hs8, uw7.call hu8⟩
/-- The cells of residues. -/
def zcells (l : List Z3) : List Value := l.flatMap fun z => [.int .i64 z.1, .int .i64 z.2.1, .int .i64 z.2.2]
theorem zcells_snoc (l : List Z3) (z : Z3) : zcells (l ++ [z]) = zcells l ++ [.int .i64 z.1, .int .i64 z.2.1, .int .i64 z.2.2] := by simp [zcells]
theorem zcells_at : ∀ (l : List Z3) (k : Nat), k < l.length → (zcells l)[k * 3]? = some (.int .i64 (g3 l k).1) ∧ (zcells l)[k * 3 + 1]? = some (.int .i64 (g3 l k).2.1) ∧ (zcells l)[k * 3 + 2]? = some (.int .i64 (g3 l k).2.2)
  | [], k, h => by simp at h
  | z :: l, 0, _ => by simp [zcells, g3]
  | z :: l, k + 1, h => by
    have h1 := zcells_at l k (by simpa using h)
    have e1 : (k + 1) * 3 = k * 3 + 3 := by omega
    have e2 : (k + 1) * 3 + 1 = k * 3 + 1 + 3 := by omega
    have e3 : (k + 1) * 3 + 2 = k * 3 + 2 + 3 := by omega
    rw [e3, e2, e1]
    simpa [zcells, g3] using h1
theorem own_it {w : World} {base n c : Nat} {A : Option Addr} {l : List Z3} (h : w.ownsRow base 95 3 (.slice A n c) n (zcells l)) (hn : n = l.length) : IT w w.heap.size A l := fun h0 => by
  obtain ⟨g, rfl, _, h2, h3⟩ := own_src h (by omega)
  refine ⟨g, 0, rfl, h2, fun k hk => ?_⟩
  obtain ⟨c0, c1, c2⟩ := zcells_at l k hk
  rw [Nat.zero_add]
  exact ⟨h3 _ _ c0, h3 _ _ c1, h3 _ _ c2⟩
theorem three_src (w : World) (a b c : Value) (t : TypeId) : ∀ ad, some (⟨w.heap.size, 0, none⟩ : Addr) = some ad → ∀ j u, [a, b, c][j]? = some u → (w.alloc (.cells #[a, b, c] t)).cell? (ad.add j) = some u := by
  intro ad hA j u hj
  injection hA with hA
  subst hA
  rw [Go.WideShapes.add_plain, Nat.zero_add]
  have h := (BK.new w t #[a, b, c]).cell j
  rw [h]
  simpa using hj
end Go.Proofs.Ythjoegoeaiemdaa
