/- Walks of the laws: IsType, SignOfType, SizeOfType. -/
import Derived.Test.YtcbjfdeigpdbdaaA6
namespace Go.Proofs.Ytcbjfdeigpdbdaa
set_option linter.unusedVariables false
set_option linter.unusedSimpArgs false
open Go.RowKit

theorem IS.drewN {w : World} {B : Nat} {A : Option Addr} {xs : List Int} (h : IS w B A xs) (n : Nat) : IS (w.drewN n) B A xs := h
theorem NS.drewN {w : World} {B g : Nat} {xs : List Int} (h : NS w B g xs) (n : Nat) : NS (w.drewN n) B g xs := h
theorem IS.call {w w' : World} {A : Option Addr} {xs : List Int} (h : IS w w.heap.size A xs) (hb : Below w.heap.size w w') : IS w' w'.heap.size A xs := (h.below hb).more hb.size
theorem TypeP.bd {xs : List Int} (h : TypeP xs) : ∀ k, k < xs.length → -1000000000 ≤ gt xs k ∧ gt xs k ≤ 1000000000 := fun k hk => by
  have := h.1 k hk; omega
theorem TypeP.sum_ge {xs : List Int} (h : TypeP xs) : (xs.length : Int) ≤ xs.sum := by
  have h1 := sumTo_bd (xs := xs) (lo := 1) (hi := 6) xs.length (Nat.le_refl _) (fun j hj => ⟨(h.1 j hj).1, (h.1 j hj).2.1⟩)
  rw [sumTo_all] at h1
  omega
def sgnI (n : Int) : Int := if n % 2 = 1 then -1 else 1
noncomputable def sgV (xs : List Int) : Int := if typeB xs then sgnI (xs.sum - xs.length) else 0
noncomputable def sgC (xs : List Int) : Int := if typeB xs then 0 else 1
set_option maxHeartbeats 400000 in
theorem i_size (A : Option Addr) (n c : Nat) (w : World) : Calls Try.prog 94 #[.slice A n c] w (Q (.int .i64 n) w) := by
  go_enter Try.func94, Try.ntmps94
  go_wp2_with (fail)
  go_ret
  exact ⟨rfl, 0, rfl⟩
def fact : Nat → Nat
  | 0 => 1
  | k + 1 => (k + 1) * fact k
theorem fact_le {k : Nat} (h : k ≤ 6) : 1 ≤ fact k ∧ fact k ≤ 720 := by
  have : k = 0 ∨ k = 1 ∨ k = 2 ∨ k = 3 ∨ k = 4 ∨ k = 5 ∨ k = 6 := by omega
  rcases this with rfl | rfl | rfl | rfl | rfl | rfl | rfl <;> decide
theorem fact_pos : ∀ k : Nat, 1 ≤ fact k
  | 0 => Nat.le_refl _
  | k + 1 => by
    have h := fact_pos k
    have : k + 1 ≤ (k + 1) * fact k := Nat.le_mul_of_pos_right _ h
    rw [fact]; omega
theorem fact_self : ∀ k : Nat, k ≤ fact k
  | 0 => by simp
  | k + 1 => Nat.le_mul_of_pos_right _ (fact_pos k)
set_option maxHeartbeats 400000 in
theorem i_factorial (n : Int) (w : World) (h0 : 1 ≤ n) (h1 : n ≤ 6) : Calls Try.prog 120 #[.int .i64 n] w (Q (.int .i64 (fact n.toNat : Nat)) w) := by
  obtain ⟨n, rfl⟩ := Int.eq_ofNat_of_zero_le (show 0 ≤ n by omega)
  go_enter Try.func120, Try.ntmps120
  go_wp2_with (fail)
  go_loop [3, 4] (fun u v => ∃ k o : Nat, 2 ≤ k ∧ k ≤ n + 1 ∧ u = .int .i64 o ∧ v = .int .i64 k ∧ Hid (o = fact (k - 1))) (fun _ v => 10 - (intOf v).toNat)
  case atStart => exact ⟨2, 1, by omega, by omega, rfl, rfl, rfl⟩
  case round =>
    obtain ⟨k, o, hk, hk', rfl, rfl, HO⟩ := hrel
    by_cases hlt : k ≤ n
    · have hf := fact_le (k := k) (by omega)
      have he : fact k = o * k := by rw [HO.out]; cases k with
        | zero => omega
        | succ k => rw [fact, Nat.mul_comm]; rfl
      rw [he] at hf
      have hm : (o : Int) * (k : Int) = ((o * k : Nat) : Int) := by simp
      have hm1 : 0 ≤ (o : Int) * (k : Int) := by rw [hm]; omega
      have hm2 : (o : Int) * (k : Int) ≤ 720 := by rw [hm]; omega
      have HE := Lib.hid he
      clear hm he
      go_wp2_with (fail)
      go_round
      case rel => exact ⟨k + 1, o * k, by omega, by omega, by simp, by go_num, HE.out.symm⟩
      case measure => simp [intOf]; omega
    · obtain rfl : k = n + 1 := by omega
      go_wp2_with (fail)
      go_ret
      exact ⟨ret_int (by rw [HO.out]; simp), 0, rfl⟩
set_option maxHeartbeats 400000 in
theorem s_l21Factorial (n : Int) (w : World) (h0 : 1 ≤ n) (h1 : n ≤ 6) : Calls Try.prog 102 #[.int .i64 n] w (Q (.int .i64 (fact n.toNat : Nat)) w) := by
  obtain ⟨n, rfl⟩ := Int.eq_ofNat_of_zero_le (show 0 ≤ n by omega)
  have hn6 := fact_le (k := n) (by omega)
  go_enter Try.func102, Try.ntmps102
  go_wp2_with (fail)
  go_loop [0, 3] (fun v u => ∃ m o : Nat, 1 ≤ m ∧ m ≤ n ∧ u = .int .i64 o ∧ v = .int .i64 m ∧ Hid (o * fact m = fact n)) (fun v _ => (intOf v).toNat)
  case atStart => exact ⟨n, 1, by omega, by omega, rfl, rfl, by unfold Hid; omega⟩
  case round =>
    obtain ⟨m, o, hm, hm', rfl, rfl, HO⟩ := hrel
    by_cases hlt : 1 < m
    · have hle : o * m ≤ 720 := by
        have h1 := Nat.mul_le_mul_left o (fact_self m)
        have h2 := HO.out
        omega
      have hx : (o : Int) * (m : Int) = ((o * m : Nat) : Int) := by simp
      have hx1 : 0 ≤ (o : Int) * (m : Int) := by rw [hx]; omega
      have hx2 : (o : Int) * (m : Int) ≤ 720 := by rw [hx]; omega
      clear hx
      go_wp2_with (fail)
      go_round
      case rel => exact ⟨m - 1, o * m, by omega, by omega, by simp, by congr 1; omega, by
        obtain ⟨m, rfl⟩ : ∃ q, m = q + 1 := ⟨m - 1, by omega⟩
        have := HO.out
        rw [fact, ← Nat.mul_assoc] at this
        exact this⟩
      case measure => simp [intOf]; omega
    · obtain rfl : m = 1 := by omega
      go_wp2_with (fail)
      go_ret
      refine ⟨ret_int ?_, 0, rfl⟩
      have := HO.out
      simp [fact] at this
      rw [this]
end Go.Proofs.Ytcbjfdeigpdbdaa
