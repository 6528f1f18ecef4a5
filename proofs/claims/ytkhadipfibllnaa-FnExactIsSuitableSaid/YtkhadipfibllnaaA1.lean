/- Contracts of small number functions. -/
import Derived.Test.YtkhadipfibllnaaB0
import Derived.WalkKit
import Derived.WalkSpells
import Derived.WalkLawsBesides
import Derived.Deep.QuietTactic
import Derived.BigQuiet
import Derived.Handy
import Derived.Lib.Hide
import Derived.Deep.RegionWith
import Derived.Deep.RegionHeld3
namespace Go.Proofs.Ytkhadipfibllnaa
set_option linter.unusedVariables false
set_option linter.unusedSimpArgs false
open Go.RowKit

def inB (n lo hi : Int) : Bool := decide (lo ≤ n) && decide (n ≤ hi)

theorem inB_true {n lo hi : Int} (h : inB n lo hi = true) : lo ≤ n ∧ n ≤ hi := by
  simpa [inB] using h
theorem inB_mk {n lo hi : Int} (h1 : lo ≤ n) (h2 : n ≤ hi) : inB n lo hi = true := by
  simp [inB, h1, h2]
theorem ret_bool {a b : Bool} (h : a = b) : Ending.returned (.bool a) = .returned (.bool b) := by rw [h]
theorem ret_int {k : IntKind} {a b : Int} (h : a = b) : Ending.returned (.int k a) = .returned (.int k b) := by rw [h]

def Q (v : Value) (w : World) (e : Ending) (w' : World) : Prop := e = .returned v ∧ ∃ n, w' = w.drewN n

set_option maxHeartbeats 400000 in
theorem s_l01In (n lo hi : Int) (w : World) : Calls Try.prog 47 #[.int .i64 n, .int .i64 lo, .int .i64 hi] w (Q (.bool (inB n lo hi)) w) := by
  go_enter Try.func47, Try.ntmps47
  go_wp2
  all_goals (go_ret; exact ⟨ret_bool (by simp [inB, *] <;> omega), 0, rfl⟩)
set_option maxHeartbeats 400000 in
theorem i_within (n lo hi : Int) (w : World) : Calls Try.prog 89 #[.int .i64 n, .int .i64 lo, .int .i64 hi] w (Q (.bool (inB n lo hi)) w) := by
  go_enter Try.func89, Try.ntmps89
  go_wp2
  all_goals (go_ret; exact ⟨ret_bool (by simp [inB, *] <;> omega), 0, rfl⟩)
theorem dq1 {w : World} {n : Nat} : ∃ m, w.drewN n = w.drewN m := ⟨_, rfl⟩
theorem dq2 {w : World} {n k : Nat} : ∃ m, (w.drewN n).drewN k = w.drewN m := ⟨_, World.drewN_drewN ..⟩
def abs64 (n : Int) : Int := max n (wrap64 (-n))
theorem abs64_eq {n : Int} (h1 : -9223372036854775807 ≤ n) (h2 : n ≤ 9223372036854775807) : abs64 n = n.natAbs := by
  unfold abs64 wrap64; omega
set_option maxHeartbeats 400000 in
theorem s_l01Abs (n : Int) (w : World) : Calls Try.prog 149 #[.int .i64 n] w (Q (.int .i64 (abs64 n)) w) := by
  go_enter Try.func149, Try.ntmps149
  go_wp2
  all_goals (go_ret; exact ⟨ret_int (by unfold abs64; omega), 0, rfl⟩)
set_option maxHeartbeats 400000 in
theorem i_abs (n : Int) (w : World) : Calls Try.prog 153 #[.int .i64 n] w (Q (.int .i64 (abs64 n)) w) := by
  go_enter Try.func153, Try.ntmps153
  go_wp2
  all_goals (go_ret; exact ⟨ret_int (by unfold abs64; omega), 0, rfl⟩)

theorem gcd_tmod (x y : Int) : Int.gcd y (x.tmod y) = Int.gcd x y := by
  simp only [Int.gcd, Int.natAbs_tmod]
  rw [Nat.gcd_comm x.natAbs y.natAbs, Nat.gcd_rec y.natAbs x.natAbs, Nat.gcd_comm]
theorem gcd_mod (x y : Int) (h : 0 ≤ x) : Int.gcd y (x % y) = Int.gcd x y := by
  have := gcd_tmod x y
  rwa [Int.tmod_eq_emod_of_nonneg h] at this

set_option maxHeartbeats 400000 in
theorem s_l01Gcd (a b : Int) (w : World) (ha : -4611686018427387904 ≤ a) (ha' : a ≤ 4611686018427387904) (hb : -4611686018427387904 ≤ b) (hb' : b ≤ 4611686018427387904) :
    Calls Try.prog 119 #[.int .i64 a, .int .i64 b] w (Q (.int .i64 (Int.gcd a b)) w) := by
  go_enter Try.func119, Try.ntmps119
  go_wp2_with (first | (go_at_call 149; refine (s_l01Abs _ _).mono ?_; rintro e w' ⟨rfl, n, rfl⟩) | go_quiet (fail))
  rw [abs64_eq (by omega) (by omega), abs64_eq (by omega) (by omega)]
  go_loopw [0, 1] (fun u v wr => ∃ x y : Int, 0 ≤ x ∧ x ≤ 4611686018427387904 ∧ 0 ≤ y ∧ y ≤ 4611686018427387904 ∧ Int.gcd x y = Int.gcd a b ∧ u = .int .i64 x ∧ v = .int .i64 y ∧ ∃ n, wr = w.drewN n) (fun _ v _ => (intOf v).toNat)
  case atStart => exact ⟨_, _, by omega, by omega, by omega, by omega, by simp [Int.gcd], rfl, rfl, _, rfl⟩
  case round =>
    obtain ⟨x, y, hx, hx', hy, hy', hg, rfl, rfl, n, rfl⟩ := hrel
    have HG : Hid (Int.gcd x y = Int.gcd a b) := hg
    clear hg
    by_cases h0 : y = 0
    · subst h0
      go_wp2
      go_ret
      refine ⟨ret_int ?_, _, rfl⟩
      rw [← HG.out]; simp [Int.gcd]; omega
    · have h1 : (y != 0) = true := by simpa using h0
      have hm0 : 0 ≤ x % y := Int.emod_nonneg _ h0
      have hm1 : x % y < y := Int.emod_lt_of_pos _ (by omega)
      go_wp2_with (go_quiet (fail))
      go_roundw
      case rel => exact ⟨y, x % y, hy, hy', hm0, by omega, by rw [gcd_mod _ _ hx]; exact HG.out, rfl, rfl, dq2⟩
      case measure => simp [intOf]; omega

set_option maxHeartbeats 400000 in
theorem i_gcd (a b : Int) (w : World) (ha : -4611686018427387904 ≤ a) (ha' : a ≤ 4611686018427387904) (hb : -4611686018427387904 ≤ b) (hb' : b ≤ 4611686018427387904) :
    Calls Try.prog 124 #[.int .i64 a, .int .i64 b] w (Q (.int .i64 (Int.gcd a b)) w) := by
  go_enter Try.func124, Try.ntmps124
  go_wp2_with (fail)
  go_loopw [0, 1] (fun u v wr => ∃ x y : Int, -4611686018427387904 ≤ x ∧ x ≤ 4611686018427387904 ∧ -4611686018427387904 ≤ y ∧ y ≤ 4611686018427387904 ∧ Int.gcd x y = Int.gcd a b ∧ u = .int .i64 x ∧ v = .int .i64 y ∧ ∃ n, wr = w.drewN n) (fun _ v _ => (intOf v).natAbs)
  case atStart => exact ⟨_, _, by omega, by omega, by omega, by omega, rfl, rfl, rfl, 0, rfl⟩
  case round =>
    obtain ⟨x, y, hx, hx', hy, hy', hg, rfl, rfl, n, rfl⟩ := hrel
    have HG : Hid (Int.gcd x y = Int.gcd a b) := hg
    clear hg
    by_cases h0 : y = 0
    · subst h0
      go_wp2_with (first | (go_at_call 153; refine (i_abs _ _).mono ?_; rintro e w' ⟨rfl, n, rfl⟩))
      go_ret
      refine ⟨ret_int ?_, _, rfl⟩
      rw [← HG.out, abs64_eq (by omega) (by omega)]; simp [Int.gcd]
    · have h1 : (y != 0) = true := by simpa using h0
      have hm2 : (x.tmod y).natAbs < y.natAbs := by
        rw [Int.natAbs_tmod]; exact Nat.mod_lt _ (by omega)
      have hm3 : -4611686018427387904 ≤ x.tmod y ∧ x.tmod y ≤ 4611686018427387904 := by
        clear HG; generalize x.tmod y = z at *; omega
      go_wp2_with (go_quiet (fail))
      go_roundw
      case rel => exact ⟨y, x.tmod y, hy, hy', hm3.1, hm3.2, by rw [gcd_tmod]; exact HG.out, rfl, rfl, dq2⟩
      case measure => simp only [intOf]; exact hm2

theorem below_drewN {B : Nat} {a w : World} (h : Below B a w) (n : Nat) : Below B a (w.drewN n) := ⟨h.os, h.tape, h.output, h.size, h.block⟩
def valB (n : Int) : Bool := inB n (-1000000000000) 1000000000000
theorem valB_true {n : Int} (h : valB n = true) : -1000000000000 ≤ n ∧ n ≤ 1000000000000 := inB_true h
set_option maxHeartbeats 400000 in
theorem s_l01Is (n : Int) (w : World) : Calls Try.prog 150 #[.int .i64 n] w (Q (.bool (valB n)) w) := by
  go_enter Try.func150, Try.ntmps150
  go_wp2_with (first | (go_at_call 47; refine (s_l01In _ _ _ _).mono ?_; rintro e w' ⟨rfl, nq, rfl⟩))
  go_ret
  exact ⟨rfl, dq1⟩
def ratB (n d : Int) : Bool := valB n && (inB d 1 1000000000000 && ((Int.gcd n d : Int) == 1))
/-- A call that makes memory and returns a known value. -/
def M (v : Value) (w : World) (e : Ending) (w' : World) : Prop := e = .returned v ∧ Below w.heap.size w w'
theorem Q.toM {v : Value} {w : World} {e : Ending} {w' : World} (h : Q v w e w') : M v w e w' := by
  obtain ⟨rfl, n, rfl⟩ := h
  exact ⟨rfl, below_drewN (Below.refl _ _) _⟩
set_option maxHeartbeats 400000 in
theorem s_IsRational (a b : Int) (w : World) : Calls Try.prog 120 #[.agg #[.int .i64 a, .int .i64 b]] w (M (.bool (ratB a b)) w) := by
  cases h1 : valB a
  · go_enter Try.func120, Try.ntmps120
    go_wp2_with (first | (go_at_call 150; refine (s_l01Is _ _).mono ?_; rintro e w' ⟨rfl, nq, rfl⟩))
    go_ret
    refine ⟨ret_bool (by simp [ratB, h1]), ?_⟩
    repeat (first | exact Below.refl _ _ | refine below_drewN ?_ _ | refine Below.alloc ?_ (by simp <;> omega) _ | refine Below.setCell ?_ (by simp <;> omega) _ | refine Below.drew ?_ | assumption)
  cases h2 : inB b 1 1000000000000
  · go_enter Try.func120, Try.ntmps120
    go_wp2_with (first | (go_at_call 150; refine (s_l01Is _ _).mono ?_; rintro e w' ⟨rfl, nq, rfl⟩) | (go_at_call 47; refine (s_l01In _ _ _ _).mono ?_; rintro e w' ⟨rfl, nq, rfl⟩))
    go_ret
    refine ⟨ret_bool (by simp [ratB, h1, h2]), ?_⟩
    repeat (first | exact Below.refl _ _ | refine below_drewN ?_ _ | refine Below.alloc ?_ (by simp <;> omega) _ | refine Below.setCell ?_ (by simp <;> omega) _ | refine Below.drew ?_ | assumption)
  have b1 := valB_true h1
  have b2 := inB_true h2
  go_enter Try.func120, Try.ntmps120
  go_wp2_with (first | (go_at_call 150; refine (s_l01Is _ _).mono ?_; rintro e w' ⟨rfl, nq, rfl⟩) | (go_at_call 47; refine (s_l01In _ _ _ _).mono ?_; rintro e w' ⟨rfl, nq, rfl⟩) | (go_at_call 119; refine (s_l01Gcd _ _ _ (by omega) (by omega) (by omega) (by omega)).mono ?_; rintro e w' ⟨rfl, nq, rfl⟩))
  go_ret
  refine ⟨ret_bool (by simp [ratB, h1, h2]), ?_⟩
  repeat (first | exact Below.refl _ _ | refine below_drewN ?_ _ | refine Below.alloc ?_ (by simp <;> omega) _ | refine Below.setCell ?_ (by simp <;> omega) _ | refine Below.drew ?_ | assumption)
theorem bel_call {a w0 w1 : World} (h : Below a.heap.size a w0) (hb : Below w0.heap.size w0 w1) : Below a.heap.size a w1 := h.trans (hb.mono h.size)
theorem ret_ii {k l : IntKind} {a b c d : Int} (h : a = c) (h' : b = d) : Ending.returned (.tuple #[.int k a, .int l b]) = .returned (.tuple #[.int k c, .int l d]) := by rw [h, h']
def M2 (x y : Int) (w : World) (e : Ending) (w' : World) : Prop := e = .returned (.tuple #[.int .i64 x, .int .i64 y]) ∧ Below w.heap.size w w'
def sizeR0 (a b : Int) : Int := if ratB a b then max b a.natAbs else 0
def sizeR1 (a b : Int) : Int := if ratB a b then 0 else 1
end Go.Proofs.Ytkhadipfibllnaa
