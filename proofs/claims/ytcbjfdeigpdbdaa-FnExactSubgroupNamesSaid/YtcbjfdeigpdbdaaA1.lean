/- Contracts of small number functions. -/
import Derived.Test.YtcbjfdeigpdbdaaB0
import Derived.WalkKit
import Derived.WalkSpells
import Derived.WalkLawsBesides
import Derived.Deep.QuietTactic
import Derived.BigQuiet
import Derived.Handy
import Derived.Lib.Hide
import Derived.Deep.RegionWith
import Derived.Deep.RegionHeld3
namespace Go.Proofs.Ytcbjfdeigpdbdaa
set_option linter.unusedVariables false
set_option linter.unusedSimpArgs false
open Go.RowKit

def inB (n lo hi : Int) : Bool := decide (lo ≤ n) && decide (n ≤ hi)

theorem inB_true {n lo hi : Int} (h : inB n lo hi = true) : lo ≤ n ∧ n ≤ hi := by
  simpa [inB] using h
theorem inB_mk {n lo hi : Int} (h1 : lo ≤ n) (h2 : n ≤ hi) : inB n lo hi = true := by
  simp [inB, h1, h2]
theorem ret_bool {a b : Bool} (h : a = b) : Ending.returned (.bool a) = .returned (.bool b) := by rw [h]
theorem ret_int {k : IntKind} {a b : Int} (h : a = b) : Ending.returned (.int k a) = .returned (.int k b) := by rw [h]

def Q (v : Value) (w : World) (e : Ending) (w' : World) : Prop := e = .returned v ∧ ∃ n, w' = w.drewN n

set_option maxHeartbeats 400000 in
theorem s_l01In (n lo hi : Int) (w : World) : Calls Try.prog 50 #[.int .i64 n, .int .i64 lo, .int .i64 hi] w (Q (.bool (inB n lo hi)) w) := by
  go_enter Try.func50, Try.ntmps50
  go_wp2
  all_goals (go_ret; exact ⟨ret_bool (by simp [inB, *] <;> omega), 0, rfl⟩)
set_option maxHeartbeats 400000 in
theorem i_within (n lo hi : Int) (w : World) : Calls Try.prog 53 #[.int .i64 n, .int .i64 lo, .int .i64 hi] w (Q (.bool (inB n lo hi)) w) := by
  go_enter Try.func53, Try.ntmps53
  go_wp2
  all_goals (go_ret; exact ⟨ret_bool (by simp [inB, *] <;> omega), 0, rfl⟩)
theorem dq1 {w : World} {n : Nat} : ∃ m, w.drewN n = w.drewN m := ⟨_, rfl⟩
theorem dq2 {w : World} {n k : Nat} : ∃ m, (w.drewN n).drewN k = w.drewN m := ⟨_, World.drewN_drewN ..⟩
def abs64 (n : Int) : Int := max n (wrap64 (-n))
theorem abs64_eq {n : Int} (h1 : -9223372036854775807 ≤ n) (h2 : n ≤ 9223372036854775807) : abs64 n = n.natAbs := by
  unfold abs64 wrap64; omega
theorem gcd_tmod (x y : Int) : Int.gcd y (x.tmod y) = Int.gcd x y := by
  simp only [Int.gcd, Int.natAbs_tmod]
  rw [Nat.gcd_comm x.natAbs y.natAbs, Nat.gcd_rec y.natAbs x.natAbs, Nat.gcd_comm]
theorem gcd_mod (x y : Int) (h : 0 ≤ x) : Int.gcd y (x % y) = Int.gcd x y := by
  have := gcd_tmod x y
  rwa [Int.tmod_eq_emod_of_nonneg h] at this

theorem below_drewN {B : Nat} {a w : World} (h : Below B a w) (n : Nat) : Below B a (w.drewN n) := ⟨h.os, h.tape, h.output, h.size, h.block⟩
def valB (n : Int) : Bool := inB n (-1000000000000) 1000000000000
theorem valB_true {n : Int} (h : valB n = true) : -1000000000000 ≤ n ∧ n ≤ 1000000000000 := inB_true h
def ratB (n d : Int) : Bool := valB n && (inB d 1 1000000000000 && ((Int.gcd n d : Int) == 1))
/-- A call that makes memory and returns a known value. -/
def M (v : Value) (w : World) (e : Ending) (w' : World) : Prop := e = .returned v ∧ Below w.heap.size w w'
theorem Q.toM {v : Value} {w : World} {e : Ending} {w' : World} (h : Q v w e w') : M v w e w' := by
  obtain ⟨rfl, n, rfl⟩ := h
  exact ⟨rfl, below_drewN (Below.refl _ _) _⟩
theorem bel_call {a w0 w1 : World} (h : Below a.heap.size a w0) (hb : Below w0.heap.size w0 w1) : Below a.heap.size a w1 := h.trans (hb.mono h.size)
theorem ret_ii {k l : IntKind} {a b c d : Int} (h : a = c) (h' : b = d) : Ending.returned (.tuple #[.int k a, .int l b]) = .returned (.tuple #[.int k c, .int l d]) := by rw [h, h']
def M2 (x y : Int) (w : World) (e : Ending) (w' : World) : Prop := e = .returned (.tuple #[.int .i64 x, .int .i64 y]) ∧ Below w.heap.size w w'
def sizeR0 (a b : Int) : Int := if ratB a b then max b a.natAbs else 0
def sizeR1 (a b : Int) : Int := if ratB a b then 0 else 1
end Go.Proofs.Ytcbjfdeigpdbdaa
