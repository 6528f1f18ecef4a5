/- Contracts: valuations, powers. -/
import Derived.Test.YtcbjfdeigpdbdaaA9
import Derived.Test.YtcbjfdeigpdbdaaA6
namespace Go.Proofs.Ytcbjfdeigpdbdaa
set_option linter.unusedVariables false
set_option linter.unusedSimpArgs false
open Go.RowKit

/-- How often p divides n. -/
def val (p n : Nat) : Nat := (strip p n).1
def rst (p n : Nat) : Nat := (strip p n).2
theorem val_yes {p n : Nat} (hp : 2 ≤ p) (hn : 0 < n) (h : n % p = 0) : val p n = val p (n / p) + 1 ∧ rst p n = rst p (n / p) := by
  unfold val rst; rw [strip_yes hp hn h]; exact ⟨rfl, rfl⟩
theorem val_no {p n : Nat} (h : ¬ n % p = 0) : val p n = 0 ∧ rst p n = n := by unfold val rst; rw [strip_no h]; exact ⟨rfl, rfl⟩
theorem val_bd {p n : Nat} (hp : 2 ≤ p) (hn : 0 < n) : 0 < rst p n ∧ rst p n + val p n ≤ n ∧ rst p n % p ≠ 0 := strip_bd hp n n (Nat.le_refl _) hn
theorem val_mul {p : Nat} (hp : 2 ≤ p) : ∀ m n : Nat, n ≤ m → 0 < n → n = p ^ val p n * rst p n := by
  intro m
  induction m with
  | zero => intro n h1 h2; omega
  | succ m ih =>
    intro n h1 h2
    by_cases h : n % p = 0
    · obtain ⟨e1, e2⟩ := val_yes hp h2 h
      have hlt := Nat.div_lt_self h2 hp
      have hd := Nat.dvd_of_mod_eq_zero h
      have hpos : 0 < n / p := Nat.div_pos (Nat.le_of_dvd h2 hd) (by omega)
      have := ih (n / p) (by omega) hpos
      rw [e1, e2, Nat.pow_succ, Nat.mul_right_comm, ← this]
      exact (Nat.div_mul_cancel hd).symm
    · obtain ⟨e1, e2⟩ := val_no h
      rw [e1, e2]; simp
theorem pow_val_le {p n : Nat} (hp : 2 ≤ p) (hn : 0 < n) : p ^ val p n ≤ n := by
  have h := val_mul hp n n (Nat.le_refl _) hn
  have h2 := (val_bd hp hn).1
  have : p ^ val p n * 1 ≤ p ^ val p n * rst p n := Nat.mul_le_mul_left _ h2
  omega
theorem val_pos_dvd {p n : Nat} (h : 0 < val p n) : p ∣ n := by
  by_cases h1 : n % p = 0
  · exact Nat.dvd_of_mod_eq_zero h1
  · rw [(val_no h1).1] at h; omega
theorem tmod_zero {m : Int} {p : Nat} : m.tmod p = 0 ↔ m.natAbs % p = 0 := by
  have h := Int.natAbs_tmod m p
  rw [Int.natAbs_natCast] at h
  omega
theorem tdiv_abs (m : Int) (p : Nat) : (m.tdiv p).natAbs = m.natAbs / p := by
  rw [Int.natAbs_tdiv, Int.natAbs_natCast]
  rfl
/-- What is left of an integer, with its sign. -/
def rstI (p : Nat) (n : Int) : Int := if n < 0 then -(rst p n.natAbs : Int) else (rst p n.natAbs : Int)
def SameSign (m n : Int) : Prop := (n < 0 → m < 0) ∧ (0 < n → 0 < m)
theorem tdiv_sign {m : Int} {p : Nat} (hp : 2 ≤ p) (h0 : m ≠ 0) (h : m.natAbs % p = 0) : SameSign (m.tdiv p) m := by
  have hd := Nat.dvd_of_mod_eq_zero h
  have hpos : 0 < m.natAbs / p := Nat.div_pos (Nat.le_of_dvd (by omega) hd) (by omega)
  have ha := tdiv_abs m p
  refine ⟨fun hm => ?_, fun hm => ?_⟩
  · have : m.tdiv p ≤ 0 := by
      have h1 : (-m).tdiv p = -(m.tdiv p) := Int.neg_tdiv ..
      have h2 : 0 ≤ (-m).tdiv p := Int.tdiv_nonneg (by omega) (by omega)
      omega
    omega
  · have : 0 ≤ m.tdiv p := Int.tdiv_nonneg (by omega) (by omega)
    omega
set_option maxHeartbeats 1000000 in
theorem i_power (n : Nat) (e : Nat) (w : World) (hb : n ^ e ≤ 1000000000000) (hn : 1 ≤ n) (he : e ≤ 1000) : Calls Try.prog 47 #[.int .i64 n, .int .i64 e] w (Q (.int .i64 ((n ^ e : Nat) : Int)) w) := by
  have HB := Lib.hid hb
  clear hb
  go_enter Try.func47, Try.ntmps47
  go_wp2_with (fail)
  go_loop [5, 7] (fun u5 u7 => ∃ i o : Nat, i ≤ e ∧ u7 = .int .i64 i ∧ u5 = .int .i64 o ∧ Hid (o = n ^ i)) (fun _ u7 => e - (intOf u7).toNat)
  case atStart => exact ⟨0, 1, by omega, rfl, rfl, by simp [Hid]⟩
  case round =>
    obtain ⟨i, o, hi, rfl, rfl, HO⟩ := hrel
    by_cases hlt : i < e
    · have h1 : n ^ (i + 1) ≤ n ^ e := Nat.pow_le_pow_right hn hlt
      have h2 : o * n = n ^ (i + 1) := by rw [HO.out, Nat.pow_succ]
      have h3 : o * n ≤ 1000000000000 := by rw [h2]; exact Nat.le_trans h1 HB.out
      have hx : (o : Int) * (n : Int) = ((o * n : Nat) : Int) := by simp
      have hx1 : 0 ≤ (o : Int) * (n : Int) := by rw [hx]; omega
      have hx2 : (o : Int) * (n : Int) ≤ 1000000000000 := by rw [hx]; omega
      have H2 := Lib.hid h2
      clear hx h1 h2 h3
      go_wp2_with (fail)
      go_round
      case rel => exact ⟨i + 1, o * n, by omega, by go_num, by simp, H2.out⟩
      case measure => simp [intOf]; omega
    · obtain rfl : i = e := by omega
      go_wp2_with (fail)
      go_ret
      exact ⟨ret_int (by first | (rw [HO.out]; done) | (rw [HO.out]; simp)), 0, rfl⟩
end Go.Proofs.Ytcbjfdeigpdbdaa
