/- Several parts of the proof in one text; each part says what it shows. Nothing is assumed. -/
import Derived.Test.YtifaccppbhbfhaaA2
import Derived.Test.YtifaccppbhbfhaaA8
import Derived.IntWalk
/- Contracts: factors of a number as a slice of prime powers. -/
namespace Go.Proofs.Ytifaccppbhbfhaa
set_option linter.unusedVariables false
set_option linter.unusedSimpArgs false
open Go.RowKit

/-- wr is w behind some draws. -/
def gp (l : List (Int × Int)) (k : Nat) : Int × Int := l.getD k (0, 0)
def pcells (l : List (Int × Int)) : List Value := l.flatMap fun x => [.int .i64 x.1, .int .i64 x.2]
theorem pcells_length : ∀ l : List (Int × Int), (pcells l).length = l.length * 2
  | [] => rfl
  | x :: l => by
    have := pcells_length l
    simp only [pcells, List.flatMap_cons, List.length_append, List.length_cons, List.length_nil] at *
    omega
theorem pcells_snoc (l : List (Int × Int)) (x : Int × Int) : pcells (l ++ [x]) = pcells l ++ [.int .i64 x.1, .int .i64 x.2] := by
  simp [pcells]
theorem pcells_at : ∀ (l : List (Int × Int)) (k : Nat), k < l.length → (pcells l)[k * 2]? = some (.int .i64 (gp l k).1) ∧ (pcells l)[k * 2 + 1]? = some (.int .i64 (gp l k).2)
  | [], k, h => by simp at h
  | x :: l, 0, _ => by simp [pcells, gp]
  | x :: l, k + 1, h => by
    have := pcells_at l k (by simpa using h)
    have e : pcells (x :: l) = .int .i64 x.1 :: .int .i64 x.2 :: pcells l := by simp [pcells]
    have e1 : (k + 1) * 2 = k * 2 + 1 + 1 := by omega
    have e2 : gp (x :: l) (k + 1) = gp l k := by simp [gp]
    rw [e, e1, e2, List.getElem?_cons_succ, List.getElem?_cons_succ, List.getElem?_cons_succ, List.getElem?_cons_succ]
    exact this
theorem pcells_one (l : List (Int × Int)) : ∀ u ∈ pcells l, u.oneCell' = true := by
  intro u hu
  simp only [pcells, List.mem_flatMap] at hu
  obtain ⟨x, _, hx⟩ := hu
  simp at hx
  rcases hx with rfl | rfl <;> rfl
/-- A slice of pairs of int64 at address A reads as l. -/
def IP (w : World) (B : Nat) (A : Option Addr) (l : List (Int × Int)) : Prop :=
  0 < l.length → ∃ b off, A = some ⟨b, off, none⟩ ∧ b < B ∧ ∀ k, k < l.length → w.cell? ⟨b, off + k * 2, none⟩ = some (.int .i64 (gp l k).1) ∧ w.cell? ⟨b, off + k * 2 + 1, none⟩ = some (.int .i64 (gp l k).2)
theorem IP.at {w : World} {B : Nat} {A : Option Addr} {l : List (Int × Int)} (h : IP w B A l) {k : Nat} (hk : k < l.length) : ∃ b off, A = some ⟨b, off, none⟩ ∧ b < B ∧ w.cell? ⟨b, off + k * 2, none⟩ = some (.int .i64 (gp l k).1) ∧ w.cell? ⟨b, off + k * 2 + 1, none⟩ = some (.int .i64 (gp l k).2) := by
  obtain ⟨b, off, h1, h2, h3⟩ := h (by omega)
  exact ⟨b, off, h1, h2, h3 k hk⟩
theorem ip_of_own {w : World} {base cap n : Nat} {e : TypeId} {A : Option Addr} {l : List (Int × Int)} (h : w.ownsRow base e 2 (.slice A n cap) n (pcells l)) (hn : n = l.length) : IP w w.heap.size A l := by
  intro hp
  rcases h.2 with ⟨_, h0⟩ | ⟨g, c, cur, hv, _, hh, _⟩
  · omega
  · have hA : A = some ⟨g, 0, none⟩ := by injection hv
    subst hA
    refine ⟨g, 0, rfl, (h.lt g rfl).2, fun k hk => ?_⟩
    have h1 := h.cells (g := g) rfl
    have h2 := pcells_at l k hk
    have e1 := h1 _ _ h2.1
    have e2 := h1 _ _ h2.2
    rw [Go.WideShapes.add_plain] at e1 e2
    rw [Nat.zero_add] at *
    exact ⟨e1, e2⟩

/-- How often p divides n, and what is left. -/
def strip (p n : Nat) : Nat × Nat := if h : 2 ≤ p ∧ 0 < n ∧ n % p = 0 then ((strip p (n / p)).1 + 1, (strip p (n / p)).2) else (0, n)
termination_by n
decreasing_by all_goals exact Nat.div_lt_self h.2.1 h.1
theorem strip_yes {p n : Nat} (hp : 2 ≤ p) (hn : 0 < n) (h : n % p = 0) : strip p n = ((strip p (n / p)).1 + 1, (strip p (n / p)).2) := by rw [strip, dif_pos ⟨hp, hn, h⟩]
theorem strip_no {p n : Nat} (h : ¬ n % p = 0) : strip p n = (0, n) := by rw [strip, dif_neg (fun h' => h h'.2.2)]
theorem strip_bd {p : Nat} (hp : 2 ≤ p) : ∀ m n : Nat, n ≤ m → 0 < n → 0 < (strip p n).2 ∧ (strip p n).2 + (strip p n).1 ≤ n ∧ (strip p n).2 % p ≠ 0 := by
  intro m
  induction m with
  | zero => intro n h1 h2; omega
  | succ m ih =>
    intro n h1 h2
    by_cases h : n % p = 0
    · have hlt := Nat.div_lt_self h2 hp
      have hpos : 0 < n / p := Nat.div_pos (Nat.le_of_dvd h2 (Nat.dvd_of_mod_eq_zero h)) (by omega)
      have := ih (n / p) (by omega) hpos
      rw [strip_yes hp h2 h]
      exact ⟨this.1, by simp only []; omega, this.2.2⟩
    · rw [strip_no h]
      exact ⟨h2, by simp, h⟩
/-- The prime powers of n from p on. -/
def fl (p n : Nat) : List (Int × Int) :=
  if h : 2 ≤ p ∧ 1 < n then
    if n < p * p then [((n : Int), 1)] else
      (if 0 < (strip p n).1 then [((p : Int), ((strip p n).1 : Int))] else []) ++ fl (p + 1) (strip p n).2
  else []
termination_by n - p
decreasing_by
  have h1 := strip_bd h.1 n n (Nat.le_refl _) (by omega)
  have h2 : p * 2 ≤ p * p := Nat.mul_le_mul_left p h.1
  omega
theorem fl_one (p : Nat) : fl p 1 = [] := by rw [fl, dif_neg (by omega)]
theorem fl_last {p n : Nat} (hp : 2 ≤ p) (hn : 1 < n) (h : n < p * p) : fl p n = [((n : Int), 1)] := by rw [fl, dif_pos ⟨hp, hn⟩, if_pos h]
theorem fl_step {p n : Nat} (hp : 2 ≤ p) (hn : 1 < n) (h : ¬ n < p * p) : fl p n = (if 0 < (strip p n).1 then [((p : Int), ((strip p n).1 : Int))] else []) ++ fl (p + 1) (strip p n).2 := by
  rw [fl, dif_pos ⟨hp, hn⟩, if_neg h]
theorem fl_le {p n : Nat} (hp : 2 ≤ p) (hn : 1 ≤ n) (h : ¬ n < p * p) : 1 < n := by
  have h2 : p * 2 ≤ p * p := Nat.mul_le_mul_left p hp
  omega
theorem sqN_1000 {d : Nat} (h : d * d ≤ 1000000) : d ≤ 1000 := by
  rcases Nat.lt_or_ge 1000 d with h1 | h1
  · have := Nat.mul_le_mul h1 h1
    omega
  · exact h1
/-- What a call gives that makes a slice of prime powers. -/
def FP (l : List (Int × Int)) (w : World) (e : Ending) (w' : World) : Prop := ∃ A cap, e = .returned (.slice A l.length cap) ∧ l.length ≤ 2000 ∧ IP w' w'.heap.size A l ∧ Below w.heap.size w w'
theorem two_cells (w : World) (a b : Value) (t : TypeId) : ∀ j u, [a, b][j]? = some u → (w.alloc (.cells #[a, b] t)).cell? ((⟨w.heap.size, 0, none⟩ : Addr).add j) = some u := by
  intro j u h
  rw [Go.WideShapes.add_plain]
  rcases j with _ | _ | j
  · simp at h; subst h; simp [go_sem]
  · simp at h; subst h; simp [go_sem]
  · simp at h
theorem own_slice {w : World} {base n cap' : Nat} {e : TypeId} {size : Nat} {v : Value} {xs : List Value} (h : w.ownsRow base e size v n xs) : ∃ A cap, v = .slice A n cap := by
  rcases h.2 with ⟨rfl, rfl⟩ | ⟨g, cap, cur, rfl, _⟩
  · exact ⟨none, 0, rfl⟩
  · exact ⟨_, _, rfl⟩
end Go.Proofs.Ytifaccppbhbfhaa
/- Contracts: valuations, powers. -/
namespace Go.Proofs.Ytifaccppbhbfhaa
set_option linter.unusedVariables false
set_option linter.unusedSimpArgs false
open Go.RowKit

/-- How often p divides n. -/
def val (p n : Nat) : Nat := (strip p n).1
def rst (p n : Nat) : Nat := (strip p n).2
theorem val_yes {p n : Nat} (hp : 2 ≤ p) (hn : 0 < n) (h : n % p = 0) : val p n = val p (n / p) + 1 ∧ rst p n = rst p (n / p) := by
  unfold val rst; rw [strip_yes hp hn h]; exact ⟨rfl, rfl⟩
theorem val_no {p n : Nat} (h : ¬ n % p = 0) : val p n = 0 ∧ rst p n = n := by unfold val rst; rw [strip_no h]; exact ⟨rfl, rfl⟩
theorem val_bd {p n : Nat} (hp : 2 ≤ p) (hn : 0 < n) : 0 < rst p n ∧ rst p n + val p n ≤ n ∧ rst p n % p ≠ 0 := strip_bd hp n n (Nat.le_refl _) hn
theorem val_mul {p : Nat} (hp : 2 ≤ p) : ∀ m n : Nat, n ≤ m → 0 < n → n = p ^ val p n * rst p n := by
  intro m
  induction m with
  | zero => intro n h1 h2; omega
  | succ m ih =>
    intro n h1 h2
    by_cases h : n % p = 0
    · obtain ⟨e1, e2⟩ := val_yes hp h2 h
      have hlt := Nat.div_lt_self h2 hp
      have hd := Nat.dvd_of_mod_eq_zero h
      have hpos : 0 < n / p := Nat.div_pos (Nat.le_of_dvd h2 hd) (by omega)
      have := ih (n / p) (by omega) hpos
      rw [e1, e2, Nat.pow_succ, Nat.mul_right_comm, ← this]
      exact (Nat.div_mul_cancel hd).symm
    · obtain ⟨e1, e2⟩ := val_no h
      rw [e1, e2]; simp
theorem pow_val_le {p n : Nat} (hp : 2 ≤ p) (hn : 0 < n) : p ^ val p n ≤ n := by
  have h := val_mul hp n n (Nat.le_refl _) hn
  have h2 := (val_bd hp hn).1
  have : p ^ val p n * 1 ≤ p ^ val p n * rst p n := Nat.mul_le_mul_left _ h2
  omega
theorem val_pos_dvd {p n : Nat} (h : 0 < val p n) : p ∣ n := by
  by_cases h1 : n % p = 0
  · exact Nat.dvd_of_mod_eq_zero h1
  · rw [(val_no h1).1] at h; omega
theorem tmod_zero {m : Int} {p : Nat} : m.tmod p = 0 ↔ m.natAbs % p = 0 := by
  have h := Int.natAbs_tmod m p
  rw [Int.natAbs_natCast] at h
  omega
theorem tdiv_abs (m : Int) (p : Nat) : (m.tdiv p).natAbs = m.natAbs / p := by
  rw [Int.natAbs_tdiv, Int.natAbs_natCast]
  rfl
/-- What is left of an integer, with its sign. -/
def rstI (p : Nat) (n : Int) : Int := if n < 0 then -(rst p n.natAbs : Int) else (rst p n.natAbs : Int)
def SameSign (m n : Int) : Prop := (n < 0 → m < 0) ∧ (0 < n → 0 < m)
theorem tdiv_sign {m : Int} {p : Nat} (hp : 2 ≤ p) (h0 : m ≠ 0) (h : m.natAbs % p = 0) : SameSign (m.tdiv p) m := by
  have hd := Nat.dvd_of_mod_eq_zero h
  have hpos : 0 < m.natAbs / p := Nat.div_pos (Nat.le_of_dvd (by omega) hd) (by omega)
  have ha := tdiv_abs m p
  refine ⟨fun hm => ?_, fun hm => ?_⟩
  · have : m.tdiv p ≤ 0 := by
      have h1 : (-m).tdiv p = -(m.tdiv p) := Int.neg_tdiv ..
      have h2 : 0 ≤ (-m).tdiv p := Int.tdiv_nonneg (by omega) (by omega)
      omega
    omega
  · have : 0 ≤ m.tdiv p := Int.tdiv_nonneg (by omega) (by omega)
    omega
set_option maxHeartbeats 1000000 in
theorem i_power (n : Nat) (e : Nat) (w : World) (hb : n ^ e ≤ 1000000000000) (hn : 1 ≤ n) (he : e ≤ 1000) : Calls Try.prog 33 #[.int .i64 n, .int .i64 e] w (Q (.int .i64 ((n ^ e : Nat) : Int)) w) := by
  have HB := Lib.hid hb
  clear hb
  go_enter Try.func33, Try.ntmps33
  go_wp2_with (fail)
  go_loop [5, 7] (fun u5 u7 => ∃ i o : Nat, i ≤ e ∧ u7 = .int .i64 i ∧ u5 = .int .i64 o ∧ Hid (o = n ^ i)) (fun _ u7 => e - (intOf u7).toNat)
  case atStart => exact ⟨0, 1, by omega, rfl, rfl, by simp [Hid]⟩
  case round =>
    obtain ⟨i, o, hi, rfl, rfl, HO⟩ := hrel
    by_cases hlt : i < e
    · have h1 : n ^ (i + 1) ≤ n ^ e := Nat.pow_le_pow_right hn hlt
      have h2 : o * n = n ^ (i + 1) := by rw [HO.out, Nat.pow_succ]
      have h3 : o * n ≤ 1000000000000 := by rw [h2]; exact Nat.le_trans h1 HB.out
      have hx : (o : Int) * (n : Int) = ((o * n : Nat) : Int) := by simp
      have hx1 : 0 ≤ (o : Int) * (n : Int) := by rw [hx]; omega
      have hx2 : (o : Int) * (n : Int) ≤ 1000000000000 := by rw [hx]; omega
      have H2 := Lib.hid h2
      clear hx h1 h2 h3
      go_wp2_with (fail)
      go_round
      case rel => exact ⟨i + 1, o * n, by omega, by go_num, by simp, H2.out⟩
      case measure => simp [intOf]; omega
    · obtain rfl : i = e := by omega
      go_wp2_with (fail)
      go_ret
      exact ⟨ret_int (by first | (rw [HO.out]; done) | (rw [HO.out]; simp)), 0, rfl⟩
end Go.Proofs.Ytifaccppbhbfhaa
/- Contracts and walks: AbsoluteAt. -/
namespace Go.Proofs.Ytifaccppbhbfhaa
set_option linter.unusedVariables false
set_option linter.unusedSimpArgs false
open Go.RowKit

noncomputable def rcode (a b : Int) : Int := if ratB a b then (if a = 0 then 5 else 0) else 1
theorem ratB_bd {a b : Int} (h : ratB a b = true) : -1000000000000 ≤ a ∧ a ≤ 1000000000000 ∧ 1 ≤ b ∧ b ≤ 1000000000000 ∧ Int.gcd a b = 1 := by
  unfold ratB at h
  simp only [Bool.and_eq_true, beq_iff_eq] at h
  have h1 := valB_true h.1
  have h2 := inB_true h.2.1
  have h3 := h.2.2
  omega
noncomputable def vcode (a b p : Int) : Int := if smallB p then rcode a b else 1
noncomputable def vV (a b p : Int) : Int := if vcode a b p = 0 then (val p.toNat a.natAbs : Int) - (val p.toNat b.natAbs : Int) else 0
theorem vcode_0 {a b p : Int} (h : vcode a b p = 0) : smallB p = true ∧ ratB a b = true ∧ a ≠ 0 := by
  unfold vcode rcode at h
  cases h1 : smallB p <;> cases h2 : ratB a b <;> rw [h1, h2] at h <;> simp at h
  exact ⟨rfl, rfl, h⟩
theorem val_le40 {p n : Nat} (hp : 2 ≤ p) (h0 : 0 < n) (hn : n ≤ 1000000000000) : val p n ≤ 40 := by
  rcases Nat.lt_or_ge 40 (val p n) with h | h
  · have h1 := pow_val_le hp h0
    have h2 : 2 ^ 41 ≤ 2 ^ val p n := Nat.pow_le_pow_right (by omega) h
    have h3 : 2 ^ val p n ≤ p ^ val p n := Nat.pow_le_pow_left hp _
    omega
  · exact h
end Go.Proofs.Ytifaccppbhbfhaa
/- Contracts and walks: AbsoluteAt. -/
namespace Go.Proofs.Ytifaccppbhbfhaa
set_option linter.unusedVariables false
set_option linter.unusedSimpArgs false
open Go.RowKit

noncomputable def aN (a b p : Int) : Int := if vcode a b p = 0 then ((p.toNat ^ val p.toNat b.natAbs : Nat) : Int) else 0
noncomputable def aD (a b p : Int) : Int := if vcode a b p = 0 then ((p.toNat ^ val p.toNat a.natAbs : Nat) : Int) else 0
/-- A struct of two numbers and a code. -/
def MR (x y c : Int) (w : World) (e : Ending) (w' : World) : Prop := e = .returned (.tuple #[.agg #[.int .i64 x, .int .i64 y], .int .i64 c]) ∧ Below w.heap.size w w'
theorem ret_aii {a b c a' b' c' : Int} (h1 : a = a') (h2 : b = b') (h3 : c = c') : Ending.returned (.tuple #[.agg #[.int .i64 a, .int .i64 b], .int .i64 c]) = .returned (.tuple #[.agg #[.int .i64 a', .int .i64 b'], .int .i64 c']) := by rw [h1, h2, h3]
theorem coprime_val {a b : Int} {p : Nat} (hp : 2 ≤ p) (h : Int.gcd a b = 1) : val p a.natAbs = 0 ∨ val p b.natAbs = 0 := by
  rcases Nat.eq_zero_or_pos (val p a.natAbs) with h1 | h1
  · exact .inl h1
  · rcases Nat.eq_zero_or_pos (val p b.natAbs) with h2 | h2
    · exact .inr h2
    · have d := Nat.dvd_gcd (val_pos_dvd h1) (val_pos_dvd h2)
      unfold Int.gcd at h
      rw [h] at d
      have := Nat.le_of_dvd (by omega) d
      omega
theorem set2 {w : World} {g : Nat} {t : TypeId} {a b x y : Value} (h : BK w g t #[a, b]) : ((w.setCell ⟨g, 0, none⟩ x).setCell ⟨g, 1, none⟩ y).cell? ⟨g, 0, none⟩ = some x ∧ ((w.setCell ⟨g, 0, none⟩ x).setCell ⟨g, 1, none⟩ y).cell? ⟨g, 1, none⟩ = some y := by
  have h1 := (h.set 0 x).set 1 y
  rw [h1.cell, h1.cell]
  exact ⟨rfl, rfl⟩
theorem two_alloc (w : World) (o1 o2 : Obj) : Below w.heap.size w ((w.alloc o1).alloc o2) := ((Below.refl _ _).alloc (Nat.le_refl _) _).alloc (by simp) _
end Go.Proofs.Ytifaccppbhbfhaa
/- Plain laws: a prime divides a factor; the valuation of a product. -/
namespace Go.Proofs.Ytifaccppbhbfhaa
set_option linter.unusedVariables false
set_option linter.unusedSimpArgs false
open Go.RowKit

theorem prime_div {p d : Nat} (hp : PrimeP (p : Int)) (h : d ∣ p) : d = 1 ∨ d = p := by
  have hp2 := hp.1
  have hpos : 0 < p := by omega
  obtain ⟨e, he⟩ := h
  have hd : d ≠ 0 := by rintro rfl; simp at he; omega
  have hee : e ≠ 0 := by rintro rfl; simp at he; omega
  by_cases h1 : d = 1
  · exact .inl h1
  by_cases h2 : e = 1
  · subst h2; right; omega
  exfalso
  have hno : ∀ c : Nat, 2 ≤ c → c * c ≤ p → p % c = 0 → False := by
    intro c hc hcc hm
    refine hp.2 (c : Int) (by omega) ?_ ?_
    · have : ((c * c : Nat) : Int) ≤ (p : Int) := by omega
      rwa [Int.natCast_mul] at this
    · rw [← Int.natCast_emod, hm]; rfl
  rcases Nat.le_total d e with h3 | h3
  · refine hno d (by omega) ?_ (by rw [he]; exact Nat.mul_mod_right _ _)
    rw [he]; exact Nat.mul_le_mul_left _ h3
  · refine hno e (by omega) ?_ (by rw [he]; exact Nat.mul_mod_left _ _)
    rw [he]; exact Nat.mul_le_mul_right _ h3
theorem prime_mul {p x y : Nat} (hp : PrimeP (p : Int)) (h : p ∣ x * y) : p ∣ x ∨ p ∣ y := by
  rcases prime_div hp (Nat.gcd_dvd_left p x) with h1 | h1
  · exact .inr (Nat.Coprime.dvd_of_dvd_mul_left (show Nat.Coprime p x from h1) h)
  · left; rw [← h1]; exact Nat.gcd_dvd_right p x
theorem val_pow {p r : Nat} (hp : 2 ≤ p) (h : r % p ≠ 0) : ∀ k : Nat, val p (p ^ k * r) = k := by
  intro k
  have hr : 0 < r := by
    rcases Nat.eq_zero_or_pos r with h0 | h0
    · subst h0; simp at h
    · exact h0
  induction k with
  | zero => rw [Nat.pow_zero, Nat.one_mul]; exact (val_no h).1
  | succ k ih =>
    have e : p ^ (k + 1) * r = (p ^ k * r) * p := by rw [Nat.pow_succ]; rw [Nat.mul_right_comm]
    have hpos : 0 < p ^ k * r := Nat.mul_pos (Nat.pow_pos (by omega)) hr
    rw [e, (val_yes hp (Nat.mul_pos hpos (by omega)) (Nat.mul_mod_left _ _)).1, Nat.mul_div_cancel _ (by omega), ih]
theorem val_prod {p x y : Nat} (hp : PrimeP (p : Int)) (hx : 0 < x) (hy : 0 < y) : val p (x * y) = val p x + val p y := by
  have hp2 : 2 ≤ p := by have := hp.1; omega
  have e1 := val_mul hp2 x x (Nat.le_refl _) hx
  have e2 := val_mul hp2 y y (Nat.le_refl _) hy
  have b1 := (val_bd hp2 hx).2.2
  have b2 := (val_bd hp2 hy).2.2
  have e3 : x * y = p ^ (val p x + val p y) * (rst p x * rst p y) := by
    conv => lhs; rw [e1, e2]
    rw [Nat.pow_add]
    simp only [Nat.mul_assoc, Nat.mul_left_comm]
  rw [e3]
  refine val_pow hp2 (fun h => ?_) _
  rcases prime_mul hp (Nat.dvd_of_mod_eq_zero h) with h1 | h1
  · exact b1 (Nat.mod_eq_zero_of_dvd h1)
  · exact b2 (Nat.mod_eq_zero_of_dvd h1)
theorem primeB_p {n : Int} (h : primeB n = true) : PrimeP n := by simpa [primeB] using h
theorem smallB_prime {p : Int} (h : smallB p = true) : PrimeP p := by
  simp [smallB] at h
  exact primeB_p h.2
end Go.Proofs.Ytifaccppbhbfhaa
/- Contracts and walk: ClosenessAt. -/
namespace Go.Proofs.Ytifaccppbhbfhaa
set_option linter.unusedVariables false
set_option linter.unusedSimpArgs false
open Go.RowKit

theorem two_boxes (w : World) (t t' : TypeId) (cs cs' : Array Value) : BK ((w.alloc (.cells cs t)).alloc (.cells cs' t')) w.heap.size t cs ∧ BK ((w.alloc (.cells cs t)).alloc (.cells cs' t')) (w.heap.size + 1) t' cs' := by
  refine ⟨(BK.new w t cs).alloc _, ?_⟩
  have h := BK.new (w.alloc (.cells cs t)) t' cs'
  rw [World.size_alloc] at h
  exact h
theorem BK.two {w : World} {g : Nat} {t : TypeId} {x y : Value} (h : BK w g t #[x, y]) : w.cell? ⟨g, 0, none⟩ = some x ∧ w.cell? ⟨g, 1, none⟩ = some y ∧ w.frozen? ⟨g, 0, none⟩ = false ∧ w.frozen? ⟨g, 1, none⟩ = false :=
  ⟨h.cell 0, h.cell 1, h.frozen 0, h.frozen 1⟩
theorem BK.of_below {w w' : World} {g : Nat} {t : TypeId} {cs : Array Value} (h : BK w g t cs) (hb : Below w.heap.size w w') : BK w' g t cs := h.below hb h.lt
def sm4 (a b c d : Int) : Bool := inB a (-1000000) 1000000 && (inB b (-1000000) 1000000 && (inB c (-1000000) 1000000 && inB d (-1000000) 1000000))
def twoC (a b c d : Int) : Int := if sm4 a b c d then 0 else 2
theorem inB_le {d : Int} (h1 : 1 ≤ d) : inB d (-1000000) 1000000 = decide (d ≤ 1000000) := by
  rw [Bool.eq_iff_iff, decide_eq_true_iff]
  exact ⟨fun h => (inB_true h).2, fun h => inB_mk (by omega) h⟩
def g4 (a b c d : Int) (k : Nat) : Int := gt [a, b, c, d] k
theorem g4_all {a b c d : Int} (h : ∀ k, k < 4 → inB (g4 a b c d k) (-1000000) 1000000 = true) : sm4 a b c d = true := by
  have h0 := h 0 (by omega)
  have h1 := h 1 (by omega)
  have h2 := h 2 (by omega)
  have h3 := h 3 (by omega)
  simp [g4, gt] at h0 h1 h2 h3
  unfold sm4
  rw [h0, h1, h2, h3]; rfl
theorem g4_not {a b c d : Int} {k : Nat} (hk : k < 4) (h : inB (g4 a b c d k) (-1000000) 1000000 = false) : sm4 a b c d = false := by
  have hk' : k = 0 ∨ k = 1 ∨ k = 2 ∨ k = 3 := by omega
  unfold sm4
  rcases hk' with rfl | rfl | rfl | rfl <;> simp [g4, gt] at h <;> simp [h]
end Go.Proofs.Ytifaccppbhbfhaa
