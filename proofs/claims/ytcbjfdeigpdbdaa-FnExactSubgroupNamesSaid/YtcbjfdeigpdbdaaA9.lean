/- Contracts: factors of a number as a slice of prime powers. -/
import Derived.Test.YtcbjfdeigpdbdaaA2
namespace Go.Proofs.Ytcbjfdeigpdbdaa
set_option linter.unusedVariables false
set_option linter.unusedSimpArgs false
open Go.RowKit

/-- wr is w behind some draws. -/
def gp (l : List (Int × Int)) (k : Nat) : Int × Int := l.getD k (0, 0)
def pcells (l : List (Int × Int)) : List Value := l.flatMap fun x => [.int .i64 x.1, .int .i64 x.2]
theorem pcells_length : ∀ l : List (Int × Int), (pcells l).length = l.length * 2
  | [] => rfl
  | x :: l => by
    have := pcells_length l
    simp only [pcells, List.flatMap_cons, List.length_append, List.length_cons, List.length_nil] at *
    omega
theorem pcells_snoc (l : List (Int × Int)) (x : Int × Int) : pcells (l ++ [x]) = pcells l ++ [.int .i64 x.1, .int .i64 x.2] := by
  simp [pcells]
theorem pcells_at : ∀ (l : List (Int × Int)) (k : Nat), k < l.length → (pcells l)[k * 2]? = some (.int .i64 (gp l k).1) ∧ (pcells l)[k * 2 + 1]? = some (.int .i64 (gp l k).2)
  | [], k, h => by simp at h
  | x :: l, 0, _ => by simp [pcells, gp]
  | x :: l, k + 1, h => by
    have := pcells_at l k (by simpa using h)
    have e : pcells (x :: l) = .int .i64 x.1 :: .int .i64 x.2 :: pcells l := by simp [pcells]
    have e1 : (k + 1) * 2 = k * 2 + 1 + 1 := by omega
    have e2 : gp (x :: l) (k + 1) = gp l k := by simp [gp]
    rw [e, e1, e2, List.getElem?_cons_succ, List.getElem?_cons_succ, List.getElem?_cons_succ, List.getElem?_cons_succ]
    exact this
theorem pcells_one (l : List (Int × Int)) : ∀ u ∈ pcells l, u.oneCell' = true := by
  intro u hu
  simp only [pcells, List.mem_flatMap] at hu
  obtain ⟨x, _, hx⟩ := hu
  simp at hx
  rcases hx with rfl | rfl <;> rfl
/-- A slice of pairs of int64 at address A reads as l. -/
def IP (w : World) (B : Nat) (A : Option Addr) (l : List (Int × Int)) : Prop :=
  0 < l.length → ∃ b off, A = some ⟨b, off, none⟩ ∧ b < B ∧ ∀ k, k < l.length → w.cell? ⟨b, off + k * 2, none⟩ = some (.int .i64 (gp l k).1) ∧ w.cell? ⟨b, off + k * 2 + 1, none⟩ = some (.int .i64 (gp l k).2)
theorem IP.at {w : World} {B : Nat} {A : Option Addr} {l : List (Int × Int)} (h : IP w B A l) {k : Nat} (hk : k < l.length) : ∃ b off, A = some ⟨b, off, none⟩ ∧ b < B ∧ w.cell? ⟨b, off + k * 2, none⟩ = some (.int .i64 (gp l k).1) ∧ w.cell? ⟨b, off + k * 2 + 1, none⟩ = some (.int .i64 (gp l k).2) := by
  obtain ⟨b, off, h1, h2, h3⟩ := h (by omega)
  exact ⟨b, off, h1, h2, h3 k hk⟩
theorem ip_of_own {w : World} {base cap n : Nat} {e : TypeId} {A : Option Addr} {l : List (Int × Int)} (h : w.ownsRow base e 2 (.slice A n cap) n (pcells l)) (hn : n = l.length) : IP w w.heap.size A l := by
  intro hp
  rcases h.2 with ⟨_, h0⟩ | ⟨g, c, cur, hv, _, hh, _⟩
  · omega
  · have hA : A = some ⟨g, 0, none⟩ := by injection hv
    subst hA
    refine ⟨g, 0, rfl, (h.lt g rfl).2, fun k hk => ?_⟩
    have h1 := h.cells (g := g) rfl
    have h2 := pcells_at l k hk
    have e1 := h1 _ _ h2.1
    have e2 := h1 _ _ h2.2
    rw [Go.WideShapes.add_plain] at e1 e2
    rw [Nat.zero_add] at *
    exact ⟨e1, e2⟩

/-- How often p divides n, and what is left. -/
def strip (p n : Nat) : Nat × Nat := if h : 2 ≤ p ∧ 0 < n ∧ n % p = 0 then ((strip p (n / p)).1 + 1, (strip p (n / p)).2) else (0, n)
termination_by n
decreasing_by all_goals exact Nat.div_lt_self h.2.1 h.1
theorem strip_yes {p n : Nat} (hp : 2 ≤ p) (hn : 0 < n) (h : n % p = 0) : strip p n = ((strip p (n / p)).1 + 1, (strip p (n / p)).2) := by rw [strip, dif_pos ⟨hp, hn, h⟩]
theorem strip_no {p n : Nat} (h : ¬ n % p = 0) : strip p n = (0, n) := by rw [strip, dif_neg (fun h' => h h'.2.2)]
theorem strip_bd {p : Nat} (hp : 2 ≤ p) : ∀ m n : Nat, n ≤ m → 0 < n → 0 < (strip p n).2 ∧ (strip p n).2 + (strip p n).1 ≤ n ∧ (strip p n).2 % p ≠ 0 := by
  intro m
  induction m with
  | zero => intro n h1 h2; omega
  | succ m ih =>
    intro n h1 h2
    by_cases h : n % p = 0
    · have hlt := Nat.div_lt_self h2 hp
      have hpos : 0 < n / p := Nat.div_pos (Nat.le_of_dvd h2 (Nat.dvd_of_mod_eq_zero h)) (by omega)
      have := ih (n / p) (by omega) hpos
      rw [strip_yes hp h2 h]
      exact ⟨this.1, by simp only []; omega, this.2.2⟩
    · rw [strip_no h]
      exact ⟨h2, by simp, h⟩
/-- The prime powers of n from p on. -/
def fl (p n : Nat) : List (Int × Int) :=
  if h : 2 ≤ p ∧ 1 < n then
    if n < p * p then [((n : Int), 1)] else
      (if 0 < (strip p n).1 then [((p : Int), ((strip p n).1 : Int))] else []) ++ fl (p + 1) (strip p n).2
  else []
termination_by n - p
decreasing_by
  have h1 := strip_bd h.1 n n (Nat.le_refl _) (by omega)
  have h2 : p * 2 ≤ p * p := Nat.mul_le_mul_left p h.1
  omega
theorem fl_one (p : Nat) : fl p 1 = [] := by rw [fl, dif_neg (by omega)]
theorem fl_last {p n : Nat} (hp : 2 ≤ p) (hn : 1 < n) (h : n < p * p) : fl p n = [((n : Int), 1)] := by rw [fl, dif_pos ⟨hp, hn⟩, if_pos h]
theorem fl_step {p n : Nat} (hp : 2 ≤ p) (hn : 1 < n) (h : ¬ n < p * p) : fl p n = (if 0 < (strip p n).1 then [((p : Int), ((strip p n).1 : Int))] else []) ++ fl (p + 1) (strip p n).2 := by
  rw [fl, dif_pos ⟨hp, hn⟩, if_neg h]
theorem fl_le {p n : Nat} (hp : 2 ≤ p) (hn : 1 ≤ n) (h : ¬ n < p * p) : 1 < n := by
  have h2 : p * 2 ≤ p * p := Nat.mul_le_mul_left p hp
  omega
theorem sqN_1000 {d : Nat} (h : d * d ≤ 1000000) : d ≤ 1000 := by
  rcases Nat.lt_or_ge 1000 d with h1 | h1
  · have := Nat.mul_le_mul h1 h1
    omega
  · exact h1
/-- What a call gives that makes a slice of prime powers. -/
def FP (l : List (Int × Int)) (w : World) (e : Ending) (w' : World) : Prop := ∃ A cap, e = .returned (.slice A l.length cap) ∧ l.length ≤ 2000 ∧ IP w' w'.heap.size A l ∧ Below w.heap.size w w'
theorem two_cells (w : World) (a b : Value) (t : TypeId) : ∀ j u, [a, b][j]? = some u → (w.alloc (.cells #[a, b] t)).cell? ((⟨w.heap.size, 0, none⟩ : Addr).add j) = some u := by
  intro j u h
  rw [Go.WideShapes.add_plain]
  rcases j with _ | _ | j
  · simp at h; subst h; simp [go_sem]
  · simp at h; subst h; simp [go_sem]
  · simp at h
theorem own_slice {w : World} {base n cap' : Nat} {e : TypeId} {size : Nat} {v : Value} {xs : List Value} (h : w.ownsRow base e size v n xs) : ∃ A cap, v = .slice A n cap := by
  rcases h.2 with ⟨rfl, rfl⟩ | ⟨g, cap, cur, rfl, _⟩
  · exact ⟨none, 0, rfl⟩
  · exact ⟨_, _, rfl⟩
end Go.Proofs.Ytcbjfdeigpdbdaa
