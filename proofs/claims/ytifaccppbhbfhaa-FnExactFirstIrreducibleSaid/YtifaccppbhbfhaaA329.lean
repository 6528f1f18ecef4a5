/- Commutative rings, and their identities: both sides of an equation as sums of products of atoms. -/
import Derived.Test.YtifaccppbhbfhaaA2
namespace Go.Proofs.Ytifaccppbhbfhaa.FX
set_option linter.unusedVariables false
set_option linter.unusedSimpArgs false

/-- A commutative ring. -/
class CommRing (K : Type) extends Add K, Mul K, Neg K, Sub K where
  [ofNat : ∀ n : Nat, OfNat K n]
  [natCast : NatCast K]
  [npow : HPow K Nat K]
  add_zero : ∀ a : K, a + 0 = a
  add_comm : ∀ a b : K, a + b = b + a
  add_assoc : ∀ a b c : K, a + b + c = a + (b + c)
  mul_one : ∀ a : K, a * 1 = a
  mul_comm : ∀ a b : K, a * b = b * a
  mul_assoc : ∀ a b c : K, a * b * c = a * (b * c)
  left_distrib : ∀ a b c : K, a * (b + c) = a * b + a * c
  neg_add_cancel : ∀ a : K, -a + a = 0
  sub_eq_add_neg : ∀ a b : K, a - b = a + -b
  pow_zero : ∀ a : K, a ^ 0 = 1
  pow_succ : ∀ (a : K) (n : Nat), a ^ (n + 1) = a ^ n * a
  natCast_zero : ((0 : Nat) : K) = 0
  natCast_succ : ∀ n : Nat, ((n + 1 : Nat) : K) = (n : K) + 1
  ofNat_eq : ∀ n : Nat, (OfNat.ofNat n : K) = (n : K)
attribute [reducible] CommRing.ofNat CommRing.natCast CommRing.npow
attribute [instance] CommRing.ofNat CommRing.natCast CommRing.npow
section
variable {K : Type} [CommRing K]
theorem add_zero' (a : K) : a + 0 = a := CommRing.add_zero a
theorem add_comm' (a b : K) : a + b = b + a := CommRing.add_comm a b
theorem add_assoc' (a b c : K) : a + b + c = a + (b + c) := CommRing.add_assoc a b c
theorem zero_add' (a : K) : 0 + a = a := by rw [add_comm', add_zero']
theorem add_right' {a b c : K} (h : a + c = b + c) : a = b := by
  have h1 : a + c + -c = b + c + -c := by rw [h]
  have h2 : c + -c = 0 := by rw [add_comm']; exact CommRing.neg_add_cancel c
  rw [add_assoc', add_assoc', h2, add_zero', add_zero'] at h1
  exact h1
theorem mul_comm' (a b : K) : a * b = b * a := CommRing.mul_comm a b
theorem mul_assoc' (a b c : K) : a * b * c = a * (b * c) := CommRing.mul_assoc a b c
theorem mul_one' (a : K) : a * 1 = a := CommRing.mul_one a
theorem mul_add' (a b c : K) : a * (b + c) = a * b + a * c := CommRing.left_distrib a b c
theorem add_mul' (a b c : K) : (a + b) * c = a * c + b * c := by rw [mul_comm', mul_add', mul_comm' c a, mul_comm' c b]
theorem mul_zero' (a : K) : a * 0 = 0 := by
  refine add_right' (c := a * 0) ?_
  rw [← mul_add', add_zero', zero_add']
theorem zero_mul' (a : K) : 0 * a = 0 := by rw [mul_comm', mul_zero']
theorem add_left_comm' (a b c : K) : a + (b + c) = b + (a + c) := by rw [← add_assoc', add_comm' a b, add_assoc']
theorem mul_left_comm' (a b c : K) : a * (b * c) = b * (a * c) := by rw [← mul_assoc', mul_comm' a b, mul_assoc']
/-- A product of atoms. -/
def Mo (r : List K) : List Nat → K
  | [] => 1
  | i :: m => r.getD i 0 * Mo r m
/-- A sum of products. -/
def So (r : List K) : List (List Nat) → K
  | [] => 0
  | m :: l => Mo r m + So r l
theorem Mo_app (r : List K) : ∀ m m', Mo r (m ++ m') = Mo r m * Mo r m'
  | [], m' => by
    show Mo r m' = 1 * Mo r m'
    rw [mul_comm', mul_one']
  | i :: m, m' => by
    show r.getD i 0 * Mo r (m ++ m') = r.getD i 0 * Mo r m * Mo r m'
    rw [Mo_app r m m', mul_assoc']
theorem So_app (r : List K) : ∀ l l', So r (l ++ l') = So r l + So r l'
  | [], l' => by
    show So r l' = 0 + So r l'
    rw [zero_add']
  | m :: l, l' => by
    show Mo r m + So r (l ++ l') = Mo r m + So r l + So r l'
    rw [So_app r l l', add_assoc']
theorem Mo_perm (r : List K) {m m' : List Nat} (h : m.Perm m') : Mo r m = Mo r m' := by
  induction h with
  | nil => rfl
  | cons x _ ih =>
    show r.getD x 0 * _ = r.getD x 0 * _
    rw [ih]
  | swap x y l =>
    show r.getD y 0 * (r.getD x 0 * _) = r.getD x 0 * (r.getD y 0 * _)
    rw [mul_left_comm']
  | trans _ _ h1 h2 => rw [h1, h2]
theorem So_perm (r : List K) {l l' : List (List Nat)} (h : l.Perm l') : So r l = So r l' := by
  induction h with
  | nil => rfl
  | cons x _ ih =>
    show Mo r x + _ = Mo r x + _
    rw [ih]
  | swap x y l =>
    show Mo r y + (Mo r x + _) = Mo r x + (Mo r y + _)
    rw [add_left_comm']
  | trans _ _ h1 h2 => rw [h1, h2]
end
/-- A number put in its place. -/
def ins1 (i : Nat) : List Nat → List Nat
  | [] => [i]
  | j :: m => if i ≤ j then i :: j :: m else j :: ins1 i m
def ord1 : List Nat → List Nat
  | [] => []
  | i :: m => ins1 i (ord1 m)
theorem ins1_perm (i : Nat) : ∀ m, (ins1 i m).Perm (i :: m)
  | [] => List.Perm.refl _
  | j :: m => by
    unfold ins1
    split
    · exact List.Perm.refl _
    · exact ((ins1_perm i m).cons j).trans (List.Perm.swap _ _ _)
theorem ord1_perm : ∀ m, (ord1 m).Perm m
  | [] => List.Perm.refl _
  | i :: m => (ins1_perm i (ord1 m)).trans ((ord1_perm m).cons i)
/-- All products of two lists. -/
def mulT (l : List (List Nat)) : List (List Nat) → List (List Nat)
  | [] => []
  | m :: k => l.map (fun x => x ++ m) ++ mulT l k
section
variable {K : Type} [CommRing K]
theorem So_ord (r : List K) : ∀ l, So r (l.map ord1) = So r l
  | [] => rfl
  | m :: l => by
    show Mo r (ord1 m) + So r (l.map ord1) = Mo r m + So r l
    rw [So_ord r l, Mo_perm r (ord1_perm m)]
theorem So_mul1 (r : List K) (m : List Nat) : ∀ l, So r (l.map fun x => x ++ m) = So r l * Mo r m
  | [] => by
    show 0 = 0 * Mo r m
    rw [zero_mul']
  | x :: l => by
    show Mo r (x ++ m) + So r (l.map fun x => x ++ m) = (Mo r x + So r l) * Mo r m
    rw [So_mul1 r m l, Mo_app, add_mul']
theorem So_mul (r : List K) (l : List (List Nat)) : ∀ k, So r (mulT l k) = So r l * So r k
  | [] => by
    show 0 = So r l * 0
    rw [mul_zero']
  | m :: k => by
    show So r (l.map (fun x => x ++ m) ++ mulT l k) = So r l * (Mo r m + So r k)
    rw [So_app, So_mul1, So_mul r l k, mul_add']
/-- The place of an atom in a list, which grows by it if it is not there. -/
class Idx (x : K) (r : List K) (r' : outParam (List K)) (i : outParam Nat) : Prop where
  pre : ∃ t, r' = r ++ t
  at_ : r'[i]? = some x
instance (priority := high) idx_here (x : K) (r : List K) : Idx x (x :: r) (x :: r) 0 := ⟨⟨[], by simp⟩, rfl⟩
instance idx_new (x : K) : Idx x [] [x] 0 := ⟨⟨[x], rfl⟩, rfl⟩
instance (priority := low) idx_next (x y : K) (r r' : List K) (i : Nat) [h : Idx x r r' i] : Idx x (y :: r) (y :: r') (i + 1) := ⟨by
  obtain ⟨t, ht⟩ := h.pre
  exact ⟨t, by rw [ht]; rfl⟩, by
  have := h.at_
  simpa using this⟩
/-- x, and the sum of the products n, is the sum of the products p. -/
class Rf (x : K) (r : List K) (r' : outParam (List K)) (p n : outParam (List (List Nat))) : Prop where
  pre : ∃ t, r' = r ++ t
  ev : ∀ s, x + So (r' ++ s) n = So (r' ++ s) p
instance (priority := low) rf_atom (x : K) (r r' : List K) (i : Nat) [h : Idx x r r' i] : Rf x r r' [[i]] [] := ⟨h.pre, fun s => by
  show x + 0 = (r' ++ s).getD i 0 * 1 + 0
  have h1 := h.at_
  have h2 : i < r'.length := by
    rcases Nat.lt_or_ge i r'.length with h3 | h3
    · exact h3
    · rw [List.getElem?_eq_none h3] at h1; cases h1
  rw [mul_one', List.getD_eq_getElem?_getD, List.getElem?_append_left h2, h1]
  rfl⟩
instance rf_zero (r : List K) : Rf (0 : K) r r [] [] := ⟨⟨[], by simp⟩, fun s => add_zero' 0⟩
instance rf_one (r : List K) : Rf (1 : K) r r [[]] [] := ⟨⟨[], by simp⟩, fun s => rfl⟩
instance rf_neg (x : K) (r r' : List K) (p n : List (List Nat)) [h : Rf x r r' p n] : Rf (-x) r r' n p := ⟨h.pre, fun s => by
  rw [← h.ev s, ← add_assoc', CommRing.neg_add_cancel, zero_add']⟩
theorem So_pre {x : K} {r : List K} {p n : List (List Nat)} (h : ∀ s, x + So (r ++ s) n = So (r ++ s) p) (t s : List K) : x + So (r ++ t ++ s) n = So (r ++ t ++ s) p := by
  rw [List.append_assoc]; exact h _
theorem add4 (a b c d : K) : a + b + (c + d) = a + c + (b + d) := by rw [add_assoc', add_assoc', add_left_comm' b c d]
instance rf_add (x y : K) (r r1 r2 : List K) (p n q m : List (List Nat)) [h : Rf x r r1 p n] [k : Rf y r1 r2 q m] : Rf (x + y) r r2 (p ++ q) (n ++ m) := ⟨by
  obtain ⟨t, ht⟩ := h.pre
  obtain ⟨t', ht'⟩ := k.pre
  exact ⟨t ++ t', by rw [ht', ht, List.append_assoc]⟩, fun s => by
  obtain ⟨t', ht'⟩ := k.pre
  have h1 := So_pre h.ev t' s
  rw [← ht'] at h1
  rw [So_app, So_app, ← h1, ← k.ev s, add4]⟩
instance rf_sub (x y : K) (r r1 r2 : List K) (p n q m : List (List Nat)) [h : Rf x r r1 p n] [k : Rf y r1 r2 q m] : Rf (x - y) r r2 (p ++ m) (n ++ q) := by
  rw [CommRing.sub_eq_add_neg]
  exact rf_add x (-y) r r1 r2 p n m q
instance rf_mul (x y : K) (r r1 r2 : List K) (p n q m : List (List Nat)) [h : Rf x r r1 p n] [k : Rf y r1 r2 q m] : Rf (x * y) r r2 (mulT p q ++ mulT n m) (mulT p m ++ mulT n q) := ⟨by
  obtain ⟨t, ht⟩ := h.pre
  obtain ⟨t', ht'⟩ := k.pre
  exact ⟨t ++ t', by rw [ht', ht, List.append_assoc]⟩, fun s => by
  obtain ⟨t', ht'⟩ := k.pre
  have h1 := So_pre h.ev t' s
  rw [← ht'] at h1
  rw [So_app, So_app, So_mul, So_mul, So_mul, So_mul, ← h1, ← k.ev s]
  generalize So (r2 ++ s) n = a
  generalize So (r2 ++ s) m = b
  rw [add_mul', add_mul', mul_add', mul_add', add_assoc' (x * y), add_assoc' (x * y)]
  congr 1
  rw [add_assoc', add_assoc']
  congr 1
  rw [add_comm' (a * y), add_assoc', add_comm' (a * y)]⟩
/-- An equation holds when both sides are the same sums. -/
theorem rg {a b : K} {r1 r2 : List K} {p n q m : List (List Nat)} [h : Rf a [] r1 p n] [k : Rf b r1 r2 q m] (e : ((p ++ m).map ord1).isPerm ((q ++ n).map ord1) = true := by decide +kernel) : a = b := by
  obtain ⟨t', ht'⟩ := k.pre
  have h1 := So_pre h.ev t' []
  rw [← ht'] at h1
  have h2 := k.ev []
  have h3 := So_perm (r2 ++ []) (List.isPerm_iff.1 e)
  rw [So_ord, So_ord, So_app, So_app, ← h1, ← h2] at h3
  refine add_right' (c := So (r2 ++ []) n + So (r2 ++ []) m) ?_
  rw [← add_assoc', h3, add_assoc', add_comm' (So (r2 ++ []) m)]
theorem rg_t1 (a b c : K) : (a + b) * (c - a) = b * c + c * a - a * a - a * b := rg
theorem rg_t2 (a b c : K) : -(a - b) * (1 + c) + 0 = b * c - a * c + (b - a) := rg
/-- An equation by another one, times a factor. -/
theorem rh {a b c d : K} (h : c = d) (k : K) (e : a + k * d = b + k * c) : a = b := by
  rw [h] at e
  exact add_right' e
theorem Semiring.pow_zero (a : K) : a ^ 0 = 1 := CommRing.pow_zero a
theorem Semiring.pow_succ (a : K) (n : Nat) : a ^ (n + 1) = a ^ n * a := CommRing.pow_succ a n
theorem Semiring.pow_add (a : K) (m n : Nat) : a ^ (m + n) = a ^ m * a ^ n := by
  induction n with
  | zero => rw [Nat.add_zero, Semiring.pow_zero, mul_one']
  | succ n ih => rw [← Nat.add_assoc, Semiring.pow_succ, ih, Semiring.pow_succ, mul_assoc']
theorem Semiring.natCast_zero : ((0 : Nat) : K) = 0 := CommRing.natCast_zero
theorem Semiring.natCast_succ (n : Nat) : ((n + 1 : Nat) : K) = ((n : Nat) : K) + 1 := CommRing.natCast_succ n
theorem Semiring.natCast_one : ((1 : Nat) : K) = 1 := by
  rw [Semiring.natCast_succ 0, Semiring.natCast_zero, zero_add']
theorem Semiring.natCast_add (m n : Nat) : ((m + n : Nat) : K) = ((m : Nat) : K) + ((n : Nat) : K) := by
  induction n with
  | zero => rw [Nat.add_zero, Semiring.natCast_zero, add_zero']
  | succ n ih => rw [← Nat.add_assoc, Semiring.natCast_succ, ih, Semiring.natCast_succ, add_assoc']
theorem Semiring.natCast_mul (m n : Nat) : ((m * n : Nat) : K) = ((m : Nat) : K) * ((n : Nat) : K) := by
  induction n with
  | zero => rw [Nat.mul_zero, Semiring.natCast_zero, mul_zero']
  | succ n ih => rw [Nat.mul_succ, Semiring.natCast_add, ih, Semiring.natCast_succ, mul_add', mul_one']
end
end Go.Proofs.Ytifaccppbhbfhaa.FX
