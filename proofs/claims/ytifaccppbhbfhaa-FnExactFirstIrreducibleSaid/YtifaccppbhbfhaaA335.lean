/- Several parts of the proof in one text; each part says what it shows. Nothing is assumed. -/
import Derived.Test.YtifaccppbhbfhaaA329
/- Polynomials over a commutative ring are a commutative ring. -/
namespace Go.Proofs.Ytifaccppbhbfhaa.FX
set_option linter.unusedVariables false
set_option linter.unusedSimpArgs false

/-- A sum of n terms. -/
def sm {K : Type} [CommRing K] : Nat → (Nat → K) → K
  | 0, _ => 0
  | n + 1, f => sm n f + f n
section
variable {K : Type} [CommRing K]
theorem sm_ext {n : Nat} {f g : Nat → K} (h : ∀ i, i < n → f i = g i) : sm n f = sm n g := by
  induction n with
  | zero => rfl
  | succ n ih => unfold sm; rw [ih (fun i hi => h i (by omega)), h n (by omega)]
theorem sm_zero {n : Nat} {f : Nat → K} (h : ∀ i, i < n → f i = 0) : sm n f = 0 := by
  induction n with
  | zero => rfl
  | succ n ih => unfold sm; rw [ih (fun i hi => h i (by omega)), h n (by omega)]; exact rg
theorem sm_add (n : Nat) (f g : Nat → K) : sm n (fun i => f i + g i) = sm n f + sm n g := by
  induction n with
  | zero => unfold sm; exact rg
  | succ n ih => unfold sm; rw [ih]; exact rg
theorem sm_mulL (n : Nat) (a : K) (f : Nat → K) : sm n (fun i => a * f i) = a * sm n f := by
  induction n with
  | zero => unfold sm; exact rg
  | succ n ih => unfold sm; rw [ih]; exact rg
theorem sm_front (n : Nat) (f : Nat → K) : sm (n + 1) f = f 0 + sm n (fun i => f (i + 1)) := by
  induction n with
  | zero => unfold sm; unfold sm; exact rg
  | succ n ih => rw [show sm (n + 1 + 1) f = sm (n + 1) f + f (n + 1) from rfl, ih]; conv => rhs; unfold sm
                 exact rg
theorem sm_rev (n : Nat) (f : Nat → K) : sm (n + 1) (fun i => f (n - i)) = sm (n + 1) f := by
  induction n generalizing f with
  | zero => rfl
  | succ n ih =>
    rw [sm_front, show sm (n + 1 + 1) f = sm (n + 1) f + f (n + 1) from rfl, ← ih f]
    rw [sm_ext (n := n + 1) (f := fun i => f (n + 1 - (i + 1))) (g := fun i => f (n - i)) (fun i _ => by rw [show n + 1 - (i + 1) = n - i by omega])]
    show f (n + 1) + _ = _
    exact rg
theorem sm_tri (k : Nat) (F : Nat → Nat → K) : sm (k + 1) (fun i => sm (i + 1) (fun j => F j (i - j))) = sm (k + 1) (fun j => sm (k - j + 1) (fun m => F j m)) := by
  induction k with
  | zero => rfl
  | succ k ih =>
    rw [show sm (k + 1 + 1) (fun i => sm (i + 1) (fun j => F j (i - j))) = sm (k + 1) (fun i => sm (i + 1) (fun j => F j (i - j))) + sm (k + 1 + 1) (fun j => F j (k + 1 - j)) from rfl, ih]
    rw [show sm (k + 1 + 1) (fun j => sm (k + 1 - j + 1) (fun m => F j m)) = sm (k + 1) (fun j => sm (k + 1 - j + 1) (fun m => F j m)) + sm (k + 1 - (k + 1) + 1) (fun m => F (k + 1) m) from rfl]
    rw [show sm (k + 1 + 1) (fun j => F j (k + 1 - j)) = sm (k + 1) (fun j => F j (k + 1 - j)) + F (k + 1) (k + 1 - (k + 1)) from rfl]
    rw [sm_ext (n := k + 1) (f := fun j => sm (k + 1 - j + 1) (fun m => F j m)) (g := fun j => sm (k - j + 1) (fun m => F j m) + F j (k + 1 - j)) (fun j hj => by
      show sm (k + 1 - j + 1) _ = _
      rw [show k + 1 - j + 1 = (k - j + 1) + 1 by omega]
      show _ + F j (k - j + 1) = _
      rw [show k - j + 1 = k + 1 - j by omega]), sm_add]
    rw [show k + 1 - (k + 1) = 0 by omega]
    show _ = _ + (0 + F (k + 1) 0)
    exact rg
end
/-- Polynomials over K: lists of coefficients without end that are 0 from some place on. -/
structure Pol (K : Type) [CommRing K] where
  c : Nat → K
  fin : ∃ n, ∀ k, n ≤ k → c k = 0
section
variable {K : Type} [CommRing K]
theorem Pol.ext {f g : Pol K} (h : ∀ k, f.c k = g.c k) : f = g := by
  cases f; cases g
  congr
  exact funext h
def mulC (f g : Nat → K) (k : Nat) : K := sm (k + 1) (fun i => f i * g (k - i))
theorem mulC_fin {f g : Nat → K} {m n : Nat} (hf : ∀ k, m ≤ k → f k = 0) (hg : ∀ k, n ≤ k → g k = 0) : ∀ k, m + n ≤ k → mulC f g k = 0 := fun k hk => by
  refine sm_zero fun i hi => ?_
  by_cases h : m ≤ i
  · rw [hf i h]; exact rg
  · rw [hg (k - i) (by omega)]; exact rg
def Pol.const (a : K) : Pol K := ⟨fun k => if k = 0 then a else 0, 1, fun k hk => by rw [if_neg (by omega)]⟩
instance : Add (Pol K) := ⟨fun f g => ⟨fun k => f.c k + g.c k, by
  obtain ⟨m, hm⟩ := f.fin
  obtain ⟨n, hn⟩ := g.fin
  exact ⟨m + n, fun k hk => by rw [hm k (by omega), hn k (by omega)]; exact rg⟩⟩⟩
instance : Mul (Pol K) := ⟨fun f g => ⟨mulC f.c g.c, by
  obtain ⟨m, hm⟩ := f.fin
  obtain ⟨n, hn⟩ := g.fin
  exact ⟨m + n, mulC_fin hm hn⟩⟩⟩
instance : Neg (Pol K) := ⟨fun f => ⟨fun k => - f.c k, by
  obtain ⟨m, hm⟩ := f.fin
  exact ⟨m, fun k hk => by rw [hm k hk]; exact rg⟩⟩⟩
instance : Sub (Pol K) := ⟨fun f g => f + -g⟩
instance : NatCast (Pol K) := ⟨fun n => Pol.const (n : K)⟩
instance (n : Nat) : OfNat (Pol K) n := ⟨Pol.const (n : K)⟩
def Pol.pow (f : Pol K) : Nat → Pol K
  | 0 => Pol.const 1
  | n + 1 => Pol.pow f n * f
instance : HPow (Pol K) Nat (Pol K) := ⟨Pol.pow⟩
theorem Pol.add_c (f g : Pol K) (k : Nat) : (f + g).c k = f.c k + g.c k := rfl
theorem Pol.neg_c (f : Pol K) (k : Nat) : (-f).c k = - f.c k := rfl
theorem Pol.mul_c (f g : Pol K) (k : Nat) : (f * g).c k = sm (k + 1) (fun i => f.c i * g.c (k - i)) := rfl
theorem Pol.const_c (a : K) (k : Nat) : (Pol.const a).c k = if k = 0 then a else 0 := rfl
theorem Pol.const_mul (a : K) (f : Pol K) (k : Nat) : (Pol.const a * f).c k = a * f.c k := by
  rw [Pol.mul_c, sm_front, sm_zero (fun i hi => by rw [Pol.const_c, if_neg (by omega)]; exact rg), Pol.const_c, if_pos rfl, Nat.sub_zero]
  exact rg
theorem Pol.ofNat_def (n : Nat) : (OfNat.ofNat n : Pol K) = Pol.const ((n : Nat) : K) := rfl
theorem Pol.one_def : (1 : Pol K) = Pol.const 1 := by
  refine Pol.ext fun k => ?_
  show (if k = 0 then ((1 : Nat) : K) else 0) = if k = 0 then 1 else 0
  rw [Semiring.natCast_one]
theorem Pol.zero_c (k : Nat) : (0 : Pol K).c k = 0 := by
  show (if k = 0 then ((0 : Nat) : K) else 0) = 0
  rw [Semiring.natCast_zero]
  split <;> rfl
theorem Pol.mul_comm' (f g : Pol K) : f * g = g * f := by
  refine Pol.ext fun k => ?_
  rw [Pol.mul_c, Pol.mul_c, ← sm_rev]
  refine sm_ext fun i hi => ?_
  rw [show k - (k - i) = i by omega]
  exact rg
theorem Pol.mul_one' (f : Pol K) : f * 1 = f := Pol.ext fun k => by rw [Pol.mul_comm', Pol.one_def, Pol.const_mul]; exact rg
theorem Pol.left_distrib' (f g h : Pol K) : f * (g + h) = f * g + f * h := Pol.ext fun k => by
  rw [Pol.add_c, Pol.mul_c, Pol.mul_c, Pol.mul_c, ← sm_add]
  exact sm_ext fun i hi => by rw [Pol.add_c]; exact rg
theorem Pol.zero_mul' (f : Pol K) : 0 * f = 0 := Pol.ext fun k => by
  rw [Pol.mul_c, Pol.zero_c]
  exact sm_zero fun i hi => by rw [Pol.zero_c]; exact rg
instance : CommRing (Pol K) where
  add_zero f := Pol.ext fun k => by rw [Pol.add_c, Pol.zero_c]; exact rg
  add_comm f g := Pol.ext fun k => by rw [Pol.add_c, Pol.add_c]; exact rg
  add_assoc f g h := Pol.ext fun k => by rw [Pol.add_c, Pol.add_c, Pol.add_c, Pol.add_c]; exact rg
  mul_assoc f g h := Pol.ext fun k => by
    rw [Pol.mul_c, Pol.mul_c]
    have h1 : ∀ i, i < k + 1 → (f * g).c i * h.c (k - i) = sm (i + 1) (fun j => (fun j m => f.c j * (g.c m * h.c (k - j - m))) j (i - j)) := fun i hi => by
      rw [Pol.mul_c]
      rw [show ∀ x y : K, x * y = y * x by exact fun x y => rg, ← sm_mulL]
      refine sm_ext fun j hj => ?_
      show _ = f.c j * (g.c (i - j) * h.c (k - j - (i - j)))
      rw [show k - j - (i - j) = k - i by omega]
      exact rg
    rw [sm_ext h1, sm_tri k (fun j m => f.c j * (g.c m * h.c (k - j - m)))]
    refine sm_ext fun j hj => ?_
    rw [sm_mulL, Pol.mul_c]
  mul_one := Pol.mul_one'
  left_distrib := Pol.left_distrib'
  pow_zero f := by show Pol.const 1 = _; rw [Pol.one_def]
  pow_succ f n := rfl
  natCast_zero := by
    show Pol.const ((0 : Nat) : K) = Pol.const ((0 : Nat) : K)
    rfl
  natCast_succ n := Pol.ext fun k => by
    rw [Pol.add_c, Pol.one_def]
    show (if k = 0 then ((n + 1 : Nat) : K) else 0) = (if k = 0 then ((n : Nat) : K) else 0) + (if k = 0 then 1 else 0)
    split
    · rw [Semiring.natCast_succ]
    · exact rg
  ofNat_eq n := rfl
  neg_add_cancel f := Pol.ext fun k => by rw [Pol.add_c, Pol.neg_c, Pol.zero_c]; exact rg
  sub_eq_add_neg f g := rfl
  mul_comm := Pol.mul_comm'
end

end Go.Proofs.Ytifaccppbhbfhaa.FX
/- Polynomials over a field: degrees, division, common divisors, irreducible ones. -/
namespace Go.Proofs.Ytifaccppbhbfhaa.FX
set_option linter.unusedVariables false
set_option linter.unusedSimpArgs false
section
variable {K : Type} [CommRing K]
theorem sm_one {n j : Nat} {f : Nat → K} (hj : j < n) (h : ∀ i, i < n → i ≠ j → f i = 0) : sm n f = f j := by
  induction n with
  | zero => omega
  | succ n ih =>
    show sm n f + f n = f j
    by_cases hn : j = n
    · subst hn
      rw [sm_zero fun i hi => h i (by omega) (by omega)]
      exact rg
    · rw [ih (by omega) (fun i hi hne => h i (by omega) hne), h n (by omega) (by omega)]
      exact rg
/-- The degree is below n. -/
def Lt (f : Pol K) (n : Nat) : Prop := ∀ k, n ≤ k → f.c k = 0
/-- The degree is n. -/
def Dg (f : Pol K) (n : Nat) : Prop := f.c n ≠ 0 ∧ Lt f (n + 1)
theorem Pol.sub_c (f g : Pol K) (k : Nat) : (f - g).c k = f.c k - g.c k := by
  show f.c k + -g.c k = _
  exact rg
theorem Lt.mono {f : Pol K} {m n : Nat} (h : Lt f m) (hn : m ≤ n) : Lt f n := fun k hk => h k (by omega)
theorem Lt.add {f g : Pol K} {n : Nat} (hf : Lt f n) (hg : Lt g n) : Lt (f + g) n := fun k hk => by rw [Pol.add_c, hf k hk, hg k hk]; exact rg
theorem Lt.sub {f g : Pol K} {n : Nat} (hf : Lt f n) (hg : Lt g n) : Lt (f - g) n := fun k hk => by rw [Pol.sub_c, hf k hk, hg k hk]; exact rg
theorem lt_zero {f : Pol K} (h : Lt f 0) : f = 0 := Pol.ext fun k => by rw [h k (Nat.zero_le _), Pol.zero_c]
theorem zero_lt (n : Nat) : Lt (0 : Pol K) n := fun k _ => Pol.zero_c k
theorem dg_of_lt {f : Pol K} : ∀ n, Lt f n → f ≠ 0 → ∃ m, m < n ∧ Dg f m
  | 0, h, hf => absurd (lt_zero h) hf
  | n + 1, h, hf => by
    by_cases h0 : f.c n = 0
    · obtain ⟨m, hm, hd⟩ := dg_of_lt n (fun k hk => by
        by_cases e : k = n
        · rw [e]; exact h0
        · exact h k (by omega)) hf
      exact ⟨m, by omega, hd⟩
    · exact ⟨n, by omega, h0, h⟩
theorem dg_ex {f : Pol K} (hf : f ≠ 0) : ∃ n, Dg f n := by
  obtain ⟨n, hn⟩ := f.fin
  obtain ⟨m, _, hd⟩ := dg_of_lt n hn hf
  exact ⟨m, hd⟩
theorem Dg.ne {f : Pol K} {n : Nat} (h : Dg f n) : f ≠ 0 := fun e => h.1 (by rw [e, Pol.zero_c])
theorem Dg.uniq {f : Pol K} {m n : Nat} (h : Dg f m) (k : Dg f n) : m = n := by
  by_cases h1 : m < n
  · exact absurd (h.2 n (by omega)) k.1
  · by_cases h2 : n < m
    · exact absurd (k.2 m (by omega)) h.1
    · omega
theorem Dg.lt {f : Pol K} {m n : Nat} (h : Dg f m) (k : Lt f n) : m < n := by
  by_cases h1 : n ≤ m
  · exact absurd (k m h1) h.1
  · omega
/-- K is a field. -/
class Fld (K : Type) [CommRing K] : Prop where
  inv : ∀ a : K, a ≠ 0 → ∃ b, a * b = 1
  one_ne : (1 : K) ≠ 0
theorem mul_ne [Fld K] {a b : K} (ha : a ≠ 0) (hb : b ≠ 0) : a * b ≠ 0 := fun h => by
  obtain ⟨a', ha'⟩ := Fld.inv a ha
  exact hb (by
    have : b = a' * (a * b) := rh ha' (-b) rg
    rw [this, h]; exact rg)
theorem Dg.mul [Fld K] {f g : Pol K} {m n : Nat} (hf : Dg f m) (hg : Dg g n) : Dg (f * g) (m + n) := by
  refine ⟨?_, fun k hk => ?_⟩
  · rw [Pol.mul_c, sm_one (j := m) (by omega) (fun i hi hne => ?_)]
    · rw [show m + n - m = n by omega]
      exact mul_ne hf.1 hg.1
    · by_cases h : m < i
      · rw [hf.2 i (by omega)]; exact rg
      · rw [hg.2 (m + n - i) (by omega)]; exact rg
  · rw [Pol.mul_c]
    refine sm_zero fun i hi => ?_
    by_cases h : m < i
    · rw [hf.2 i (by omega)]; exact rg
    · rw [hg.2 (k - i) (by omega)]; exact rg
theorem pmul_ne [Fld K] {f g : Pol K} (hf : f ≠ 0) (hg : g ≠ 0) : f * g ≠ 0 := by
  obtain ⟨m, hm⟩ := dg_ex hf
  obtain ⟨n, hn⟩ := dg_ex hg
  exact (hm.mul hn).ne
theorem cancel [Fld K] {f g h : Pol K} (hf : f ≠ 0) (e : f * g = f * h) : g = h := by
  refine Classical.byContradiction fun hne => ?_
  have h1 : g - h ≠ 0 := fun e0 => hne (rh e0 1 rg)
  exact pmul_ne hf h1 (rh e 1 rg)
/-- One power of x, times a. -/
def mono (a : K) (n : Nat) : Pol K := ⟨fun k => if k = n then a else 0, n + 1, fun k hk => by rw [if_neg (by omega)]⟩
theorem mono_mul (a : K) (n : Nat) (f : Pol K) (k : Nat) : (mono a n * f).c k = if n ≤ k then a * f.c (k - n) else 0 := by
  rw [Pol.mul_c]
  by_cases h : n ≤ k
  · rw [if_pos h, sm_one (j := n) (by omega) (fun i hi hne => by show (if i = n then a else 0) * _ = 0; rw [if_neg hne]; exact rg)]
    show (if n = n then a else 0) * _ = _
    rw [if_pos rfl]
  · rw [if_neg h]
    exact sm_zero fun i hi => by show (if i = n then a else 0) * _ = 0; rw [if_neg (by omega)]; exact rg
theorem div_ex [Fld K] {g : Pol K} {m : Nat} (hg : Dg g m) : ∀ (N : Nat) (f : Pol K), Lt f N → ∃ q r, f = q * g + r ∧ Lt r m
  | 0, f, h => ⟨0, f, by exact rg, h.mono (Nat.zero_le _)⟩
  | N + 1, f, h => by
    by_cases hm : N < m
    · exact ⟨0, f, by exact rg, h.mono hm⟩
    · obtain ⟨b, hb⟩ := Fld.inv (g.c m) hg.1
      obtain ⟨q, r, e, hr⟩ := div_ex hg N (f - mono (f.c N * b) (N - m) * g) (fun k hk => by
        rw [Pol.sub_c, mono_mul, if_pos (by omega)]
        by_cases e : k = N
        · rw [e, show N - (N - m) = m by omega]
          exact rh hb (-f.c N) rg
        · rw [h k (by omega), hg.2 (k - (N - m)) (by omega)]
          exact rg)
      exact ⟨q + mono (f.c N * b) (N - m), r, rh e 1 rg, hr⟩
/-- g divides f. -/
def Dv (g f : Pol K) : Prop := ∃ h, f = g * h
theorem Dv.refl (f : Pol K) : Dv f f := ⟨1, by exact rg⟩
theorem Dv.trans {f g h : Pol K} (a : Dv f g) (b : Dv g h) : Dv f h := by
  obtain ⟨x, rfl⟩ := a
  obtain ⟨y, rfl⟩ := b
  exact ⟨x * y, by exact rg⟩
theorem Dv.add {g a b : Pol K} (h : Dv g a) (k : Dv g b) : Dv g (a + b) := by
  obtain ⟨x, rfl⟩ := h
  obtain ⟨y, rfl⟩ := k
  exact ⟨x + y, by exact rg⟩
theorem Dv.sub {g a b : Pol K} (h : Dv g a) (k : Dv g b) : Dv g (a - b) := by
  obtain ⟨x, rfl⟩ := h
  obtain ⟨y, rfl⟩ := k
  exact ⟨x - y, by exact rg⟩
theorem Dv.mulL {g a : Pol K} (h : Dv g a) (b : Pol K) : Dv g (b * a) := by
  obtain ⟨x, rfl⟩ := h
  exact ⟨b * x, by exact rg⟩
theorem Dv.mulR {g a : Pol K} (h : Dv g a) (b : Pol K) : Dv g (a * b) := by
  obtain ⟨x, rfl⟩ := h
  exact ⟨x * b, by exact rg⟩
theorem dv_zero (g : Pol K) : Dv g 0 := ⟨0, by exact rg⟩
theorem bezout [Fld K] : ∀ (n : Nat) (f g : Pol K), Lt g n → ∃ d u v, d = u * f + v * g ∧ Dv d f ∧ Dv d g
  | n, f, g, h => by
    by_cases h0 : g = 0
    · exact ⟨f, 1, 0, by exact rg, Dv.refl f, by rw [h0]; exact dv_zero f⟩
    · obtain ⟨m, hmn, hm⟩ := dg_of_lt n h h0
      obtain ⟨N, hN⟩ := f.fin
      obtain ⟨q, r, e, hr⟩ := div_ex hm N f hN
      obtain ⟨d, u, v, hd, h1, h2⟩ := bezout m g r hr
      exact ⟨d, v, u - v * q, by rw [hd, e]; exact rg, by rw [e]; exact (h1.mulL q).add h2, h1⟩
termination_by n => n
theorem dg_const {u : Pol K} (h : Dg u 0) : u = Pol.const (u.c 0) := Pol.ext fun k => by
  rw [Pol.const_c]
  split
  · rename_i e; rw [e]
  · exact h.2 k (by omega)
theorem unit_of [Fld K] {u : Pol K} (h : Dg u 0) : ∃ v, u * v = 1 := by
  obtain ⟨b, hb⟩ := Fld.inv (u.c 0) h.1
  refine ⟨Pol.const b, Pol.ext fun k => ?_⟩
  rw [dg_const h, Pol.const_mul, Pol.one_def, Pol.const_c, Pol.const_c]
  split
  · exact hb
  · exact rg
theorem one_dg [Fld K] : Dg (1 : Pol K) 0 := ⟨by rw [Pol.one_def, Pol.const_c, if_pos rfl]; exact Fld.one_ne, fun k hk => by rw [Pol.one_def, Pol.const_c, if_neg (by omega)]⟩
/-- Not to be written as a product of two of lesser degree. -/
def Irr (g : Pol K) : Prop := (∃ n, 1 ≤ n ∧ Dg g n) ∧ ∀ a b, g = a * b → Dg a 0 ∨ Dg b 0
theorem Irr.euclid [Fld K] {g a b : Pol K} (hg : Irr g) (h : Dv g (a * b)) : Dv g a ∨ Dv g b := by
  obtain ⟨n, hn⟩ := a.fin
  obtain ⟨d, u, v, hd, ⟨e, he⟩, h2⟩ := bezout n g a hn
  rcases hg.2 d e he with h3 | h3
  · obtain ⟨w, hw⟩ := unit_of h3
    obtain ⟨x, hx⟩ := h
    exact .inr ⟨w * u * b + w * v * x, rh hw (-b) (by
      rw [hd]
      exact rh hx (w * v) rg)⟩
  · obtain ⟨w, hw⟩ := unit_of h3
    have : Dv g d := ⟨w, by rw [he]; exact rh hw (-d) rg⟩
    exact .inl (this.trans h2)
theorem Dv.dg_le [Fld K] {g f : Pol K} {m n : Nat} (h : Dv g f) (hg : Dg g m) (hf : Dg f n) : m ≤ n := by
  obtain ⟨x, e⟩ := h
  have hx : x ≠ 0 := fun e0 => hf.ne (by rw [e, e0]; exact rg)
  obtain ⟨k, hk⟩ := dg_ex hx
  have := (hg.mul hk).uniq (by rw [← e]; exact hf)
  omega
theorem irr_ex [Fld K] : ∀ (n : Nat) (f : Pol K), 1 ≤ n → Dg f n → ∃ g, Irr g ∧ Dv g f
  | n, f, h1, h => by
    by_cases hi : Irr f
    · exact ⟨f, hi, Dv.refl f⟩
    · have : ∃ a b, f = a * b ∧ ¬ Dg a 0 ∧ ¬ Dg b 0 := Classical.byContradiction fun hne => hi ⟨⟨n, h1, h⟩, fun a b e => Classical.byContradiction fun h2 => hne ⟨a, b, e, fun h3 => h2 (.inl h3), fun h3 => h2 (.inr h3)⟩⟩
      obtain ⟨a, b, e, ha, hb⟩ := this
      have ha0 : a ≠ 0 := fun e0 => h.ne (by rw [e, e0]; exact rg)
      have hb0 : b ≠ 0 := fun e0 => h.ne (by rw [e, e0]; exact rg)
      obtain ⟨m, hm⟩ := dg_ex ha0
      obtain ⟨k, hk⟩ := dg_ex hb0
      have hs := (hm.mul hk).uniq (by rw [← e]; exact h)
      have hm0 : m ≠ 0 := fun e0 => ha (by rw [← e0]; exact hm)
      have hk0 : k ≠ 0 := fun e0 => hb (by rw [← e0]; exact hk)
      obtain ⟨g, hg, hd⟩ := irr_ex m a (by omega) hm
      exact ⟨g, hg, hd.trans ⟨b, e⟩⟩
termination_by n => n
end
end Go.Proofs.Ytifaccppbhbfhaa.FX
/- Binomial numbers; the power p of a sum. -/
namespace Go.Proofs.Ytifaccppbhbfhaa.FX
set_option linter.unusedVariables false
set_option linter.unusedSimpArgs false
section
/-- Binomial numbers. -/
def ch : Nat → Nat → Nat
  | _, 0 => 1
  | 0, _ + 1 => 0
  | n + 1, k + 1 => ch n k + ch n (k + 1)
theorem ch_big : ∀ (n k : Nat), n < k → ch n k = 0
  | 0, k + 1, _ => rfl
  | n + 1, k + 1, h => by
    unfold ch
    rw [ch_big n k (by omega), ch_big n (k + 1) (by omega)]
theorem ch_self : ∀ n : Nat, ch n n = 1
  | 0 => rfl
  | n + 1 => by
    unfold ch
    rw [ch_self n, ch_big n (n + 1) (by omega)]
theorem ch_mul : ∀ (n k : Nat), (k + 1) * ch (n + 1) (k + 1) = (n + 1) * ch n k
  | 0, 0 => rfl
  | 0, k + 1 => by
    rw [ch_big (0 + 1) (k + 1 + 1) (by omega), ch_big 0 (k + 1) (by omega)]
    omega
  | n + 1, 0 => by
    have h := ch_mul n 0
    rw [show ch (n + 1 + 1) (0 + 1) = ch (n + 1) 0 + ch (n + 1) (0 + 1) from rfl]
    rw [show ch (n + 1) 0 = 1 by simp [ch]]
    rw [show ch n 0 = 1 by cases n <;> simp [ch]] at h
    omega
  | n + 1, k + 1 => by
    have h1 := ch_mul n k
    have h2 := ch_mul n (k + 1)
    have e1 : ch (n + 1 + 1) (k + 1 + 1) = ch (n + 1) (k + 1) + ch (n + 1) (k + 1 + 1) := rfl
    have e2 : ch (n + 1) (k + 1) = ch n k + ch n (k + 1) := rfl
    rw [e1]
    generalize ch (n + 1) (k + 1 + 1) = y at *
    generalize ch (n + 1) (k + 1) = x at *
    generalize ch n k = a at *
    generalize ch n (k + 1) = b at *
    grind
def Prm (p : Nat) : Prop := 2 ≤ p ∧ ∀ a b : Nat, p ∣ a * b → p ∣ a ∨ p ∣ b
theorem ch_dvd {p k : Nat} (hp : Prm p) (h1 : 1 ≤ k) (h2 : k < p) : p ∣ ch p k := by
  obtain ⟨n, rfl⟩ : ∃ n, p = n + 1 := ⟨p - 1, by omega⟩
  obtain ⟨j, rfl⟩ : ∃ j, k = j + 1 := ⟨k - 1, by omega⟩
  have h := ch_mul n j
  rcases hp.2 (j + 1) (ch (n + 1) (j + 1)) ⟨ch n j, h⟩ with h3 | h3
  · exact absurd (Nat.le_of_dvd (by omega) h3) (by omega)
  · exact h3
variable {R : Type} [CommRing R]
theorem sm_addC (n : Nat) (f : Nat → R) (g : Nat → R) (h : Nat → R) (e : ∀ i, i < n → h i = f i + g i) : sm n h = sm n f + sm n g := by
  rw [← sm_add]
  exact sm_ext e
theorem binom (u v : R) (n : Nat) : (u + v) ^ n = sm (n + 1) (fun k => ((ch n k : Nat) : R) * (u ^ k * v ^ (n - k))) := by
  induction n with
  | zero =>
    show _ = (0 : R) + ((1 : Nat) : R) * (u ^ 0 * v ^ (0 - 0))
    rw [Semiring.pow_zero, Semiring.pow_zero, Semiring.pow_zero, Semiring.natCast_one]
    exact rg
  | succ n ih =>
    rw [Semiring.pow_succ, ih, sm_front (n + 1)]
    have e : ∀ i, i < n + 1 → ((ch (n + 1) (i + 1) : Nat) : R) * (u ^ (i + 1) * v ^ (n + 1 - (i + 1))) = u * (((ch n i : Nat) : R) * (u ^ i * v ^ (n - i))) + ((ch n (i + 1) : Nat) : R) * (u ^ (i + 1) * v ^ (n - i)) := fun i hi => by
      rw [show ch (n + 1) (i + 1) = ch n i + ch n (i + 1) from rfl, show n + 1 - (i + 1) = n - i by omega, Semiring.natCast_add, Semiring.pow_succ]
      exact rg
    rw [sm_addC (n + 1) _ _ _ e, sm_mulL]
    have e2 : sm (n + 1) (fun i => ((ch n (i + 1) : Nat) : R) * (u ^ (i + 1) * v ^ (n - i))) + ((ch (n + 1) 0 : Nat) : R) * (u ^ 0 * v ^ (n + 1 - 0)) = v * sm (n + 1) (fun k => ((ch n k : Nat) : R) * (u ^ k * v ^ (n - k))) := by
      rw [show sm (n + 1) (fun i => ((ch n (i + 1) : Nat) : R) * (u ^ (i + 1) * v ^ (n - i))) = sm n (fun i => ((ch n (i + 1) : Nat) : R) * (u ^ (i + 1) * v ^ (n - i))) + ((ch n (n + 1) : Nat) : R) * (u ^ (n + 1) * v ^ (n - n)) from rfl]
      rw [ch_big n (n + 1) (by omega), ← sm_mulL, sm_front]
      rw [show ch (n + 1) 0 = 1 by simp [ch], show ch n 0 = 1 by cases n <;> simp [ch], Nat.sub_zero, Nat.sub_zero, Semiring.pow_succ v n]
      rw [sm_ext (n := n) (f := fun i => ((ch n (i + 1) : Nat) : R) * (u ^ (i + 1) * v ^ (n - i))) (g := fun i => v * (((ch n (i + 1) : Nat) : R) * (u ^ (i + 1) * v ^ (n - (i + 1))))) (fun i hi => by
        show ((ch n (i + 1) : Nat) : R) * (u ^ (i + 1) * v ^ (n - i)) = v * (((ch n (i + 1) : Nat) : R) * (u ^ (i + 1) * v ^ (n - (i + 1))))
        rw [show n - i = n - (i + 1) + 1 by omega, Semiring.pow_succ v (n - (i + 1))]
        exact rg)]
      rw [Semiring.natCast_zero, Semiring.natCast_one, Semiring.pow_zero]
      exact rg
    exact rh e2 (-1) rg
theorem cast_dvd {p m : Nat} (h0 : ((p : Nat) : R) = 0) (h : p ∣ m) : ((m : Nat) : R) = 0 := by
  obtain ⟨k, rfl⟩ := h
  rw [Semiring.natCast_mul, h0]
  exact rg
/-- The power p of a sum. -/
theorem frob {p : Nat} (hp : Prm p) (h0 : ((p : Nat) : R) = 0) (u v : R) : (u + v) ^ p = u ^ p + v ^ p := by
  obtain ⟨n, rfl⟩ : ∃ n, p = n + 1 := ⟨p - 1, by have := hp.1; omega⟩
  rw [binom, show sm (n + 1 + 1) (fun k => ((ch (n + 1) k : Nat) : R) * (u ^ k * v ^ (n + 1 - k))) = sm (n + 1) (fun k => ((ch (n + 1) k : Nat) : R) * (u ^ k * v ^ (n + 1 - k))) + ((ch (n + 1) (n + 1) : Nat) : R) * (u ^ (n + 1) * v ^ (n + 1 - (n + 1))) from rfl, sm_front, sm_zero (fun i hi => by
    show ((ch (n + 1) (i + 1) : Nat) : R) * _ = 0
    rw [cast_dvd h0 (ch_dvd hp (by omega) (by omega))]
    exact rg), ch_self, Nat.sub_self, Nat.sub_zero, Semiring.pow_zero, Semiring.pow_zero, show ch (n + 1) 0 = 1 by simp [ch], Semiring.natCast_one]
  exact rg
end
end Go.Proofs.Ytifaccppbhbfhaa.FX
/- Polynomials over a field of p elements: a polynomial that is its own power p by an irreducible one is a number. -/
namespace Go.Proofs.Ytifaccppbhbfhaa.FX
set_option linter.unusedVariables false
set_option linter.unusedSimpArgs false
section
variable {K : Type} [CommRing K]
/-- K has p elements, p a prime. -/
class Fp (K : Type) (p : Nat) [CommRing K] : Prop extends Fld K where
  prm : Prm p
  char : ((p : Nat) : K) = 0
  nat : ∀ a : K, ∃ n : Nat, n < p ∧ a = ((n : Nat) : K)
theorem pow_one' {R : Type} [CommRing R] (n : Nat) : (1 : R) ^ n = 1 := by
  induction n with
  | zero => exact Semiring.pow_zero 1
  | succ n ih => rw [Semiring.pow_succ, ih]; exact rg
theorem zero_pow' {R : Type} [CommRing R] {n : Nat} (h : 1 ≤ n) : (0 : R) ^ n = 0 := by
  obtain ⟨m, rfl⟩ : ∃ m, n = m + 1 := ⟨n - 1, by omega⟩
  rw [Semiring.pow_succ]; exact rg
theorem mul_pow' {R : Type} [CommRing R] (a b : R) (n : Nat) : (a * b) ^ n = a ^ n * b ^ n := by
  induction n with
  | zero => rw [Semiring.pow_zero, Semiring.pow_zero, Semiring.pow_zero]; exact rg
  | succ n ih => rw [Semiring.pow_succ, ih, Semiring.pow_succ a, Semiring.pow_succ b]; exact rg
theorem fermatN {p : Nat} (hp : Prm p) (h0 : ((p : Nat) : K) = 0) (n : Nat) : ((n : Nat) : K) ^ p = ((n : Nat) : K) := by
  induction n with
  | zero => rw [Semiring.natCast_zero, zero_pow' (by have := hp.1; omega)]
  | succ n ih => rw [Semiring.natCast_succ, frob hp h0, ih, pow_one']
theorem fermat {p : Nat} [Fp K p] (a : K) : a ^ p = a := by
  obtain ⟨n, _, rfl⟩ := Fp.nat (p := p) a
  exact fermatN (Fp.prm K) (Fp.char) n
theorem const_zero : Pol.const (0 : K) = 0 := Pol.ext fun k => by rw [Pol.zero_c, Pol.const_c]; split <;> rfl
theorem const_add (a b : K) : Pol.const (a + b) = Pol.const a + Pol.const b := Pol.ext fun k => by
  rw [Pol.add_c, Pol.const_c, Pol.const_c, Pol.const_c]; split <;> exact rg
theorem const_mulC (a b : K) : Pol.const (a * b) = Pol.const a * Pol.const b := Pol.ext fun k => by
  rw [Pol.const_mul, Pol.const_c, Pol.const_c]; split <;> exact rg
theorem const_sub (a b : K) : Pol.const (a - b) = Pol.const a - Pol.const b := Pol.ext fun k => by
  rw [Pol.sub_c, Pol.const_c, Pol.const_c, Pol.const_c]; split <;> exact rg
theorem const_pow (a : K) (n : Nat) : Pol.const (a ^ n) = Pol.const a ^ n := by
  induction n with
  | zero => rw [Semiring.pow_zero, Semiring.pow_zero, Pol.one_def]
  | succ n ih => rw [Semiring.pow_succ, Semiring.pow_succ, const_mulC, ih]
theorem char_pol {p : Nat} (h0 : ((p : Nat) : K) = 0) : ((p : Nat) : Pol K) = 0 := by
  show Pol.const ((p : Nat) : K) = 0
  rw [h0, const_zero]
/-- The value at q of the polynomial of a list. -/
def hor (q : Pol K) : List K → Pol K
  | [] => 0
  | a :: l => Pol.const a + q * hor q l
theorem hor_pow {p : Nat} [Fp K p] (q : Pol K) : ∀ l : List K, hor q l ^ p = hor (q ^ p) l
  | [] => zero_pow' (by have := (Fp.prm K : Prm p).1; omega)
  | a :: l => by
    unfold hor
    rw [frob (Fp.prm K) (char_pol Fp.char), mul_pow', hor_pow q l, ← const_pow, fermat]
def ladd : List K → List K → List K
  | [], m => m
  | l, [] => l
  | a :: l, b :: m => (a + b) :: ladd l m
theorem hor_ladd (q : Pol K) : ∀ l m : List K, hor q (ladd l m) = hor q l + hor q m
  | [], m => by unfold ladd hor; exact rg
  | a :: l, [] => by unfold ladd hor; exact rg
  | a :: l, b :: m => by
    unfold ladd hor
    rw [hor_ladd q l m, const_add]
    exact rg
theorem ladd_len : ∀ l m : List K, (ladd l m).length = max l.length m.length
  | [], m => by simp [ladd]
  | a :: l, [] => by simp [ladd]
  | a :: l, b :: m => by
    unfold ladd
    rw [List.length_cons, ladd_len l m, List.length_cons, List.length_cons]
    omega
theorem hor_scale (q : Pol K) (a : K) : ∀ l : List K, hor q (l.map fun x => a * x) = Pol.const a * hor q l
  | [] => by rw [List.map_nil]; unfold hor; exact rg
  | b :: l => by
    rw [List.map_cons]
    unfold hor
    rw [hor_scale q a l, const_mulC]
    exact rg
/-- A root is split off. -/
theorem syn_ex (a : K) : ∀ l : List K, ∃ l' : List K, l'.length = l.length - 1 ∧ ∀ v : Pol K, hor v l = hor (Pol.const a) l + (v - Pol.const a) * hor v l'
  | [] => ⟨[], rfl, fun v => by unfold hor; exact rg⟩
  | c :: t => by
    obtain ⟨t', hl, h⟩ := syn_ex a t
    refine ⟨ladd t (t'.map fun x => a * x), by rw [ladd_len, List.length_map, List.length_cons]; omega, fun v => ?_⟩
    rw [hor_ladd, hor_scale]
    show Pol.const c + v * hor v t = Pol.const c + Pol.const a * hor (Pol.const a) t + _
    have := h v
    exact rh this (Pol.const a) rg
def prodL (v : Pol K) : List K → Pol K
  | [] => 1
  | a :: aa => (v - Pol.const a) * prodL v aa
theorem roots_ex [Fld K] : ∀ (aa l : List K), aa.Nodup → (∀ a ∈ aa, hor (Pol.const a) l = 0) → ∃ l' : List K, l'.length = l.length - aa.length ∧ ∀ v : Pol K, hor v l = prodL v aa * hor v l'
  | [], l, _, _ => ⟨l, by simp, fun v => by unfold prodL; exact rg⟩
  | a :: aa, l, hn, hr => by
    obtain ⟨t, ht, h⟩ := syn_ex a l
    have h0 := hr a (List.mem_cons_self)
    rw [List.nodup_cons] at hn
    obtain ⟨l', hl', h'⟩ := roots_ex aa t hn.2 (fun b hb => by
      have e := h (Pol.const b)
      rw [hr b (List.mem_cons_of_mem _ hb), h0] at e
      have hne : Pol.const b - Pol.const a ≠ 0 := fun e0 => by
        rw [← const_sub] at e0
        have := congrArg (fun f => f.c 0) e0
        simp only [Pol.const_c, Pol.zero_c, if_pos] at this
        have : b = a := rh this 1 rg
        exact hn.1 (this ▸ hb)
      refine Classical.byContradiction fun h1 => pmul_ne hne h1 ?_
      exact rh e (-1) rg)
    refine ⟨l', by rw [hl', ht, List.length_cons]; omega, fun v => ?_⟩
    rw [h v, h0, h' v, show prodL v (a :: aa) = (v - Pol.const a) * prodL v aa from rfl]
    exact rg
end
section
variable {K : Type} [CommRing K]
def X : Pol K := mono 1 1
theorem X_mul (f : Pol K) (k : Nat) : (X * f).c k = if 1 ≤ k then f.c (k - 1) else 0 := by
  unfold X
  rw [mono_mul]
  split <;> exact rg
theorem hor_X_c : ∀ (l : List K) (k : Nat), (hor X l).c k = l.getD k 0
  | [], k => by unfold hor; rw [Pol.zero_c]; simp
  | a :: l, 0 => by
    unfold hor
    rw [Pol.add_c, X_mul, if_neg (by omega), Pol.const_c, if_pos rfl]
    simp
    exact rg
  | a :: l, k + 1 => by
    unfold hor
    rw [Pol.add_c, X_mul, if_pos (by omega), Pol.const_c, if_neg (by omega), Nat.add_sub_cancel, hor_X_c l k]
    simp
    exact rg
theorem hor_rep (q : Pol K) (n : Nat) (l : List K) : hor q (List.replicate n 0 ++ l) = q ^ n * hor q l := by
  induction n with
  | zero => rw [Semiring.pow_zero, List.replicate_zero, List.nil_append]; exact rg
  | succ n ih =>
    rw [List.replicate_succ, List.cons_append, show hor q (0 :: (List.replicate n 0 ++ l)) = Pol.const 0 + q * hor q (List.replicate n 0 ++ l) from rfl, ih, const_zero, Semiring.pow_succ]
    exact rg
/-- The list of y^p - y. -/
def yp (K : Type) [CommRing K] (p : Nat) : List K := ladd (List.replicate p 0 ++ [1]) [0, -1]
theorem hor_yp (p : Nat) (v : Pol K) : hor v (yp K p) = v ^ p - v := by
  unfold yp
  rw [hor_ladd, hor_rep]
  unfold hor hor
  unfold hor
  rw [const_zero, ← Pol.one_def, show Pol.const (-1 : K) = -1 by
    have := const_sub (0 : K) 1
    rw [const_zero, ← Pol.one_def] at this
    rw [show (-1 : K) = 0 - 1 by exact rg, this]; exact rg]
  exact rg
/-- All elements of K. -/
def els (K : Type) [CommRing K] (p : Nat) : List K := (List.range p).map fun n => ((n : Nat) : K)
theorem els_mem {p : Nat} [Fp K p] (a : K) : a ∈ els K p := by
  obtain ⟨n, hn, rfl⟩ := Fp.nat (p := p) a
  exact List.mem_map.2 ⟨n, List.mem_range.2 hn, rfl⟩
theorem prod_dv [Fld K] {g v : Pol K} (hg : Irr g) : ∀ aa : List K, Dv g (prodL v aa) → ∃ a ∈ aa, Dv g (v - Pol.const a)
  | [], h => by
    obtain ⟨⟨n, h1, hn⟩, _⟩ := hg
    have := h.dg_le hn (one_dg (K := K))
    omega
  | a :: aa, h => by
    rcases hg.euclid (show Dv g ((v - Pol.const a) * prodL v aa) from h) with h1 | h1
    · exact ⟨a, List.mem_cons_self, h1⟩
    · obtain ⟨b, hb, h2⟩ := prod_dv hg aa h1
      exact ⟨b, List.mem_cons_of_mem _ hb, h2⟩
/-- The numbers below p are different elements. -/
theorem els_nodup {p : Nat} (h : ∀ m n : Nat, m < p → n < p → ((m : Nat) : K) = ((n : Nat) : K) → m = n) : (els K p).Nodup := by
  unfold els
  rw [List.nodup_iff_pairwise_ne, List.pairwise_map]
  have := List.nodup_range (n := p)
  rw [List.nodup_iff_pairwise_ne] at this
  refine List.Pairwise.imp_of_mem (fun {a b} ha hb hne e => hne (h a b (List.mem_range.1 ha) (List.mem_range.1 hb) e)) this
/-- Different numbers below p are different in K: else a difference, a number from 1 to p - 1, is 0, and then 1 is 0. -/
theorem fp_inj {p : Nat} [Fp K p] : ∀ m n : Nat, m < p → n < p → ((m : Nat) : K) = ((n : Nat) : K) → m = n := by
  have key : ∀ d : Nat, 1 ≤ d → d < p → ((d : Nat) : K) ≠ 0 := by
    intro d
    induction d using Nat.strongRecOn with
    | _ d ih =>
      intro h1 h2 h0
      have hpm := (Fp.prm K : Prm p)
      by_cases hd : d = 1
      · subst hd
        rw [Semiring.natCast_one] at h0
        exact Fld.one_ne h0
      · have hr := Nat.div_add_mod p d
        have hr0 : p % d ≠ 0 := fun e => by
          have hdv : d ∣ p := Nat.dvd_of_mod_eq_zero e
          obtain ⟨k, hk⟩ := hdv
          rcases hpm.2 d k ⟨1, by omega⟩ with h3 | h3
          · exact absurd (Nat.le_of_dvd (by omega) h3) (by omega)
          · have hk0 : 0 < k := Nat.pos_of_ne_zero fun e0 => by subst e0; simp at hk; omega
            have h4 := Nat.le_of_dvd hk0 h3
            have : 2 * k ≤ d * k := Nat.mul_le_mul_right k (by omega)
            omega
        have hlt := Nat.mod_lt p (show d > 0 by omega)
        refine ih (p % d) hlt (by omega) (by omega) ?_
        have hc : ((p : Nat) : K) = 0 := Fp.char
        rw [← hr, Semiring.natCast_add, Semiring.natCast_mul, h0] at hc
        exact rh hc 1 rg
  intro m n hm hn e
  refine Classical.byContradiction fun hne => ?_
  rcases Nat.lt_or_gt_of_ne hne with h | h
  · obtain ⟨d, rfl⟩ : ∃ d, n = m + d := ⟨n - m, by omega⟩
    refine key d (by omega) (by omega) ?_
    rw [Semiring.natCast_add] at e
    exact rh e (-1) rg
  · obtain ⟨d, rfl⟩ : ∃ d, m = n + d := ⟨m - n, by omega⟩
    refine key d (by omega) (by omega) ?_
    rw [Semiring.natCast_add] at e
    exact rh e 1 rg
theorem ladd_pad (n : Nat) (h : 2 ≤ n) : (yp K n).length = n + 1 := by
  unfold yp
  rw [ladd_len, List.length_append, List.length_replicate]
  simp
  omega
/-- What is its own power p by an irreducible polynomial is a number. -/
theorem fp_split {p : Nat} [Fp K p] {g v : Pol K} (hg : Irr g) (h : Dv g (v ^ p - v)) : ∃ a : K, Dv g (v - Pol.const a) := by
  have hp := (Fp.prm K : Prm p)
  obtain ⟨l', hl, hr⟩ := roots_ex (els K p) (yp K p) (els_nodup fp_inj) (fun a _ => by
    rw [hor_yp, ← const_pow, fermat]
    exact rg)
  rw [ladd_pad p hp.1, show (els K p).length = p by simp [els], show p + 1 - p = 1 by omega] at hl
  obtain ⟨c, rfl⟩ : ∃ c, l' = [c] := by
    match l', hl with
    | [c], _ => exact ⟨c, rfl⟩
  have hc : ∀ v : Pol K, v ^ p - v = prodL v (els K p) * Pol.const c := fun v => by
    rw [← hor_yp, hr v]
    unfold hor hor
    exact rg
  have hc0 : c ≠ 0 := fun e => by
    subst e
    have h1 := hc X
    rw [const_zero] at h1
    have h2 : (hor X (yp K p) : Pol K) = 0 := by rw [hor_yp, h1]; exact rg
    have h3 := congrArg (fun f => f.c 1) h2
    simp only [hor_X_c, Pol.zero_c] at h3
    obtain ⟨n, rfl⟩ : ∃ n, p = n + 2 := ⟨p - 2, by have := hp.1; omega⟩
    have h4 : (yp K (n + 2)).getD 1 0 = 0 + -1 := by
      unfold yp
      rw [List.replicate_succ, List.replicate_succ]
      simp [ladd]
    rw [h4] at h3
    exact Fld.one_ne (show (1 : K) = 0 from rh h3 (-1) rg)
  rw [hc] at h
  rcases hg.euclid h with h1 | h1
  · obtain ⟨a, _, ha⟩ := prod_dv hg _ h1
    exact ⟨a, ha⟩
  · obtain ⟨⟨n, h1', hn⟩, _⟩ := hg
    have := h1.dg_le hn (show Dg (Pol.const c) 0 from ⟨by rw [Pol.const_c, if_pos rfl]; exact hc0, fun k hk => by rw [Pol.const_c, if_neg (by omega)]⟩)
    omega
end
end Go.Proofs.Ytifaccppbhbfhaa.FX
/- Polynomials without double factors; when a part of one is irreducible; the derivative. -/
namespace Go.Proofs.Ytifaccppbhbfhaa.FX
set_option linter.unusedVariables false
set_option linter.unusedSimpArgs false
section
variable {K : Type} [CommRing K]
/-- No factor occurs twice. -/
def SqF (f : Pol K) : Prop := ∀ g, Irr g → ¬ Dv (g * g) f
/-- No common factor. -/
def Cop (a b : Pol K) : Prop := ∃ u v, u * a + v * b = 1
theorem SqF.cop [Fld K] {f a b : Pol K} (hf : SqF f) (h : Dv (a * b) f) (ha : a ≠ 0) : Cop a b := by
  obtain ⟨N, hN⟩ := b.fin
  obtain ⟨d, u, v, hd, h1, h2⟩ := bezout N a b hN
  have hd0 : d ≠ 0 := fun e => by
    obtain ⟨x, hx⟩ := h1
    exact ha (by rw [hx, e]; exact rg)
  obtain ⟨n, hn⟩ := dg_ex hd0
  by_cases h0 : n = 0
  · subst h0
    obtain ⟨w, hw⟩ := unit_of hn
    exact ⟨w * u, w * v, by
      have : w * d = 1 := rh hw 1 rg
      rw [← this, hd]
      exact rg⟩
  · obtain ⟨g, hg, hgd⟩ := irr_ex n d (by omega) hn
    refine absurd ?_ (hf g hg)
    obtain ⟨x, hx⟩ := hgd.trans h1
    obtain ⟨y, hy⟩ := hgd.trans h2
    obtain ⟨z, hz⟩ := h
    exact ⟨x * y * z, by rw [hz, hx, hy]; exact rg⟩
theorem SqF.of_dv {f g : Pol K} (hf : SqF f) (h : Dv g f) : SqF g := fun k hk hd => hf k hk (hd.trans h)
theorem Cop.dv {a b f : Pol K} (h : Cop a b) (ha : Dv a f) (hb : Dv b f) : Dv (a * b) f := by
  obtain ⟨u, v, e⟩ := h
  obtain ⟨x, hx⟩ := ha
  obtain ⟨y, hy⟩ := hb
  refine ⟨u * y + v * x, ?_⟩
  have : f = (u * a + v * b) * f := by rw [e]; exact rg
  rw [this]
  have h1 : u * a * f = u * a * (b * y) := by rw [← hy]
  have h2 : v * b * f = v * b * (a * x) := by rw [← hx]
  have h3 : (u * a + v * b) * f = u * a * f + v * b * f := by exact rg
  rw [h3, h1, h2]
  exact rg
theorem pow_dv (a : Pol K) {n : Nat} (h : 1 ≤ n) : Dv a (a ^ n) := by
  obtain ⟨m, rfl⟩ : ∃ m, n = m + 1 := ⟨n - 1, by omega⟩
  exact ⟨a ^ m, by rw [Semiring.pow_succ]; exact rg⟩
/-- A factor by which every polynomial that is its own power p by f is a number is irreducible. -/
theorem irr_of {p : Nat} [Fp K p] {f P : Pol K} {n m : Nat} (hf : SqF f) (hn : Dg f n) (hP : Dv P f) (hm : Dg P m) (h1 : 1 ≤ m)
    (h : ∀ u : Pol K, Lt u n → Dv f (u ^ p - u) → ∃ c : K, Dv P (u - Pol.const c)) : Irr P := by
  refine ⟨⟨m, h1, hm⟩, fun a b e => Classical.byContradiction fun hne => ?_⟩
  have ha0 : a ≠ 0 := fun e0 => hm.ne (by rw [e, e0]; exact rg)
  have hb0 : b ≠ 0 := fun e0 => hm.ne (by rw [e, e0]; exact rg)
  obtain ⟨ka, hka⟩ := dg_ex ha0
  obtain ⟨kb, hkb⟩ := dg_ex hb0
  have hka1 : 1 ≤ ka := by
    refine Classical.byContradiction fun h0 => hne (.inl ?_)
    rw [show ka = 0 by omega] at hka
    exact hka
  have hkb1 : 1 ≤ kb := by
    refine Classical.byContradiction fun h0 => hne (.inr ?_)
    rw [show kb = 0 by omega] at hkb
    exact hkb
  obtain ⟨s, hs⟩ := hP
  have hfs : f = a * (b * s) := by rw [hs, e]; exact rg
  obtain ⟨x, y, hxy⟩ := hf.cop (a := a) (b := b * s) ⟨1, by rw [hfs]; exact rg⟩ ha0
  have hp := (Fp.prm K : Prm p)
  have hp1 : 1 ≤ p := by have := hp.1; omega
  have hcp : ((p : Nat) : Pol K) = 0 := char_pol Fp.char
  -- w is 0 by a and 1 by b s
  have hw : ∃ w, Dv a w ∧ Dv (b * s) (w - 1) := ⟨x * a, ⟨x, rg⟩, ⟨-y, rh hxy 1 rg⟩⟩
  obtain ⟨w, hwa, hwb⟩ := hw
  have hkw : Dv f (w ^ p - w) := by
    rw [hfs]
    refine Cop.dv ⟨x, y, hxy⟩ ?_ ?_
    · exact (hwa.trans (pow_dv w hp1)).sub hwa
    · have e1 : w ^ p = (w - 1) ^ p + 1 := by
        have := frob hp hcp (w - 1) 1
        rw [pow_one', show w - 1 + 1 = w by exact rg] at this
        exact this
      rw [e1, show (w - 1) ^ p + 1 - w = (w - 1) ^ p - (w - 1) by exact rg]
      exact (hwb.trans (pow_dv _ hp1)).sub hwb
  obtain ⟨N, hN⟩ := w.fin
  obtain ⟨q, r, hqr, hr⟩ := div_ex hn N w hN
  have hkr : Dv f (r ^ p - r) := by
    have e1 : w ^ p = (q * f) ^ p + r ^ p := by rw [hqr, frob hp hcp]
    have e2 : r ^ p - r = (w ^ p - w) - ((q * f) ^ p - q * f) := by rw [e1]; exact rh hqr 1 rg
    rw [e2]
    have h3 : Dv f (q * f) := ⟨q, by exact rg⟩
    exact hkw.sub ((h3.trans (pow_dv _ hp1)).sub h3)
  obtain ⟨c, hc⟩ := h r hr hkr
  have hPa : Dv a P := ⟨b, e⟩
  have hPb : Dv b P := ⟨a, by rw [e]; exact rg⟩
  have haf : Dv a f := ⟨b * s, hfs⟩
  have hbf : Dv b f := ⟨a * s, by rw [hfs]; exact rg⟩
  have hrw : r = w - q * f := by rw [hqr]; exact rg
  -- by a: the number is 0
  have hca : Dv a (Pol.const c) := by
    have h3 := (hPa.trans hc)
    have h4 : Dv a r := by rw [hrw]; exact hwa.sub (haf.mulL q)
    have := h4.sub h3
    rw [show r - (r - Pol.const c) = Pol.const c by exact rg] at this
    exact this
  have hc0 : c = 0 := Classical.byContradiction fun h0 => by
    have := hca.dg_le hka (show Dg (Pol.const c) 0 from ⟨by rw [Pol.const_c, if_pos rfl]; exact h0, fun k hk => by rw [Pol.const_c, if_neg (by omega)]⟩)
    omega
  -- by b: the number is 1
  have hcb : Dv b (1 : Pol K) := by
    have h3 := hPb.trans hc
    rw [hc0, const_zero] at h3
    have h4 : Dv b (w - 1) := (show Dv b (b * s) from ⟨s, rfl⟩).trans hwb
    have h5 : Dv b (r - (w - 1)) := by
      rw [hrw, show w - q * f - (w - 1) = 1 - q * f by exact rg]
      have h6 : Dv b w := by
        have : w = (r - 0) + q * f := by rw [hrw]; exact rg
        rw [this]
        exact h3.add (hbf.mulL q)
      have : (1 : Pol K) - q * f = (w - q * f) - (w - 1) := by exact rg
      rw [this]
      exact (h6.sub (hbf.mulL q)).sub h4
    have h7 := (h3.sub h5).sub h4
    rw [show r - 0 - (r - (w - 1)) - (w - 1) = 0 by exact rg] at h7
    have h8 : Dv b (r - (w - 1)) := h5
    have h9 : Dv b r := by have := h3; rw [show r - 0 = r by exact rg] at this; exact this
    have h10 := (h4.add h8).sub h9
    rw [show w - 1 + (r - (w - 1)) - r = 0 by exact rg] at h10
    -- w is 0 by b too
    have h11 : Dv b w := by
      have : w = r + q * f := by rw [hrw]; exact rg
      rw [this]
      exact h9.add (hbf.mulL q)
    have h12 := h11.sub h4
    rw [show w - (w - 1) = 1 by exact rg] at h12
    exact h12
  have := hcb.dg_le hkb (one_dg (K := K))
  omega
/-- The derivative. -/
def Pol.D (f : Pol K) : Pol K := ⟨fun k => ((k + 1 : Nat) : K) * f.c (k + 1), by
  obtain ⟨n, hn⟩ := f.fin
  exact ⟨n, fun k hk => by rw [hn (k + 1) (by omega)]; exact rg⟩⟩
theorem D_c (f : Pol K) (k : Nat) : f.D.c k = ((k + 1 : Nat) : K) * f.c (k + 1) := rfl
theorem D_mul (f g : Pol K) : (f * g).D = f.D * g + f * g.D := Pol.ext fun k => by
  rw [Pol.add_c, D_c, Pol.mul_c, Pol.mul_c, Pol.mul_c, ← sm_mulL]
  have e : ∀ i, i < k + 1 + 1 → ((k + 1 : Nat) : K) * (f.c i * g.c (k + 1 - i)) = (((i : Nat) : K) * f.c i) * g.c (k + 1 - i) + f.c i * (((k + 1 - i : Nat) : K) * g.c (k + 1 - i)) := fun i hi => by
    have h : ((k + 1 : Nat) : K) = ((i : Nat) : K) + ((k + 1 - i : Nat) : K) := by rw [← Semiring.natCast_add, show i + (k + 1 - i) = k + 1 by omega]
    rw [h]
    exact rg
  rw [sm_addC (k + 1 + 1) _ _ _ e, sm_front (k + 1) (fun i => (((i : Nat) : K) * f.c i) * g.c (k + 1 - i)), show sm (k + 1 + 1) (fun i => f.c i * (((k + 1 - i : Nat) : K) * g.c (k + 1 - i))) = sm (k + 1) (fun i => f.c i * (((k + 1 - i : Nat) : K) * g.c (k + 1 - i))) + f.c (k + 1) * (((k + 1 - (k + 1) : Nat) : K) * g.c (k + 1 - (k + 1))) from rfl]
  rw [Nat.sub_self, Semiring.natCast_zero]
  rw [sm_ext (n := k + 1) (f := fun i => (((i + 1 : Nat) : K) * f.c (i + 1)) * g.c (k + 1 - (i + 1))) (g := fun i => f.D.c i * g.c (k - i)) (fun i hi => by
    show (((i + 1 : Nat) : K) * f.c (i + 1)) * g.c (k + 1 - (i + 1)) = ((i + 1 : Nat) : K) * f.c (i + 1) * g.c (k - i)
    rw [show k + 1 - (i + 1) = k - i by omega])]
  rw [sm_ext (n := k + 1) (f := fun i => f.c i * (((k + 1 - i : Nat) : K) * g.c (k + 1 - i))) (g := fun i => f.c i * g.D.c (k - i)) (fun i hi => by
    show f.c i * (((k + 1 - i : Nat) : K) * g.c (k + 1 - i)) = f.c i * (((k - i + 1 : Nat) : K) * g.c (k - i + 1))
    rw [show k + 1 - i = k - i + 1 by omega])]
  exact rg
end
end Go.Proofs.Ytifaccppbhbfhaa.FX
/- How often a factor occurs; greatest common divisors with the derivative. -/
namespace Go.Proofs.Ytifaccppbhbfhaa.FX
set_option linter.unusedVariables false
set_option linter.unusedSimpArgs false
section
variable {K : Type} [CommRing K]
theorem D_pow (g : Pol K) (n : Nat) : (g ^ (n + 1)).D = ((n + 1 : Nat) : Pol K) * (g ^ n * g.D) := by
  induction n with
  | zero =>
    rw [show g ^ (0 + 1) = g by rw [Semiring.pow_succ, Semiring.pow_zero]; exact rg, Semiring.pow_zero, show ((0 + 1 : Nat) : Pol K) = 1 from Semiring.natCast_one]
    exact rg
  | succ n ih =>
    rw [Semiring.pow_succ g (n + 1), D_mul, ih, Semiring.natCast_succ (n + 1), Semiring.pow_succ g n]
    exact rg
theorem Dg.pow [Fld K] {g : Pol K} {n : Nat} (h : Dg g n) (k : Nat) : Dg (g ^ k) (k * n) := by
  induction k with
  | zero => rw [Semiring.pow_zero, Nat.zero_mul]; exact one_dg
  | succ k ih => rw [Semiring.pow_succ, Nat.succ_mul]; exact ih.mul h
theorem pow_le_dv (g : Pol K) {m n : Nat} (h : m ≤ n) : Dv (g ^ m) (g ^ n) := by
  obtain ⟨k, rfl⟩ : ∃ k, n = m + k := ⟨n - m, by omega⟩
  exact ⟨g ^ k, by rw [Semiring.pow_add]⟩
/-- How often a factor occurs. -/
theorem mult_ex [Fld K] {g f : Pol K} (hg : Irr g) (hf : f ≠ 0) : ∃ k : Nat, Dv (g ^ k) f ∧ ¬ Dv (g ^ (k + 1)) f := by
  obtain ⟨⟨n, h1, hn⟩, _⟩ := hg
  obtain ⟨m, hm⟩ := dg_ex hf
  refine Classical.byContradiction fun hne => ?_
  have hall : ∀ k : Nat, Dv (g ^ k) f := fun k => by
    induction k with
    | zero => rw [Semiring.pow_zero]; exact ⟨f, by exact rg⟩
    | succ k ih => exact Classical.byContradiction fun h => hne ⟨k, ih, h⟩
  have h2 := (hall (m + 1)).dg_le (hn.pow (m + 1)) hm
  have : m + 1 ≤ (m + 1) * n := Nat.le_mul_of_pos_right _ h1
  omega
theorem Irr.ne {g : Pol K} (h : Irr g) : g ≠ 0 := by
  obtain ⟨⟨n, _, hn⟩, _⟩ := h
  exact hn.ne
theorem pow_ne [Fld K] {g : Pol K} (h : g ≠ 0) (k : Nat) : g ^ k ≠ 0 := by
  obtain ⟨n, hn⟩ := dg_ex h
  exact (hn.pow k).ne
theorem pow_dv_mul [Fld K] {g a b : Pol K} (hg : Irr g) (ha : ¬ Dv g a) : ∀ k : Nat, Dv (g ^ k) (a * b) → Dv (g ^ k) b
  | 0, _ => by rw [Semiring.pow_zero]; exact ⟨b, by exact rg⟩
  | k + 1, h => by
    obtain ⟨c, hc⟩ := pow_dv_mul hg ha k ((pow_le_dv g (Nat.le_succ k)).trans h)
    obtain ⟨x, hx⟩ := h
    have e : g ^ k * (a * c) = g ^ k * (g * x) := by
      rw [hc, Semiring.pow_succ] at hx
      exact rh hx 1 rg
    have e2 := cancel (pow_ne hg.ne k) e
    rcases hg.euclid ⟨x, e2⟩ with h1 | h1
    · exact absurd h1 ha
    · obtain ⟨y, hy⟩ := h1
      exact ⟨y, by rw [hc, hy, Semiring.pow_succ]; exact rg⟩
/-- d is a greatest common divisor. -/
def Gcd (d f h : Pol K) : Prop := Dv d f ∧ Dv d h ∧ ∀ e, Dv e f → Dv e h → Dv e d
theorem pow_dv_D {g f : Pol K} {k : Nat} (h : Dv (g ^ (k + 1)) f) : Dv (g ^ k) f.D := by
  obtain ⟨x, hx⟩ := h
  rw [hx, D_mul, D_pow]
  exact ⟨((k + 1 : Nat) : Pol K) * g.D * x + g * x.D, by rw [Semiring.pow_succ]; exact rg⟩
theorem sqf_quot [Fld K] {f d q : Pol K} (hf : f ≠ 0) (hd : Gcd d f f.D) (e : f = q * d) : SqF q := fun g hg hq => by
  obtain ⟨k, h1, h2⟩ := mult_ex hg hf
  obtain ⟨x, hx⟩ := hq
  have hk : 2 ≤ k := Classical.byContradiction fun h0 => h2 (by
    refine (pow_le_dv g (show k + 1 ≤ 2 by omega)).trans ?_
    rw [show g ^ 2 = g * g by rw [show (2 : Nat) = 1 + 1 from rfl, Semiring.pow_succ, show (1 : Nat) = 0 + 1 from rfl, Semiring.pow_succ, Semiring.pow_zero]; exact rg]
    exact ⟨x * d, by rw [e, hx]; exact rg⟩)
  obtain ⟨j, rfl⟩ : ∃ j, k = j + 1 := ⟨k - 1, by omega⟩
  obtain ⟨y, hy⟩ := hd.2.2 _ ((pow_le_dv g (Nat.le_succ j)).trans h1) (pow_dv_D h1)
  exact h2 ⟨x * y, by rw [e, hx, hy, Semiring.pow_succ, Semiring.pow_succ]; exact rg⟩
theorem D_lt {f : Pol K} {n : Nat} (h : Lt f (n + 1)) : Lt f.D n := fun k hk => by
  rw [D_c, h (k + 1) (by omega)]
  exact rg
/-- What is left when all factors of f / gcd(f, f') are taken out has the derivative 0. -/
theorem rest_D [Fld K] {f d q r m : Pol K} (hf : f ≠ 0) (hd : Gcd d f f.D) (e : f = q * d) (e2 : f = r * m)
    (h1 : ∀ g, Irr g → Dv g q → ¬ Dv g r) (h2 : ∀ g, Irr g → Dv g m → Dv g q) : r.D = 0 := by
  refine Classical.byContradiction fun hr0 => ?_
  have hr : r ≠ 0 := fun e0 => hf (by rw [e2, e0]; exact rg)
  obtain ⟨n, hn⟩ := dg_ex hr
  obtain ⟨N, hN⟩ := r.D.fin
  obtain ⟨D, u, v, hD, hDr, hDr'⟩ := bezout N r r.D hN
  obtain ⟨s, hs⟩ := hDr
  have hD0 : D ≠ 0 := fun e0 => hr (by rw [hs, e0]; exact rg)
  obtain ⟨k', hk'⟩ := dg_ex hr0
  obtain ⟨kd, hkd⟩ := dg_ex hD0
  have hn1 : 1 ≤ n := Classical.byContradiction fun h0 => by
    rw [show n = 0 by omega] at hn
    exact hr0 (lt_zero (D_lt hn.2))
  have hk'n : k' < n := by
    obtain ⟨j, rfl⟩ : ∃ j, n = j + 1 := ⟨n - 1, by omega⟩
    exact hk'.lt (D_lt hn.2)
  have hle := hDr'.dg_le hkd hk'
  have hs0 : s ≠ 0 := fun e0 => hr (by rw [hs, e0]; exact rg)
  obtain ⟨ks, hks⟩ := dg_ex hs0
  have := (hkd.mul hks).uniq (by rw [← hs]; exact hn)
  obtain ⟨g, hg, hgs⟩ := irr_ex ks s (by omega) hks
  have hgr : Dv g r := by
    rw [hs]
    exact hgs.mulL D
  have hgq : ¬ Dv g q := fun h => h1 g hg h hgr
  have hgm : ¬ Dv g m := fun h => hgq (h2 g hg h)
  obtain ⟨k, hk1, hk2⟩ := mult_ex hg hr
  have hkf : Dv (g ^ k) f := by
    rw [e2]
    exact hk1.mulR m
  have hkd : Dv (g ^ k) d := pow_dv_mul hg hgq k (by rw [← e]; exact hkf)
  have hkD : Dv (g ^ k) f.D := hkd.trans hd.2.1
  have hkr' : Dv (g ^ k) r.D := by
    refine pow_dv_mul hg hgm k ?_
    have e3 : m * r.D = f.D - r * m.D := by rw [e2, D_mul]; exact rg
    rw [e3]
    exact hkD.sub (hk1.mulR _)
  obtain ⟨x, hx⟩ := hk1
  obtain ⟨y, hy⟩ := hkr'
  obtain ⟨z, hz⟩ := hgs
  refine hk2 ⟨(u * x + v * y) * z, ?_⟩
  rw [hs, hz, Semiring.pow_succ]
  have hDe : D = g ^ k * (u * x + v * y) := by
    rw [hD]
    have a1 : u * r = u * (g ^ k * x) := by rw [← hx]
    have a2 : v * r.D = v * (g ^ k * y) := by rw [← hy]
    rw [a1, a2]
    exact rg
  rw [hDe]
  exact rg
end
end Go.Proofs.Ytifaccppbhbfhaa.FX
