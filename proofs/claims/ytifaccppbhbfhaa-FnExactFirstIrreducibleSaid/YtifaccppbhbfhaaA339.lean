/- Several parts of the proof in one text; each part says what it shows. Nothing is assumed. -/
import Derived.Test.YtifaccppbhbfhaaA335
/- The numbers by a prime are a field; lists of numbers as polynomials by a prime. -/
namespace Go.Proofs.Ytifaccppbhbfhaa.FX
set_option linter.unusedVariables false
set_option linter.unusedSimpArgs false
/-- The numbers by p. -/
instance (p : Nat) [NeZero p] : CommRing (Fin p) where
  ofNat n := inferInstance
  natCast := ⟨fun n => Fin.ofNat p n⟩
  npow := inferInstance
  add_zero a := by grind
  add_comm a b := by grind
  add_assoc a b c := by grind
  mul_one a := by grind
  mul_comm a b := by grind
  mul_assoc a b c := by grind
  left_distrib a b c := by grind
  neg_add_cancel a := by grind
  sub_eq_add_neg a b := by grind
  pow_zero a := by grind
  pow_succ a n := by grind
  natCast_zero := rfl
  natCast_succ n := by
    apply Fin.ext
    show (n + 1) % p = (n % p + 1 % p) % p
    rw [Nat.add_mod]
  ofNat_eq n := rfl
/-- The integers. -/
instance : CommRing Int where
  ofNat n := inferInstance
  natCast := inferInstance
  npow := inferInstance
  add_zero := Int.add_zero
  add_comm := Int.add_comm
  add_assoc := Int.add_assoc
  mul_one := Int.mul_one
  mul_comm := Int.mul_comm
  mul_assoc := Int.mul_assoc
  left_distrib := Int.mul_add
  neg_add_cancel := Int.add_left_neg
  sub_eq_add_neg _ _ := Int.sub_eq_add_neg
  pow_zero := Int.pow_zero
  pow_succ a n := Int.pow_succ a n
  natCast_zero := rfl
  natCast_succ n := rfl
  ofNat_eq n := rfl
section
theorem nc_val {p : Nat} [NeZero p] (n : Nat) : ((n : Nat) : Fin p).val = n % p := rfl
theorem nc_zero (p : Nat) [NeZero p] {n : Nat} : ((n : Nat) : Fin p) = 0 ↔ n % p = 0 := by
  constructor
  · intro h
    have h1 := congrArg Fin.val h
    rw [nc_val] at h1
    rw [h1]
    exact Nat.zero_mod p
  · intro h
    apply Fin.ext
    rw [nc_val, h]
    exact (Nat.zero_mod p).symm
theorem natCast_val {p : Nat} [NeZero p] (a : Fin p) : ((a.val : Nat) : Fin p) = a := by
  apply Fin.ext
  show a.val % p = a.val
  exact Nat.mod_eq_of_lt a.isLt
theorem no_zero {p : Nat} [NeZero p] (hp : Prm p) {a b : Fin p} (h : a * b = 0) : a = 0 ∨ b = 0 := by
  rw [← natCast_val a, ← natCast_val b, ← Semiring.natCast_mul, nc_zero p] at h
  rcases hp.2 a.val b.val (Nat.dvd_of_mod_eq_zero h) with h1 | h1
  · left
    rw [← natCast_val a, nc_zero p]
    exact Nat.mod_eq_zero_of_dvd h1
  · right
    rw [← natCast_val b, nc_zero p]
    exact Nat.mod_eq_zero_of_dvd h1
theorem char_fin {p : Nat} [NeZero p] : ((p : Nat) : Fin p) = 0 := by
  rw [nc_zero p]
  exact Nat.mod_self p
/-- The numbers by a prime are a field of p elements. -/
theorem fin_fp {p : Nat} [NeZero p] (hp : Prm p) : Fp (Fin p) p where
  inv a ha := by
    obtain ⟨n, rfl⟩ : ∃ n, p = n + 2 := ⟨p - 2, by have := hp.1; omega⟩
    have hf := fermatN hp char_fin a.val
    rw [natCast_val] at hf
    refine ⟨a ^ n, ?_⟩
    have h1 : a * (a * a ^ n - 1) = 0 := by
      have : a * (a * a ^ n) = a ^ (n + 2) := by rw [Semiring.pow_succ, Semiring.pow_succ]; exact rg
      exact rh (this.trans hf) 1 rg
    rcases no_zero hp h1 with h2 | h2
    · exact absurd h2 ha
    · exact rh h2 1 rg
  one_ne h := by
    have h1 : ((1 : Nat) : Fin p) = 0 := by rw [Semiring.natCast_one]; exact h
    rw [nc_zero p, Nat.mod_eq_of_lt (by have := hp.1; omega)] at h1
    omega
  prm := hp
  char := char_fin
  nat a := ⟨a.val, a.isLt, (natCast_val a).symm⟩
variable (p : Nat) [NeZero p]
/-- A number by p. -/
def ci (x : Int) : Fin p := Fin.ofNat p (x % p).toNat
theorem ci_val (x : Int) : ((ci p x).val : Int) = x % p := by
  have h0 : (0 : Int) < p := by have := NeZero.ne p; omega
  have h1 := Int.emod_nonneg x (show (p : Int) ≠ 0 by omega)
  have h2 := Int.emod_lt_of_pos x h0
  show (((x % p).toNat % p : Nat) : Int) = x % p
  rw [Nat.mod_eq_of_lt (by omega)]
  omega
theorem ci_eq {x y : Int} : ci p x = ci p y ↔ x % p = y % p := by
  constructor
  · intro h
    rw [← ci_val, ← ci_val, h]
  · intro h
    unfold ci
    rw [h]
omit [NeZero p] in
theorem ci_ext {a b : Fin p} (h : (a.val : Int) = (b.val : Int)) : a = b := Fin.ext (by omega)
theorem ci_add (x y : Int) : ci p (x + y) = ci p x + ci p y := by
  apply ci_ext p
  rw [ci_val, Fin.val_add, Int.natCast_emod, Int.natCast_add, ci_val, ci_val, ← Int.add_emod]
theorem ci_mul (x y : Int) : ci p (x * y) = ci p x * ci p y := by
  apply ci_ext p
  rw [ci_val, Fin.val_mul, Int.natCast_emod, Int.natCast_mul, ci_val, ci_val, ← Int.mul_emod]
theorem ci_sub (x y : Int) : ci p (x - y) = ci p x - ci p y := by
  have h : ci p (x - y) + ci p y = ci p x := by rw [← ci_add, Int.sub_add_cancel]
  exact rh h 1 rg
theorem ci_zero {x : Int} : ci p x = 0 ↔ x % p = 0 := by
  constructor
  · intro h
    have h1 := ci_val p x
    rw [h] at h1
    rw [← h1]
    show (((0 % p : Nat)) : Int) = 0
    rw [Nat.zero_mod]; rfl
  · intro h
    apply ci_ext p
    rw [ci_val, h]
    show (0 : Int) = (((0 % p : Nat)) : Int)
    rw [Nat.zero_mod]; rfl
theorem ci_0 : ci p 0 = 0 := by rw [ci_zero]; simp
theorem ci_nat (n : Nat) : ci p (n : Int) = ((n : Nat) : Fin p) := by
  apply ci_ext p
  rw [ci_val, nc_val, Int.natCast_emod]
theorem ci_1 : ci p 1 = 1 := by
  have h := ci_nat p 1
  rw [Semiring.natCast_one] at h
  exact h
theorem ci_mod (x : Int) : ci p (x % p) = ci p x := by rw [ci_eq]; exact Int.emod_emod_of_dvd x (Int.dvd_refl _)
theorem ci_inj {x y : Int} (h1 : 0 ≤ x) (h2 : x < p) (h3 : 0 ≤ y) (h4 : y < p) (h : ci p x = ci p y) : x = y := by
  rw [ci_eq, Int.emod_eq_of_lt h1 h2, Int.emod_eq_of_lt h3 h4] at h
  exact h
/-- The polynomial of a list of coefficients. -/
def toP (l : List Int) : Pol (Fin p) := hor X (l.map (ci p))
theorem toP_c (l : List Int) (k : Nat) : (toP p l).c k = ci p (gt l k) := by
  unfold toP
  rw [hor_X_c]
  unfold gt
  rw [List.getD_eq_getElem?_getD, List.getD_eq_getElem?_getD, List.getElem?_map]
  cases l[k]?
  · exact (ci_0 p).symm
  · rfl
/-- Numbers from 0 to p - 1, the last one not 0. -/
def Can (l : List Int) : Prop := (∀ k, 0 ≤ gt l k ∧ gt l k < p) ∧ (0 < l.length → gt l (l.length - 1) ≠ 0)
theorem gt_big {l : List Int} {k : Nat} (h : l.length ≤ k) : gt l k = 0 := by
  unfold gt
  rw [List.getD_eq_getElem?_getD, List.getElem?_eq_none h]
  rfl
theorem toP_lt (l : List Int) : Lt (toP p l) l.length := fun k hk => by rw [toP_c, gt_big hk, ci_0]
theorem Can.dg {l : List Int} (h : Can p l) (h0 : 0 < l.length) : Dg (toP p l) (l.length - 1) := by
  refine ⟨fun e => ?_, by rw [show l.length - 1 + 1 = l.length by omega]; exact toP_lt p l⟩
  rw [toP_c, ci_zero, Int.emod_eq_of_lt (h.1 _).1 (h.1 _).2] at e
  exact h.2 h0 e
theorem Can.len_dg {l : List Int} {n : Nat} (h : Can p l) (hd : Dg (toP p l) n) : l.length = n + 1 := by
  have h0 : 0 < l.length := Nat.pos_of_ne_zero fun e => hd.1 (by rw [toP_c, gt_big (by omega), ci_0])
  have := (h.dg p h0).uniq hd
  omega
theorem Can.nil_iff {l : List Int} (h : Can p l) : toP p l = 0 ↔ l = [] := by
  constructor
  · intro e
    refine Classical.byContradiction fun hne => ?_
    exact (h.dg p (List.length_pos_iff.2 hne)).ne e
  · rintro rfl
    rfl
theorem gt_ext {a b : List Int} (hl : a.length = b.length) (h : ∀ k, gt a k = gt b k) : a = b := by
  refine List.ext_getElem hl fun k h1 h2 => ?_
  have := h k
  unfold gt at this
  rw [List.getD_eq_getElem?_getD, List.getD_eq_getElem?_getD, List.getElem?_eq_getElem h1, List.getElem?_eq_getElem h2] at this
  exact this
theorem Can.inj {a b : List Int} (ha : Can p a) (hb : Can p b) (h : toP p a = toP p b) : a = b := by
  have hk : ∀ k, gt a k = gt b k := fun k => ci_inj p (ha.1 k).1 (ha.1 k).2 (hb.1 k).1 (hb.1 k).2 (by rw [← toP_c, ← toP_c, h])
  refine gt_ext ?_ hk
  by_cases h0 : 0 < a.length
  · have := (ha.dg p h0)
    rw [h] at this
    have := hb.len_dg p this
    omega
  · have ea : a = [] := List.eq_nil_of_length_eq_zero (by omega)
    subst ea
    have : b = [] := (hb.nil_iff p).1 (by rw [← h]; rfl)
    rw [this]
end
end Go.Proofs.Ytifaccppbhbfhaa.FX
/- Lists as polynomials: products, sums, derivatives, powers p. -/
namespace Go.Proofs.Ytifaccppbhbfhaa.FX
set_option linter.unusedVariables false
set_option linter.unusedSimpArgs false
section
variable (p : Nat) [NeZero p]
theorem toP_ext {a b : List Int} (h : ∀ k, gt a k % p = gt b k % p) : toP p a = toP p b := Pol.ext fun k => by
  rw [toP_c, toP_c, ci_eq]
  exact h k
theorem ci_sm (n : Nat) (F : Nat → Int) : ci p (sm n F) = sm n (fun i => ci p (F i)) := by
  induction n with
  | zero => exact ci_0 p
  | succ n ih => unfold sm; rw [ci_add, ih]
/-- A list whose numbers are those of a product. -/
theorem toP_mul {f g h : List Int} (e : ∀ k, gt h k % p = sm (k + 1) (fun i => gt f i * gt g (k - i)) % p) : toP p h = toP p f * toP p g := Pol.ext fun k => by
  rw [toP_c, Pol.mul_c, (ci_eq p).2 (e k), ci_sm]
  exact sm_ext fun i _ => by rw [ci_mul, toP_c, toP_c]
theorem toP_add {f g h : List Int} (e : ∀ k, gt h k % p = (gt f k + gt g k) % p) : toP p h = toP p f + toP p g := Pol.ext fun k => by
  rw [toP_c, Pol.add_c, (ci_eq p).2 (e k), ci_add, toP_c, toP_c]
theorem toP_sub {f g h : List Int} (e : ∀ k, gt h k % p = (gt f k - gt g k) % p) : toP p h = toP p f - toP p g := Pol.ext fun k => by
  rw [toP_c, Pol.sub_c, (ci_eq p).2 (e k), ci_sub, toP_c, toP_c]
theorem toP_D {f h : List Int} (e : ∀ k, gt h k % p = (((k + 1 : Nat) : Int) * gt f (k + 1)) % p) : toP p h = (toP p f).D := Pol.ext fun k => by
  rw [toP_c, D_c, (ci_eq p).2 (e k), ci_mul, toP_c, ci_nat]
theorem toP_one : toP p [1] = 1 := Pol.ext fun k => by
  rw [toP_c, Pol.one_def, Pol.const_c]
  cases k with
  | zero => rw [if_pos rfl]; exact ci_1 p
  | succ k => rw [if_neg (by omega), gt_big (by simp), ci_0]
theorem toP_num (a : Int) : toP p [a] = Pol.const (ci p a) := Pol.ext fun k => by
  rw [toP_c, Pol.const_c]
  cases k with
  | zero => rw [if_pos rfl]; rfl
  | succ k => rw [if_neg (by omega), gt_big (by simp), ci_0]
theorem toP_X : toP p [0, 1] = X := Pol.ext fun k => by
  rw [toP_c]
  show _ = if k = 1 then (1 : Fin p) else 0
  match k with
  | 0 => rw [if_neg (by omega)]; exact ci_0 p
  | 1 => rw [if_pos rfl]; exact ci_1 p
  | k + 2 => rw [if_neg (by omega), gt_big (by simp), ci_0]
end
section
variable {K : Type} [CommRing K]
theorem Xn_mul (n : Nat) : ∀ (f : Pol K) (k : Nat), (X ^ n * f).c k = if n ≤ k then f.c (k - n) else 0 := by
  induction n with
  | zero => intro f k; rw [Semiring.pow_zero, show (1 : Pol K) * f = f by exact rg, if_pos (Nat.zero_le _)]; rfl
  | succ n ih =>
    intro f k
    rw [Semiring.pow_succ, show (X ^ n * X * f : Pol K) = X ^ n * (X * f) by exact rg, ih, X_mul]
    by_cases h : n + 1 ≤ k
    · rw [if_pos (by omega), if_pos (by omega), if_pos h, Nat.sub_sub]
    · rw [if_neg h]
      split
      · rw [if_neg (by omega)]
      · rfl
theorem hor_Xn {p : Nat} (hp : 1 ≤ p) : ∀ (l : List K) (k : Nat), (hor (X ^ p) l).c k = if k % p = 0 then l.getD (k / p) 0 else 0
  | [], k => by
    unfold hor
    rw [Pol.zero_c]
    simp
  | a :: l, k => by
    unfold hor
    rw [Pol.add_c, Xn_mul, Pol.const_c]
    by_cases h0 : k = 0
    · subst h0
      rw [if_pos rfl, if_neg (by omega), if_pos (Nat.zero_mod p), Nat.zero_div]
      simp
      exact rg
    · rw [if_neg h0]
      by_cases h1 : p ≤ k
      · rw [if_pos h1, hor_Xn hp l, Nat.mod_eq_sub_mod h1, Nat.div_eq_sub_div hp h1, List.getD_cons_succ]
        split <;> exact rg
      · rw [if_neg h1, if_neg (by rw [Nat.mod_eq_of_lt (by omega)]; exact h0)]
        exact rg
end
section
variable (p : Nat) [NeZero p]
/-- A polynomial with the derivative 0 is the power p of the list of every p-th of its numbers. -/
theorem root_pow (hp : Prm p) {f r : List Int} (h : (toP p f).D = 0) (e : ∀ k, gt r k = gt f (k * p)) : toP p f = toP p r ^ p := by
  have hF := fin_fp (p := p) hp
  have h1 : 1 ≤ p := by have := hp.1; omega
  have hpw : toP p r ^ p = hor (X ^ p) (r.map (ci p)) := hor_pow (p := p) X _
  rw [hpw]
  refine Pol.ext fun k => ?_
  rw [hor_Xn h1, toP_c]
  by_cases hk : k % p = 0
  · rw [if_pos hk]
    have e1 : (r.map (ci p)).getD (k / p) 0 = ci p (gt r (k / p)) := by
      unfold gt
      rw [List.getD_eq_getElem?_getD, List.getD_eq_getElem?_getD, List.getElem?_map]
      cases r[k / p]?
      · exact (ci_0 p).symm
      · rfl
    rw [e1, e, Nat.div_mul_cancel (Nat.dvd_of_mod_eq_zero hk)]
  · rw [if_neg hk]
    obtain ⟨j, rfl⟩ : ∃ j, k = j + 1 := ⟨k - 1, by
      have : k ≠ 0 := fun e0 => hk (by rw [e0, Nat.zero_mod])
      omega⟩
    have h2 := congrArg (fun f => f.c j) h
    simp only [D_c, Pol.zero_c, toP_c] at h2
    rcases no_zero hp h2 with h3 | h3
    · rw [nc_zero p] at h3
      exact absurd h3 hk
    · exact h3
end
end Go.Proofs.Ytifaccppbhbfhaa.FX
/- The order of polynomials; the list of all factors is one. -/
namespace Go.Proofs.Ytifaccppbhbfhaa.FX
set_option linter.unusedVariables false
set_option linter.unusedSimpArgs false
section
/-- The order of polynomials: by degree, then by the highest number in which they differ. -/
def LessP (a b : List Int) : Prop := a.length < b.length ∨ (a.length = b.length ∧ ∃ k, gt a k < gt b k ∧ ∀ j, k < j → gt a j = gt b j)
theorem LessP.irr {a : List Int} : ¬ LessP a a := fun h => by
  rcases h with h | ⟨_, k, h, _⟩ <;> omega
theorem LessP.trans {a b c : List Int} (h : LessP a b) (h' : LessP b c) : LessP a c := by
  rcases h with h | ⟨h0, k, hk, hj⟩
  · rcases h' with h' | ⟨h0', _⟩
    · exact .inl (by omega)
    · exact .inl (by omega)
  · rcases h' with h' | ⟨h0', k', hk', hj'⟩
    · exact .inl (by omega)
    · refine .inr ⟨by omega, ?_⟩
      by_cases e : k < k'
      · exact ⟨k', by rw [hj k' e]; exact hk', fun j h => by rw [hj j (by omega), hj' j h]⟩
      · by_cases e2 : k' < k
        · exact ⟨k, by rw [← hj' k e2]; exact hk, fun j h => by rw [hj j h, hj' j (by omega)]⟩
        · obtain rfl : k = k' := by omega
          exact ⟨k, by omega, fun j h => by rw [hj j h, hj' j h]⟩
theorem LessP.asymm {a b : List Int} (h : LessP a b) : ¬ LessP b a := fun h' => LessP.irr (h.trans h')
/-- Two lists in strict order with the same members are one. -/
theorem sorted_uniq {α : Type} {R : α → α → Prop} (hi : ∀ a, ¬ R a a) (ha : ∀ a b, R a b → ¬ R b a) : ∀ l m : List α, l.Pairwise R → m.Pairwise R → (∀ x, x ∈ l ↔ x ∈ m) → l = m
  | [], [], _, _, _ => rfl
  | [], b :: m, _, _, h => absurd ((h b).2 List.mem_cons_self) (by simp)
  | a :: l, [], _, _, h => absurd ((h a).1 List.mem_cons_self) (by simp)
  | a :: l, b :: m, hl, hm, h => by
    rw [List.pairwise_cons] at hl hm
    have e : a = b := by
      rcases List.mem_cons.1 ((h a).1 List.mem_cons_self) with h1 | h1
      · exact h1
      · rcases List.mem_cons.1 ((h b).2 List.mem_cons_self) with h2 | h2
        · exact h2.symm
        · exact absurd (hl.1 b h2) (ha _ _ (hm.1 a h1))
    subst e
    rw [sorted_uniq hi ha l m hl.2 hm.2 fun x => ⟨fun hx => by
      rcases List.mem_cons.1 ((h x).1 (List.mem_cons_of_mem _ hx)) with h1 | h1
      · subst h1; exact absurd (hl.1 x hx) (hi x)
      · exact h1, fun hx => by
      rcases List.mem_cons.1 ((h x).2 (List.mem_cons_of_mem _ hx)) with h1 | h1
      · subst h1; exact absurd (hm.1 x hx) (hi x)
      · exact h1⟩]
variable (p : Nat) [NeZero p]
/-- A monic irreducible polynomial. -/
def MI (g : List Int) : Prop := Can p g ∧ gt g (g.length - 1) = 1 ∧ Irr (toP p g)
/-- g occurs t times in f. -/
def Occ (f : Pol (Fin p)) (g : List Int) (t : Nat) : Prop := MI p g ∧ 1 ≤ t ∧ Dv (toP p g ^ t) f ∧ ¬ Dv (toP p g ^ (t + 1)) f
/-- The list of the factors, in order. -/
def FAC (f : Pol (Fin p)) (L : List (List Int × Nat)) : Prop := L.Pairwise (fun a b => LessP a.1 b.1) ∧ ∀ g t, (g, t) ∈ L ↔ Occ p f g t
theorem FAC.uniq {f : Pol (Fin p)} {L M : List (List Int × Nat)} (h : FAC p f L) (k : FAC p f M) : L = M :=
  sorted_uniq (R := fun a b : List Int × Nat => LessP a.1 b.1) (fun _ => LessP.irr) (fun _ _ h => LessP.asymm h) L M h.1 k.1 fun x => by
    obtain ⟨g, t⟩ := x
    rw [h.2, k.2]
theorem mult_uniq {K : Type} [CommRing K] {g f : Pol K} {s t : Nat} (h1 : Dv (g ^ s) f) (h2 : ¬ Dv (g ^ (s + 1)) f) (h3 : Dv (g ^ t) f) (h4 : ¬ Dv (g ^ (t + 1)) f) : s = t := by
  by_cases h : s < t
  · exact absurd ((pow_le_dv g h).trans h3) h2
  · by_cases h' : t < s
    · exact absurd ((pow_le_dv g h').trans h1) h4
    · omega
/-- A factor that one part has not occurs in the other part as often. -/
theorem occ_other (hp : Prm p) {f r m : Pol (Fin p)} (e : f = r * m) {g : List Int} {t : Nat} (hm : ¬ Dv (toP p g) m) : Occ p f g t ↔ Occ p r g t := by
  have hF := fin_fp (p := p) hp
  subst e
  constructor
  · rintro ⟨hg, h1, h2, h3⟩
    exact ⟨hg, h1, pow_dv_mul hg.2.2 hm t (by rw [show m * r = r * m by exact rg]; exact h2), fun h => h3 (h.mulR m)⟩
  · rintro ⟨hg, h1, h2, h3⟩
    exact ⟨hg, h1, h2.mulR m, fun h => h3 (pow_dv_mul hg.2.2 hm (t + 1) (by rw [show m * r = r * m by exact rg]; exact h))⟩
theorem irr_pow {K : Type} [CommRing K] [Fld K] {g h : Pol K} (hg : Irr g) : ∀ n : Nat, Dv g (h ^ n) → Dv g h
  | 0, hd => by
    rw [Semiring.pow_zero] at hd
    obtain ⟨⟨n, h1, hn⟩, _⟩ := hg
    have := hd.dg_le hn (one_dg (K := K))
    omega
  | n + 1, hd => by
    rw [Semiring.pow_succ] at hd
    rcases hg.euclid hd with h1 | h1
    · exact irr_pow hg n h1
    · exact h1
theorem pow_mul' {R : Type} [CommRing R] (a : R) (m n : Nat) : (a ^ m) ^ n = a ^ (m * n) := by
  induction n with
  | zero => rw [Nat.mul_zero, Semiring.pow_zero, Semiring.pow_zero]
  | succ n ih => rw [Semiring.pow_succ, ih, Nat.mul_succ, Semiring.pow_add]
/-- In a power n each factor occurs n times as often. -/
theorem occ_pow (hp : Prm p) {f : Pol (Fin p)} (hf : f ≠ 0) {n : Nat} (hn : 1 ≤ n) {g : List Int} {t : Nat} : Occ p (f ^ n) g t ↔ ∃ s, t = s * n ∧ Occ p f g s := by
  have hF := fin_fp (p := p) hp
  have key : ∀ s : Nat, Irr (toP p g) → Dv (toP p g ^ s) f → ¬ Dv (toP p g ^ (s + 1)) f → Dv (toP p g ^ (s * n)) (f ^ n) ∧ ¬ Dv (toP p g ^ (s * n + 1)) (f ^ n) := fun s hg h1 h2 => by
    obtain ⟨h, rfl⟩ := h1
    have hgh : ¬ Dv (toP p g) h := fun hd => by
      obtain ⟨x, hx⟩ := hd
      exact h2 ⟨x, by rw [hx, Semiring.pow_succ]; exact rg⟩
    rw [mul_pow', pow_mul']
    refine ⟨⟨h ^ n, rfl⟩, fun hd => ?_⟩
    obtain ⟨x, hx⟩ := hd
    have e : h ^ n = toP p g * x := by
      refine cancel (pow_ne hg.ne (s * n)) ?_
      rw [hx, Semiring.pow_succ]
      exact rg
    exact hgh (irr_pow hg n ⟨x, e⟩)
  constructor
  · rintro ⟨hg, h1, h2, h3⟩
    obtain ⟨s, hs1, hs2⟩ := mult_ex hg.2.2 hf
    obtain ⟨k1, k2⟩ := key s hg.2.2 hs1 hs2
    have e := mult_uniq h2 h3 k1 k2
    refine ⟨s, e, hg, ?_, hs1, hs2⟩
    refine Nat.pos_of_ne_zero fun e0 => ?_
    rw [e0, Nat.zero_mul] at e
    omega
  · rintro ⟨s, rfl, hg, h1, h2, h3⟩
    obtain ⟨k1, k2⟩ := key s hg.2.2 h2 h3
    exact ⟨hg, Nat.mul_pos h1 hn, k1, k2⟩
end
end Go.Proofs.Ytifaccppbhbfhaa.FX
/- Kernels: what reduced rows tell. -/
namespace Go.Proofs.Ytifaccppbhbfhaa.FX
set_option linter.unusedVariables false
set_option linter.unusedSimpArgs false
section
variable {K : Type} [CommRing K]
/-- A polynomial's own power p, less itself. -/
def Phi (p : Nat) (v : Pol K) : Pol K := v ^ p - v
theorem Phi_add {p : Nat} [Fp K p] (u v : Pol K) : Phi p (u + v) = Phi p u + Phi p v := by
  unfold Phi
  rw [frob (Fp.prm K) (char_pol Fp.char)]
  exact rg
theorem Phi_num {p : Nat} [Fp K p] (c : K) (v : Pol K) : Phi p (Pol.const c * v) = Pol.const c * Phi p v := by
  unfold Phi
  rw [mul_pow', ← const_pow, fermat]
  exact rg
theorem Phi_zero {p : Nat} [Fp K p] : Phi p (0 : Pol K) = 0 := by
  unfold Phi
  rw [zero_pow' (by have := (Fp.prm K : Prm p).1; omega)]
  exact rg
theorem Phi_sm {p : Nat} [Fp K p] (n : Nat) (F : Nat → Pol K) : Phi p (sm n F) = sm n (fun i => Phi p (F i)) := by
  induction n with
  | zero => exact Phi_zero
  | succ n ih => unfold sm; rw [Phi_add, ih]
theorem dv_sm {f : Pol K} (n : Nat) (F : Nat → Pol K) (h : ∀ i, i < n → Dv f (F i)) : Dv f (sm n F) := by
  induction n with
  | zero => exact dv_zero f
  | succ n ih => exact (ih fun i hi => h i (by omega)).add (h n (by omega))
theorem lt_sm {m : Nat} (n : Nat) (F : Nat → Pol K) (h : ∀ i, i < n → Lt (F i) m) : Lt (sm n F) m := by
  induction n with
  | zero => exact zero_lt m
  | succ n ih => exact (ih fun i hi => h i (by omega)).add (h n (by omega))
theorem sm_c (n : Nat) (F : Nat → Pol K) (k : Nat) : (sm n F).c k = sm n (fun i => (F i).c k) := by
  induction n with
  | zero => exact Pol.zero_c k
  | succ n ih => unfold sm; rw [Pol.add_c, ih]
theorem Lt.num {f : Pol K} {n : Nat} (h : Lt f n) (c : K) : Lt (Pol.const c * f) n := fun k hk => by rw [Pol.const_mul, h k hk]; exact rg
/-- What f divides and is of lesser degree is 0. -/
theorem dv_lt [Fld K] {f v : Pol K} {n : Nat} (hf : Dg f n) (hd : Dv f v) (hv : Lt v n) : v = 0 := Classical.byContradiction fun h0 => by
  obtain ⟨m, hm⟩ := dg_ex h0
  have h1 := hd.dg_le hf hm
  have h2 := hm.lt hv
  omega
/-- The rows (A | B) are reduced: if the rows without a pivot show numbers alone, the kernel is the numbers. -/
theorem ker_nil {p : Nat} [Fp K p] {f : Pol K} {n : Nat} (hf : Dg f n) (A B : Nat → Pol K) (used : Nat → Bool) (col : Nat → Nat)
    (h1 : ∀ i, i < n → Lt (A i) n ∧ Dv f (Phi p (B i) - A i))
    (h2 : ∀ v, Lt v n → ∃ c : Nat → K, v = sm n (fun i => Pol.const (c i) * B i))
    (h3 : ∀ i, i < n → used i = true → (A i).c (col i) ≠ 0 ∧ ∀ j, j < n → j ≠ i → (A j).c (col i) = 0)
    (h4 : ∀ i, i < n → used i = false → A i = 0 ∧ Lt (B i) 1) {v : Pol K} (hv : Lt v n) (hk : Dv f (Phi p v)) : Lt v 1 := by
  obtain ⟨c, hc⟩ := h2 v hv
  have e1 : Phi p v = sm n (fun i => Pol.const (c i) * Phi p (B i)) := by
    rw [hc, Phi_sm]
    exact sm_ext fun i _ => Phi_num _ _
  have e2 : Dv f (sm n (fun i => Pol.const (c i) * A i)) := by
    have h5 : Dv f (sm n (fun i => Pol.const (c i) * (Phi p (B i) - A i))) := dv_sm n _ fun i hi => (h1 i hi).2.mulL _
    have h6 : sm n (fun i => Pol.const (c i) * Phi p (B i)) = sm n (fun i => Pol.const (c i) * (Phi p (B i) - A i)) + sm n (fun i => Pol.const (c i) * A i) := sm_addC n _ _ _ fun i _ => by exact rg
    have h7 : sm n (fun i => Pol.const (c i) * A i) = Phi p v - sm n (fun i => Pol.const (c i) * (Phi p (B i) - A i)) := by rw [e1, h6]; exact rg
    rw [h7]
    exact hk.sub h5
  have e3 := dv_lt hf e2 (lt_sm n _ fun i hi => (h1 i hi).1.num _)
  have hcu : ∀ i, i < n → used i = true → c i = 0 := fun i hi hu => by
    obtain ⟨hp1, hp2⟩ := h3 i hi hu
    have h5 := congrArg (fun f => f.c (col i)) e3
    simp only [sm_c, Pol.zero_c, Pol.const_mul] at h5
    rw [sm_one (j := i) hi (fun j hj hne => by rw [hp2 j hj hne]; exact rg)] at h5
    exact Classical.byContradiction fun h0 => mul_ne h0 hp1 h5
  rw [hc]
  refine lt_sm n _ fun i hi => ?_
  cases hu : used i
  · exact (h4 i hi hu).2.num _
  · rw [hcu i hi hu, const_zero]
    intro k hk
    rw [show (0 : Pol K) * B i = 0 by exact rg, Pol.zero_c]
/-- What the basis of the kernel says of a part, all of the kernel says. -/
theorem num_sm {P : Pol K} (n : Nat) (B : Nat → Pol K) (c : Nat → K) (h : ∀ i, i < n → ∃ a : K, Dv P (B i - Pol.const a)) : ∃ a : K, Dv P (sm n (fun i => Pol.const (c i) * B i) - Pol.const a) := by
  induction n with
  | zero => exact ⟨0, by rw [const_zero]; unfold sm; rw [show (0 : Pol K) - 0 = 0 by exact rg]; exact dv_zero P⟩
  | succ n ih =>
    obtain ⟨a, ha⟩ := ih fun i hi => h i (by omega)
    obtain ⟨b, hb⟩ := h n (by omega)
    refine ⟨a + c n * b, ?_⟩
    unfold sm
    rw [const_add, const_mulC]
    have := ha.add (hb.mulL (Pol.const (c n)))
    rw [show sm n (fun i => Pol.const (c i) * B i) + Pol.const (c n) * B n - (Pol.const a + Pol.const (c n) * Pol.const b) = sm n (fun i => Pol.const (c i) * B i) - Pol.const a + Pol.const (c n) * (B n - Pol.const b) by exact rg]
    exact this
end
end Go.Proofs.Ytifaccppbhbfhaa.FX
