/- Several parts of the proof in one text; each part says what it shows. Nothing is assumed. -/
import Derived.Test.YtifaccppbhbfhaaA339
import Derived.Test.YtifaccppbhbfhaaA121
import Derived.Test.YtifaccppbhbfhaaA43
/- Lists of the program as polynomials by a prime: products, sums, ends without zeros; primes. -/
namespace Go.Proofs.Ytifaccppbhbfhaa.FX
set_option linter.unusedVariables false
set_option linter.unusedSimpArgs false
theorem toP_trim (p : Nat) [NeZero p] (f : List Int) : toP p (trimL f) = toP p f := toP_ext p fun k => by rw [gt_trim]
theorem mulS_sm (f g : List Int) : ∀ i j, i ≤ f.length → gt (mulS f g i) j = sm i (fun t => if t ≤ j then gt f t * gt g (j - t) else 0)
  | 0, j, _ => by rw [mulS, gt_rep]; rfl
  | i + 1, j, h => by
    rw [mulS, stepM_gt _ _ _ _ _ _ (by rw [mulS_len]; omega), mulS_sm f g i j (by omega)]
    show _ = sm i _ + (if i ≤ j then gt f i * gt g (j - i) else 0)
    by_cases h1 : i ≤ j
    · rw [if_pos h1]
      by_cases h2 : j < i + g.length
      · rw [if_pos ⟨h1, h2⟩]
      · rw [if_neg (by omega), gt_big (l := g) (by omega), Int.mul_zero]
    · rw [if_neg h1, if_neg (by omega)]
theorem sm_more {K : Type} [CommRing K] (n m : Nat) (F : Nat → K) (h : ∀ i, n ≤ i → F i = 0) : sm (n + m) F = sm n F := by
  induction m with
  | zero => rfl
  | succ m ih =>
    show sm (n + m) F + F (n + m) = _
    rw [ih, h (n + m) (by omega)]
    exact rg
theorem mulL_sm (f g : List Int) (k : Nat) : gt (mulL f g) k = sm (k + 1) (fun i => gt f i * gt g (k - i)) := by
  rw [mulL, gt_trim, mulS_sm f g _ k (Nat.le_refl _)]
  rw [← sm_more f.length (k + 1) _ (fun i hi => by rw [gt_big (l := f) hi, Int.zero_mul]; split <;> rfl)]
  rw [Nat.add_comm, sm_more (k + 1) f.length _ (fun i hi => by rw [if_neg (by omega)])]
  exact sm_ext fun i hi => by rw [if_pos (by omega)]
theorem toP_mulL (p : Nat) [NeZero p] (f g : List Int) : toP p (mulL f g) = toP p f * toP p g := toP_mul p fun k => by rw [mulL_sm]
theorem toP_addL (p : Nat) [NeZero p] (f g : List Int) : toP p (addL f g) = toP p f + toP p g := toP_add p fun k => by rw [addL_gt]
end Go.Proofs.Ytifaccppbhbfhaa.FX
/- Primes and inverses by a prime. -/
namespace Go.Proofs.Ytifaccppbhbfhaa.FX
set_option linter.unusedVariables false
set_option linter.unusedSimpArgs false
/-- The number of Bezout is an inverse. -/
theorem bzx_dvd (a m : Nat) : ∀ N r s : Nat, s ≤ N → ∀ x u : Int, (m : Int) ∣ x * a - r → (m : Int) ∣ u * a - s → (m : Int) ∣ bzx r s x u * a - (Nat.gcd r s : Nat) := by
  intro N
  induction N with
  | zero =>
    intro r s hs x u h1 h2
    obtain rfl : s = 0 := by omega
    rw [bzx_0, Nat.gcd_zero_right]; exact h1
  | succ N ih =>
    intro r s hs x u h1 h2
    by_cases h0 : s = 0
    · subst h0; rw [bzx_0, Nat.gcd_zero_right]; exact h1
    · rw [bzx_s _ _ h0, Nat.gcd_comm r s, Nat.gcd_rec s r, Nat.gcd_comm]
      have hm := Nat.mod_lt r (show 0 < s by omega)
      refine ih s (r % s) (by omega) u _ h2 ?_
      have e : (x - ((r / s : Nat) : Int) * u) * a - ((r % s : Nat) : Int) = (x * a - r) - ((r / s : Nat) : Int) * (u * a - s) := by
        have h3 := sub_div_mul r s
        rw [← h3, Int.natCast_ediv, Int.sub_mul, Int.mul_sub, Int.mul_assoc]
        omega
      rw [e]
      exact Int.dvd_sub h1 (Int.dvd_mul_of_dvd_right h2)
theorem invM_dvd (a m : Nat) (hg : Nat.gcd a m = 1) : (m : Int) ∣ invM a m * a - 1 := by
  have h := bzx_dvd a m m a m (Nat.le_refl _) 1 0 (by simp) (by simp [Int.dvd_neg])
  rw [hg] at h
  unfold invM
  have h2 : (m : Int) ∣ bzx a m 1 0 - bzx a m 1 0 % (m : Int) := Int.dvd_self_sub_emod
  have e : bzx a m 1 0 % (m : Int) * a - 1 = (bzx a m 1 0 * a - 1) - (bzx a m 1 0 - bzx a m 1 0 % (m : Int)) * a := by
    rw [Int.sub_mul]; omega
  rw [e]
  exact Int.dvd_sub h (Int.dvd_mul_of_dvd_left h2)
/-- A small prime. -/
theorem prm_of {p : Int} (h : smallB p = true) : ∃ P : Nat, p = (P : Int) ∧ Prm P ∧ 2 ≤ P ∧ P ≤ 97 := by
  have hb := smallB_t h
  have hp := smallB_prime h
  obtain ⟨P, rfl⟩ : ∃ P : Nat, p = P := ⟨p.toNat, by omega⟩
  exact ⟨P, rfl, ⟨by omega, fun a b hd => prime_mul hp hd⟩, by omega, by omega⟩
theorem prm_cop {p a : Nat} (hp : Prm p) (h1 : 0 < a) (h2 : a < p) : Nat.gcd a p = 1 := by
  obtain ⟨k, hk⟩ := Nat.gcd_dvd_right a p
  rcases hp.2 (Nat.gcd a p) k ⟨1, by omega⟩ with h | h
  · have h3 := Nat.le_of_dvd (Nat.gcd_pos_of_pos_left _ h1) h
    have h4 := Nat.le_of_dvd h1 (Nat.gcd_dvd_left a p)
    omega
  · have hk0 : 0 < k := Nat.pos_of_ne_zero fun e => by rw [e, Nat.mul_zero] at hk; omega
    have h3 := Nat.le_of_dvd hk0 h
    have hg := Nat.gcd_pos_of_pos_left p h1
    refine Classical.byContradiction fun hne => ?_
    have : 2 * k ≤ Nat.gcd a p * k := Nat.mul_le_mul_right k (by omega)
    omega
theorem inv_bd (a p : Nat) (h : 0 < p) : 0 ≤ invM a p ∧ invM a p < p := ⟨Int.emod_nonneg _ (by omega), Int.emod_lt_of_pos _ (by omega)⟩
/-- The program's inverse is one. -/
theorem inv_ci (p : Nat) [NeZero p] (hp : Prm p) {a : Nat} (h1 : 0 < a) (h2 : a < p) : ci p (invM a p) * ci p (a : Int) = 1 := by
  have h := invM_dvd a p (prm_cop hp h1 h2)
  rw [← ci_mul, ← ci_1 p, ci_eq]
  exact Int.emod_eq_emod_iff_emod_sub_eq_zero.2 (Int.emod_eq_zero_of_dvd h)
end Go.Proofs.Ytifaccppbhbfhaa.FX
/- Each irreducible polynomial has a monic list; common divisors stay the same by a division. -/
namespace Go.Proofs.Ytifaccppbhbfhaa.FX
set_option linter.unusedVariables false
set_option linter.unusedSimpArgs false
section
variable {K : Type} [CommRing K]
/-- One step of Euclid. -/
theorem cd_step {f g q r : Pol K} (e : f = q * g + r) (d : Pol K) : (Dv d f ∧ Dv d g) ↔ (Dv d g ∧ Dv d r) := by
  constructor
  · rintro ⟨h1, h2⟩
    refine ⟨h2, ?_⟩
    have : r = f - q * g := by rw [e]; exact rg
    rw [this]
    exact h1.sub (h2.mulL q)
  · rintro ⟨h1, h2⟩
    rw [e]
    exact ⟨(h1.mulL q).add h2, h1⟩
theorem dv_num {a b : K} (h : a * b = 1) (f d : Pol K) : Dv d (Pol.const a * f) ↔ Dv d f := by
  constructor
  · intro h1
    have : f = Pol.const b * (Pol.const a * f) := by
      have e : Pol.const b * Pol.const a = (1 : Pol K) := by rw [← const_mulC, show b * a = 1 from rh h 1 rg, Pol.one_def]
      exact rh e (-f) rg
    rw [this]
    exact h1.mulL _
  · intro h1
    exact h1.mulL _
theorem num_dv {a b : K} (h : a * b = 1) (f d : Pol K) : Dv (Pol.const a * f) d ↔ Dv f d := by
  have e : Pol.const b * Pol.const a = (1 : Pol K) := by rw [← const_mulC, show b * a = 1 from rh h 1 rg, Pol.one_def]
  constructor
  · rintro ⟨x, hx⟩
    exact ⟨Pol.const a * x, by rw [hx]; exact rg⟩
  · rintro ⟨x, hx⟩
    exact ⟨Pol.const b * x, by rw [hx]; exact rh e (-(f * x)) rg⟩
theorem dg_num [Fld K] {a : K} (h : a ≠ 0) {f : Pol K} {n : Nat} (hf : Dg f n) : Dg (Pol.const a * f) n := by
  refine ⟨by rw [Pol.const_mul]; exact mul_ne h hf.1, hf.2.num a⟩
theorem irr_num [Fld K] {a b : K} (h : a * b = 1) {f : Pol K} (hf : Irr f) : Irr (Pol.const a * f) := by
  have ha : a ≠ 0 := fun e => Fld.one_ne (K := K) (by rw [← h, e]; exact rg)
  have hb : b ≠ 0 := fun e => Fld.one_ne (K := K) (by rw [← h, e]; exact rg)
  have e : Pol.const b * Pol.const a = (1 : Pol K) := by rw [← const_mulC, show b * a = 1 from rh h 1 rg, Pol.one_def]
  obtain ⟨⟨n, h1, hn⟩, h2⟩ := hf
  refine ⟨⟨n, h1, dg_num ha hn⟩, fun x y hxy => ?_⟩
  rcases h2 (Pol.const b * x) y (by
    have : f = Pol.const b * (Pol.const a * f) := rh e (-f) rg
    rw [this, hxy]
    exact rg) with h3 | h3
  · left
    have h4 := dg_num ha h3
    rw [show Pol.const a * (Pol.const b * x) = x from rh e x rg] at h4
    exact h4
  · exact .inr h3
end
section
variable (p : Nat) [NeZero p]
/-- The list of a polynomial. -/
def ofP (f : Pol (Fin p)) (n : Nat) : List Int := (List.range n).map fun k => ((f.c k).val : Int)
theorem ofP_gt (f : Pol (Fin p)) (n k : Nat) : gt (ofP p f n) k = if k < n then ((f.c k).val : Int) else 0 := by
  unfold gt ofP
  rw [List.getD_eq_getElem?_getD, List.getElem?_map]
  by_cases h : k < n
  · rw [List.getElem?_range h, if_pos h]; rfl
  · rw [List.getElem?_eq_none (by rw [List.length_range]; omega), if_neg h]; rfl
theorem ofP_toP {f : Pol (Fin p)} {n : Nat} (h : Lt f n) : toP p (ofP p f n) = f := Pol.ext fun k => by
  rw [toP_c, ofP_gt]
  split
  · rw [ci_nat, natCast_val]
  · rw [ci_0, h k (by omega)]
theorem ofP_can {f : Pol (Fin p)} {n : Nat} (h : Dg f n) : Can p (ofP p f (n + 1)) := by
  refine ⟨fun k => ?_, fun _ e => ?_⟩
  · rw [ofP_gt]
    split
    · have := (f.c k).isLt; omega
    · have := NeZero.ne p; omega
  · rw [show (ofP p f (n + 1)).length = n + 1 by simp [ofP], ofP_gt, if_pos (by omega), Nat.add_sub_cancel] at e
    refine h.1 ?_
    rw [← natCast_val (f.c n), show (f.c n).val = 0 by omega, Semiring.natCast_zero]
/-- Each irreducible polynomial is a number times a monic one, which is a list. -/
theorem irr_list (hp : Prm p) {g : Pol (Fin p)} (hg : Irr g) : ∃ l, MI p l ∧ (∀ d, Dv g d ↔ Dv (toP p l) d) := by
  have hF := fin_fp (p := p) hp
  obtain ⟨n, h1, hn⟩ := hg.1
  obtain ⟨b, hb⟩ := Fld.inv (g.c n) hn.1
  have hb' : b * g.c n = 1 := rh hb 1 rg
  have hb0 : b ≠ 0 := fun e => Fld.one_ne (K := Fin p) (by rw [← hb', e]; exact rg)
  have hd := dg_num hb0 hn
  have he := ofP_toP p hd.2
  have hc := ofP_can p hd
  refine ⟨ofP p (Pol.const b * g) (n + 1), ⟨hc, ?_, by rw [he]; exact irr_num hb' hg⟩, fun d => by rw [he]; exact (num_dv hb' g d).symm⟩
  refine ci_inj p (hc.1 _).1 (hc.1 _).2 (by omega) (by have := hp.1; omega) ?_
  rw [← toP_c, he, ci_1, show (ofP p (Pol.const b * g) (n + 1)).length - 1 = n by simp [ofP], Pol.const_mul]
  exact hb'
/-- A monic irreducible list that divides another is it. -/
theorem MI.eq (hp : Prm p) {a b : List Int} (ha : MI p a) (hb : MI p b) (h : Dv (toP p a) (toP p b)) : a = b := by
  have hF := fin_fp (p := p) hp
  obtain ⟨x, hx⟩ := h
  rcases hb.2.2.2 _ _ hx with h1 | h1
  · obtain ⟨⟨n, hn1, hn⟩, _⟩ := ha.2.2
    have := hn.uniq h1
    omega
  · have hxc := dg_const h1
    obtain ⟨m, hm1, hm⟩ := ha.2.2.1
    have hla := ha.1.len_dg p hm
    have hlb := hb.1.len_dg p (by rw [hx]; exact hm.mul h1)
    have e1 : (toP p b).c m = (toP p a).c m * x.c 0 := by
      rw [hx, hxc, show toP p a * Pol.const (x.c 0) = Pol.const (x.c 0) * toP p a by exact rg, Pol.const_mul, Pol.const_c, if_pos rfl]
      exact rg
    have e2 : (toP p a).c m = 1 := by rw [toP_c, show m = a.length - 1 by omega, ha.2.1, ci_1]
    have e3 : (toP p b).c m = 1 := by rw [toP_c, show m = b.length - 1 by omega, hb.2.1, ci_1]
    rw [e2, e3] at e1
    have hx1 : x = 1 := by
      rw [hxc, ← show (1 : Fin p) = x.c 0 from rh e1 1 rg, Pol.one_def]
    refine ha.1.inj p hb.1 ?_
    rw [hx, hx1]
    exact rg
end
end Go.Proofs.Ytifaccppbhbfhaa.FX
/- Factors are taken out one by one; what is left of a pass. -/
namespace Go.Proofs.Ytifaccppbhbfhaa.FX
set_option linter.unusedVariables false
set_option linter.unusedSimpArgs false
section
variable (p : Nat) [NeZero p]
theorem Occ.dv {f : Pol (Fin p)} {g : List Int} {t : Nat} (h : Occ p f g t) : Dv (toP p g) f := (pow_dv _ h.2.1).trans h.2.2.1
theorem occ_one (hp : Prm p) {g : List Int} {t : Nat} : ¬ Occ p (1 : Pol (Fin p)) g t := fun h => by
  have hF := fin_fp (p := p) hp
  obtain ⟨⟨n, h1, hn⟩, _⟩ := h.1.2.2
  have := (Occ.dv p h).dg_le hn (one_dg (K := Fin p))
  omega
/-- One more factor, as often as it goes. -/
theorem occ_step (hp : Prm p) {m : Pol (Fin p)} {g : List Int} {t : Nat} (hg : MI p g) (ht : 1 ≤ t) (hm : ¬ Dv (toP p g) m) {h : List Int} {s : Nat} :
    Occ p (m * toP p g ^ t) h s ↔ Occ p m h s ∨ (h = g ∧ s = t) := by
  have hF := fin_fp (p := p) hp
  by_cases e : h = g
  · subst e
    have k1 : Dv (toP p h ^ t) (m * toP p h ^ t) := ⟨m, by exact rg⟩
    have k2 : ¬ Dv (toP p h ^ (t + 1)) (m * toP p h ^ t) := fun hd => by
      obtain ⟨x, hx⟩ := hd
      refine hm ⟨x, cancel (pow_ne hg.2.2.ne t) ?_⟩
      rw [Semiring.pow_succ] at hx
      exact rh hx 1 rg
    constructor
    · rintro ⟨_, _, h3, h4⟩
      exact .inr ⟨rfl, mult_uniq h3 h4 k1 k2⟩
    · rintro (h3 | ⟨_, rfl⟩)
      · exact absurd (Occ.dv p h3) hm
      · exact ⟨hg, ht, k1, k2⟩
  · have hn : MI p h → ¬ Dv (toP p h) (toP p g ^ t) := fun hh hd => e (hh.eq p hp hg (irr_pow hh.2.2 t hd))
    constructor
    · intro h3
      exact .inl ((occ_other p hp rfl (hn h3.1)).1 h3)
    · rintro (h3 | ⟨h4, _⟩)
      · exact (occ_other p hp rfl (hn h3.1)).2 h3
      · exact absurd h4 e
/-- The factors of a product whose parts have none in common. -/
theorem occ_parts (hp : Prm p) {f r m : Pol (Fin p)} (e : f = r * m) (h : ∀ g, MI p g → Dv (toP p g) m → ¬ Dv (toP p g) r) {g : List Int} {t : Nat} :
    Occ p f g t ↔ Occ p m g t ∨ Occ p r g t := by
  by_cases hm : MI p g ∧ Dv (toP p g) m
  · have hr := h g hm.1 hm.2
    constructor
    · intro h1
      exact .inl ((occ_other p hp (show f = m * r by rw [e]; exact rg) hr).1 h1)
    · rintro (h1 | h1)
      · exact (occ_other p hp (show f = m * r by rw [e]; exact rg) hr).2 h1
      · exact absurd (Occ.dv p h1) hr
  · constructor
    · intro h1
      exact .inr ((occ_other p hp e (fun hd => hm ⟨h1.1, hd⟩)).1 h1)
    · rintro (h1 | h1)
      · exact absurd ⟨h1.1, Occ.dv p h1⟩ hm
      · exact (occ_other p hp e (fun hd => hm ⟨h1.1, hd⟩)).2 h1
/-- What a pass leaves has the derivative 0. -/
theorem pass_D (hp : Prm p) {f d q r m : Pol (Fin p)} (hf : f ≠ 0) (hd : Gcd d f f.D) (e : f = q * d) (e2 : f = r * m)
    (h1 : ∀ g, MI p g → Dv (toP p g) q → ¬ Dv (toP p g) r) (h2 : ∀ g, MI p g → Dv (toP p g) m → Dv (toP p g) q) : r.D = 0 := by
  have hF := fin_fp (p := p) hp
  refine rest_D hf hd e e2 (fun g hg hq => ?_) (fun g hg hm => ?_)
  · obtain ⟨l, hl, hi⟩ := irr_list p hp hg
    rw [hi] at hq ⊢
    exact h1 l hl hq
  · obtain ⟨l, hl, hi⟩ := irr_list p hp hg
    rw [hi] at hm ⊢
    exact h2 l hl hm
/-- The list of the factors of a product: of its two parts, put in order. -/
theorem fac_of {f : Pol (Fin p)} {L : List (List Int × Nat)} (ho : L.Pairwise (fun a b => LessP a.1 b.1)) (h : ∀ g t, (g, t) ∈ L ↔ Occ p f g t) : FAC p f L := ⟨ho, h⟩
/-- A polynomial's list is not empty, its members are not alike. -/
theorem fac_ex (hp : Prm p) {f : Pol (Fin p)} {n : Nat} (h1 : 1 ≤ n) (hn : Dg f n) {L : List (List Int × Nat)} (h : FAC p f L) : L ≠ [] := by
  have hF := fin_fp (p := p) hp
  obtain ⟨g, hg, hd⟩ := irr_ex n f h1 hn
  obtain ⟨l, hl, hi⟩ := irr_list p hp hg
  obtain ⟨k, hk1, hk2⟩ := mult_ex hl.2.2 hn.ne
  have hk : 1 ≤ k := Nat.pos_of_ne_zero fun e => by
    subst e
    refine hk2 ?_
    rw [show toP p l ^ (0 + 1) = toP p l by rw [Semiring.pow_succ, Semiring.pow_zero]; exact rg]
    exact (hi f).1 hd
  intro e
  have := (h.2 l k).2 ⟨hl, hk, hk1, hk2⟩
  rw [e] at this
  simp at this
end
end Go.Proofs.Ytifaccppbhbfhaa.FX
/- Parts of a polynomial: when all are irreducible, they are its monic irreducible divisors, each once. -/
namespace Go.Proofs.Ytifaccppbhbfhaa.FX
set_option linter.unusedVariables false
set_option linter.unusedSimpArgs false
section
variable (p : Nat) [NeZero p]
/-- Monic parts of a degree of at least 1 that hold all of f's factors, and no two the same one. -/
def PT (f : Pol (Fin p)) (Q : List (List Int)) : Prop :=
  (∀ P ∈ Q, Can p P ∧ gt P (P.length - 1) = 1 ∧ 2 ≤ P.length ∧ Dv (toP p P) f) ∧ (∀ g, MI p g → Dv (toP p g) f → ∃ P ∈ Q, Dv (toP p g) (toP p P)) ∧
  Q.Pairwise (fun P P' => ∀ g, MI p g → Dv (toP p g) (toP p P) → ¬ Dv (toP p g) (toP p P'))
theorem PT.all (hp : Prm p) {f : Pol (Fin p)} {Q : List (List Int)} (h : PT p f Q) (hi : ∀ P ∈ Q, Irr (toP p P)) : (∀ g, g ∈ Q ↔ MI p g ∧ Dv (toP p g) f) ∧ Q.Nodup := by
  refine ⟨fun g => ⟨fun hg => ?_, fun ⟨hg, hd⟩ => ?_⟩, ?_⟩
  · obtain ⟨h1, h2, _, h4⟩ := h.1 g hg
    exact ⟨⟨h1, h2, hi g hg⟩, h4⟩
  · obtain ⟨P, hP, hd2⟩ := h.2.1 g hg hd
    obtain ⟨h1, h2, _, _⟩ := h.1 P hP
    rw [hg.eq p hp ⟨h1, h2, hi P hP⟩ hd2]
    exact hP
  · rw [List.nodup_iff_pairwise_ne]
    refine List.Pairwise.imp_of_mem (fun {a b} ha _ hne e => ?_) h.2.2
    subst e
    obtain ⟨h1, h2, _, _⟩ := h.1 a ha
    exact hne a ⟨h1, h2, hi a ha⟩ (Dv.refl _) (Dv.refl _)
/-- One part alone. -/
theorem PT.one {f : List Int} (hc : Can p f) (hm : gt f (f.length - 1) = 1) (hl : 2 ≤ f.length) : PT p (toP p f) [f] := by
  refine ⟨fun P hP => ?_, fun g _ hd => ⟨f, List.mem_singleton.2 rfl, hd⟩, List.pairwise_singleton _ _⟩
  rw [List.mem_singleton] at hP
  subst hP
  exact ⟨hc, hm, hl, Dv.refl _⟩
/-- v less different numbers has no common factor. -/
theorem num_apart (hp : Prm p) {g : List Int} (hg : MI p g) {v : Pol (Fin p)} {a b : Fin p} (hne : a ≠ b) (h : Dv (toP p g) (v - Pol.const a)) : ¬ Dv (toP p g) (v - Pol.const b) := fun h2 => by
  have hF := fin_fp (p := p) hp
  have h3 := h2.sub h
  rw [show v - Pol.const b - (v - Pol.const a) = Pol.const a - Pol.const b by exact rg, ← const_sub] at h3
  obtain ⟨⟨n, h1, hn⟩, _⟩ := hg.2.2
  have := h3.dg_le hn (show Dg (Pol.const (a - b)) 0 from ⟨by rw [Pol.const_c, if_pos rfl]; intro e; exact hne (rh e 1 rg), fun k hk => by rw [Pol.const_c, if_neg (by omega)]⟩)
  omega
end
end Go.Proofs.Ytifaccppbhbfhaa.FX
