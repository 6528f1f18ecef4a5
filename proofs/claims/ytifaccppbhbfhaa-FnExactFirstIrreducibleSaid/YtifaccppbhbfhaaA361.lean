/- The program's kernel: plain part; rows that are made one by one. -/
import Derived.Test.YtifaccppbhbfhaaA360
namespace Go.Proofs.Ytifaccppbhbfhaa
set_option linter.unusedVariables false
set_option linter.unusedSimpArgs false
open Go.RowKit

section
variable (P : Nat) [NeZero P]
/-- The columns below i are laid. -/
def MZ (f : List Int) (n : Nat) (R : Nat → List Int) (i : Nat) : Prop := ∃ img : Nat → List Int, (∀ j, j < i → PWQ P f [0, 1] (j * P) (img j) ∧ ∀ r, r < n → gt (R r) j = if r = j then (gt (img j) r - 1) % (P : Int) else gt (img j) r) ∧ ∀ j, i ≤ j → ∀ r, r < n → gt (R r) j = 0
theorem MZ.start (f : List Int) (n : Nat) {R : Nat → List Int} (h : ∀ r, r < n → R r = List.replicate n 0) : MZ P f n R 0 := ⟨fun _ => [], fun j hj => by omega, fun j _ r hr => by rw [h r hr, gt_rep]⟩
theorem MZ.step {f : List Int} {n i : Nat} {R R' : Nat → List Int} {im : List Int} (h : MZ P f n R i) (hq : PWQ P f [0, 1] (i * P) im) (h1 : ∀ r, r < n → ∀ j, gt (R' r) j = if j = i then (if r = i then (gt im r - 1) % (P : Int) else gt im r) else gt (R r) j) : MZ P f n R' (i + 1) := by
  obtain ⟨img, h2, h3⟩ := h
  refine ⟨upd img i im, fun j hj => ?_, fun j hj r hr => ?_⟩
  · by_cases e : j = i
    · rw [e, upd_same]
      exact ⟨hq, fun r hr => by rw [h1 r hr, if_pos rfl]⟩
    · rw [upd_ne _ _ e]
      refine ⟨(h2 j (by omega)).1, fun r hr => ?_⟩
      rw [h1 r hr, if_neg e]
      exact (h2 j (by omega)).2 r hr
  · rw [h1 r hr, if_neg (by omega)]
    exact h3 j (by omega) r hr
theorem MZ.bd {f : List Int} {n : Nat} {R : Nat → List Int} (h : MZ P f n R n) (hl : ∀ r, r < n → (R r).length = n) : ∀ r, r < n → Bd P (R r) := fun r hr k => by
  have := Nat.pos_of_ne_zero (NeZero.ne P)
  obtain ⟨img, h2, h3⟩ := h
  by_cases hk : k < n
  · rw [(h2 k hk).2 r hr]
    split
    · exact mod_bd P _
    · exact (h2 k hk).1.1.1 r
  · rw [gt_big (by rw [hl r hr]; omega)]; omega
theorem sm_mono {n : Nat} {v : FX.Pol (Fin P)} (hv : FX.Lt v n) : v = FX.sm n fun i => FX.Pol.const (v.c i) * FX.mono 1 i := by
  refine FX.Pol.ext fun k => ?_
  rw [FX.sm_c]
  by_cases hk : k < n
  · rw [FX.sm_one (j := k) hk (fun i _ hne => by
      rw [FX.Pol.const_mul]
      show _ * (if k = i then (1 : Fin P) else 0) = 0
      rw [if_neg (fun e => hne e.symm)]; exact FX.rg), FX.Pol.const_mul]
    show _ = _ * (if k = k then (1 : Fin P) else 0)
    rw [if_pos rfl]; exact FX.rg
  · rw [hv k (by omega), FX.sm_zero (fun i hi => by
      rw [FX.Pol.const_mul]
      show _ * (if k = i then (1 : Fin P) else 0) = 0
      rw [if_neg (by omega)]; exact FX.rg)]
theorem km_of (hp : FX.Prm P) {f : List Int} {n : Nat} {R : Nat → List Int} (hf : FX.Dg (FX.toP P f) n) (hfl : f.length = n + 1) (h : MZ P f n R n) (u : FX.Pol (Fin P)) (hu : FX.Lt u n) : (∀ r, r < n → ZR P n (R r) u) ↔ FX.Dv (FX.toP P f) (FX.Phi P u) := by
  have hF := FX.fin_fp (p := P) hp
  obtain ⟨img, h2, _⟩ := h
  have hC : ∀ j, j < n → FX.Lt (FX.toP P (img j) - FX.mono 1 j) n ∧ FX.Dv (FX.toP P f) (FX.Phi P (FX.mono 1 j) - (FX.toP P (img j) - FX.mono 1 j)) := fun j hj => by
    obtain ⟨g1, g2, g3⟩ := (h2 j hj).1
    refine ⟨fun k hk => ?_, ?_⟩
    · rw [FX.Pol.sub_c, FX.toP_c, gt_big (by omega), FX.ci_0]
      show _ - (if k = j then (1 : Fin P) else 0) = 0
      rw [if_neg (by omega)]; exact FX.rg
    · rw [mono_X]
      unfold FX.Phi
      rw [FX.pow_mul', show FX.X ^ (j * P) - FX.X ^ j - (FX.toP P (img j) - FX.X ^ j) = FX.X ^ (j * P) - FX.toP P (img j) by exact FX.rg, ← FX.toP_X]
      exact g3
  have hS : FX.Lt (FX.sm n fun j => FX.Pol.const (u.c j) * (FX.toP P (img j) - FX.mono 1 j)) n := FX.lt_sm n _ fun j hj => (hC j hj).1.num _
  have hD : FX.Dv (FX.toP P f) (FX.Phi P u - FX.sm n fun j => FX.Pol.const (u.c j) * (FX.toP P (img j) - FX.mono 1 j)) := by
    have e : FX.Phi P u = FX.sm n fun j => FX.Pol.const (u.c j) * FX.Phi P (FX.mono 1 j) := by
      conv => lhs; rw [sm_mono P hu]
      rw [FX.Phi_sm]
      exact FX.sm_ext fun j _ => FX.Phi_num _ _
    rw [e]
    have e2 := FX.sm_addC n (fun j => FX.Pol.const (u.c j) * (FX.Phi P (FX.mono 1 j) - (FX.toP P (img j) - FX.mono 1 j))) (fun j => FX.Pol.const (u.c j) * (FX.toP P (img j) - FX.mono 1 j)) (fun j => FX.Pol.const (u.c j) * FX.Phi P (FX.mono 1 j)) (fun j _ => by exact FX.rg)
    rw [e2]
    have h5 := FX.dv_sm n (fun j => FX.Pol.const (u.c j) * (FX.Phi P (FX.mono 1 j) - (FX.toP P (img j) - FX.mono 1 j))) fun j hj => (hC j hj).2.mulL _
    refine (show ∀ a b : FX.Pol (Fin P), FX.Dv (FX.toP P f) a → FX.Dv (FX.toP P f) (a + b - b) from fun a b h => by rwa [show a + b - b = a by exact FX.rg]) _ _ h5
  have hc : ∀ r, r < n → (FX.sm n fun j => FX.Pol.const (u.c j) * (FX.toP P (img j) - FX.mono 1 j)).c r = dotR P n (R r) u := fun r hr => by
    rw [FX.sm_c]
    unfold dotR
    refine FX.sm_ext fun j hj => ?_
    rw [FX.Pol.const_mul, FX.Pol.sub_c, FX.toP_c, (h2 j hj).2 r hr]
    show u.c j * (_ - if r = j then (1 : Fin P) else 0) = _
    by_cases e : r = j
    · rw [if_pos e, if_pos e, FX.ci_mod, FX.ci_sub, FX.ci_1]; exact FX.rg
    · rw [if_neg e, if_neg e]; exact FX.rg
  generalize (FX.sm n fun j => FX.Pol.const (u.c j) * (FX.toP P (img j) - FX.mono 1 j)) = S at *
  constructor
  · intro h1
    have hS0 : S = 0 := FX.Pol.ext fun k => by
      rw [FX.Pol.zero_c]
      by_cases hk : k < n
      · rw [hc k hk]; exact h1 k hk
      · exact hS k (by omega)
    rw [hS0] at hD
    rwa [show FX.Phi P u - 0 = FX.Phi P u by exact FX.rg] at hD
  · intro h1 r hr
    have h3 := h1.sub hD
    rw [show FX.Phi P u - (FX.Phi P u - S) = S by exact FX.rg] at h3
    have hS0 := FX.dv_lt hf h3 hS
    unfold ZR
    rw [← hc r hr, hS0, FX.Pol.zero_c]
/-- A basis of the polynomials that f takes from their powers of P. -/
def KBQ (f : List Int) (n : Nat) (bl : List (List Int)) : Prop :=
  (∀ v ∈ bl, FX.Can P v ∧ v.length ≤ n ∧ FX.Dv (FX.toP P f) (FX.Phi P (FX.toP P v))) ∧
  ∀ Q : FX.Pol (Fin P), (∀ v ∈ bl, ∃ a : Fin P, FX.Dv Q (FX.toP P v - FX.Pol.const a)) → ∀ u : FX.Pol (Fin P), FX.Lt u n → FX.Dv (FX.toP P f) (FX.Phi P u) → ∃ a : Fin P, FX.Dv Q (u - FX.Pol.const a)
theorem kbq_of (hp : FX.Prm P) {f : List Int} {n : Nat} {R : Nat → List Int} {bl : List (List Int)} (hf : FX.Dg (FX.toP P f) n) (hfl : f.length = n + 1) (h : MZ P f n R n) (hb : BS P n R bl) : KBQ P f n bl := by
  refine ⟨fun v hv => ?_, fun Q hQ u hu hd => ?_⟩
  · obtain ⟨h1, h2, h3⟩ := hb.1 v hv
    exact ⟨h1, h2, (km_of P hp hf hfl h _ ((FX.toP_lt P v).mono h2)).1 h3⟩
  · exact hb.2 Q hQ u hu ((km_of P hp hf hfl h u hu).2 hd)
end
/-- One more row. -/
theorem MX.add {w : World} {base hb i m g : Nat} {b : Nat → Nat} {R : Nat → List Int} {l : List Int} {u : Value} (h : MX w base hb b R i m) (hc : w.cell? ⟨hb, i, none⟩ = some u) (hg : base ≤ g) (hgh : g ≠ hb) (hgb : ∀ k, k < i → b k ≠ g) (hl : OS w g l) (hlen : l.length = m) : MX (w.setCell ⟨hb, i, none⟩ (.slice (some ⟨g, 0, none⟩) m m)) base hb (upd b i g) (upd R i l) (i + 1) m := by
  refine ⟨?_, fun k hk => ?_, fun k j hk hj e => ?_⟩
  · obtain ⟨cs, h1, h2⟩ := h.hs
    refine ⟨_, h1.set i _, fun j hj => ?_⟩
    rw [h1.cell] at hc
    have hsz : i < cs.size := by
      rcases Nat.lt_or_ge i cs.size with h4 | h4
      · exact h4
      · rw [Array.getElem?_eq_none h4] at hc; cases hc
    rw [Array.getElem?_setIfInBounds]
    by_cases e : i = j
    · subst e; rw [if_pos rfl, if_pos hsz, upd_same]
    · rw [if_neg e, upd_ne _ _ (fun e2 => e e2.symm)]; exact h2 j (by omega)
  · by_cases e : k = i
    · rw [e, upd_same, upd_same]
      exact ⟨hg, hgh, hl.far (fun e => hgh e) _, hlen⟩
    · rw [upd_ne _ _ e, upd_ne _ _ e]
      obtain ⟨r1, r2, r3, r4⟩ := h.row k (by omega)
      exact ⟨r1, r2, r3.far (fun e => r2 e) _, r4⟩
  · by_cases e1 : k = i
    · by_cases e2 : j = i
      · omega
      · rw [e1, upd_same, upd_ne _ _ e2] at e
        exact absurd e.symm (hgb j (by omega))
    · by_cases e2 : j = i
      · rw [e2, upd_same, upd_ne _ _ e1] at e
        exact absurd e (hgb k (by omega))
      · rw [upd_ne _ _ e1, upd_ne _ _ e2] at e
        exact h.inj k j (by omega) (by omega) e
end Go.Proofs.Ytifaccppbhbfhaa
