/- Several parts of the proof in one text; each part says what it shows. Nothing is assumed. -/
import Derived.Test.YtifaccppbhbfhaaA373
/- The program's factors, plain part: lists that are not in order yet. -/
namespace Go.Proofs.Ytifaccppbhbfhaa
set_option linter.unusedVariables false
set_option linter.unusedSimpArgs false
open Go.RowKit

section
variable (P : Nat) [NeZero P]
/-- A pass over the parts Q without an order; fr is what is left. -/
def PSU (F0 : FX.Pol (Fin P)) (Q : List (List Int)) (i : Nat) (fr : List Int) (Li : List (List Int × Nat)) : Prop :=
  FX.Can P fr ∧ 0 < fr.length ∧ gt fr (fr.length - 1) = 1 ∧ ∃ m, F0 = FX.toP P fr * m ∧ (∀ g, FX.MI P g → FX.Dv (FX.toP P g) m → ∃ j, j < i ∧ g = gl Q j) ∧ (∀ j, j < i → ¬ FX.Dv (FX.toP P (gl Q j)) (FX.toP P fr)) ∧ (∀ g t, (g, t) ∈ Li ↔ FX.Occ P m g t) ∧ (Li.map (·.1)).Nodup
theorem PSU.start (hp : FX.Prm P) {fr : List Int} {Q : List (List Int)} (hc : FX.Can P fr) (h0 : 0 < fr.length) (hm : gt fr (fr.length - 1) = 1) : PSU P (FX.toP P fr) Q 0 fr [] :=
  ⟨hc, h0, hm, 1, by exact FX.rg, fun g hg hd => by
    have hF := FX.fin_fp (p := P) hp
    obtain ⟨⟨n, h1, hn⟩, _⟩ := hg.2.2
    have := hd.dg_le hn (FX.one_dg (K := Fin P))
    omega, fun j hj => by omega, fun g t => ⟨fun h => by simp at h, fun h => absurd h (FX.occ_one P hp)⟩, List.nodup_nil⟩
theorem PSU.step (hp : FX.Prm P) {F0 : FX.Pol (Fin P)} {Q : List (List Int)} {Li : List (List Int × Nat)} {i c : Nat} {fr fr' : List Int} (h : PSU P F0 Q i fr Li) (hQn : Q.Nodup) (hQm : ∀ g ∈ Q, FX.MI P g ∧ FX.Dv (FX.toP P g) F0) (hi : i < Q.length) (hc : PSC P fr (gl Q i) c fr') (hnd : ¬ FX.Dv (FX.toP P (gl Q i)) (FX.toP P fr')) : PSU P F0 Q (i + 1) fr' (Li ++ [(gl Q i, c)]) ∧ 1 ≤ c := by
  have hF := FX.fin_fp (p := P) hp
  obtain ⟨g1, g2, g3, m, e, hm1, hm2, hfq, hnd0⟩ := h
  obtain ⟨c1, c2, c3, c4⟩ := hc
  obtain ⟨hqm, hqd⟩ := hQm _ (gl_mem hi)
  have hqmm : ¬ FX.Dv (FX.toP P (gl Q i)) m := fun hd => by
    obtain ⟨j, hj, e2⟩ := hm1 _ hqm hd
    rw [List.nodup_iff_pairwise_ne] at hQn
    have h5 := List.pairwise_iff_getElem.1 hQn j i (by omega) hi hj
    apply h5
    have e3 : gl Q i = Q[i] := by unfold gl; rw [List.getD_eq_getElem?_getD, List.getElem?_eq_getElem hi]; rfl
    have e4 : gl Q j = Q[j]'(by omega) := by unfold gl; rw [List.getD_eq_getElem?_getD, List.getElem?_eq_getElem (by omega)]; rfl
    rw [← e3, ← e4]; exact e2.symm
  have hc1 : 1 ≤ c := Nat.pos_of_ne_zero fun h0 => by
    subst h0
    rw [FX.Semiring.pow_zero] at c4
    rw [e] at hqd
    rcases hqm.2.2.euclid hqd with h5 | h5
    · rw [c4, show FX.toP P fr' * 1 = FX.toP P fr' by exact FX.rg] at h5; exact hnd h5
    · exact hqmm h5
  have hocc := fun h s => FX.occ_step P hp (m := m) (g := gl Q i) (t := c) hqm hc1 hqmm (h := h) (s := s)
  refine ⟨⟨c1, c2, c3, m * FX.toP P (gl Q i) ^ c, ?_, fun g hg hd => ?_, fun j hj => ?_, fun g t => ?_, ?_⟩, hc1⟩
  · rw [e, c4]; exact FX.rg
  · rcases hg.2.2.euclid hd with h5 | h5
    · obtain ⟨j, hj, e2⟩ := hm1 g hg h5
      exact ⟨j, by omega, e2⟩
    · exact ⟨i, by omega, FX.MI.eq P hp hg hqm (FX.irr_pow hg.2.2 c h5)⟩
  · by_cases e2 : j = i
    · rw [e2]; exact hnd
    · intro hd
      refine hm2 j (by omega) ?_
      rw [c4]
      exact hd.mulR _
  · rw [List.mem_append, List.mem_singleton, hfq g t, hocc g t, Prod.mk.injEq]
  · rw [List.map_append, List.nodup_append]
    refine ⟨hnd0, by simp, fun x hx y hy exy => ?_⟩
    simp only [List.map_cons, List.map_nil, List.mem_singleton] at hy
    rw [List.mem_map] at hx
    obtain ⟨⟨xg, xt⟩, hx1, hx2⟩ := hx
    have hx3 : xg = gl Q i := by rw [← hy, ← exy]; exact hx2
    have := (hfq xg xt).1 hx1
    rw [hx3] at this
    exact hqmm (FX.Occ.dv P this)
/-- Before the root is looked at: what is left has no derivative. -/
def MET (F0 : FX.Pol (Fin P)) (fr : List Int) (L : List (List Int × Nat)) : Prop :=
  FX.Can P fr ∧ 0 < fr.length ∧ gt fr (fr.length - 1) = 1 ∧ (FX.toP P fr).D = 0 ∧ ∃ m, F0 = FX.toP P fr * m ∧ (∀ g, FX.MI P g → FX.Dv (FX.toP P g) m → ¬ FX.Dv (FX.toP P g) (FX.toP P fr)) ∧ (∀ g t, (g, t) ∈ L ↔ FX.Occ P m g t) ∧ (L.map (·.1)).Nodup
theorem MET.start (hp : FX.Prm P) {fr : List Int} (hc : FX.Can P fr) (h0 : 0 < fr.length) (hm : gt fr (fr.length - 1) = 1) (hD : (FX.toP P fr).D = 0) : MET P (FX.toP P fr) fr [] := by
  obtain ⟨a1, a2, a3, m, e, h1, h2, h3, h4⟩ := PSU.start P hp (Q := []) hc h0 hm
  exact ⟨a1, a2, a3, hD, m, e, fun g hg hd => by obtain ⟨j, hj, _⟩ := h1 g hg hd; omega, h3, h4⟩
theorem PSU.met (hp : FX.Prm P) {f d gg q r : List Int} {Q : List (List Int)} {fr : List Int} {L : List (List Int × Nat)} (h : PSU P (FX.toP P f) Q Q.length fr L) (hf : FX.toP P f ≠ 0) (hd : DVV P f d) (hg : CM P f d gg) (he : FX.toP P f = FX.toP P q * FX.toP P gg) (hQ : SPQ P q Q) : MET P (FX.toP P f) fr L := by
  obtain ⟨a1, a2, a3, m, e, h1, h2, h3, h4⟩ := h
  have hall : ∀ g, FX.MI P g → FX.Dv (FX.toP P g) m → ¬ FX.Dv (FX.toP P g) (FX.toP P fr) := fun g hg hdm => by
    obtain ⟨j, hj, rfl⟩ := h1 g hg hdm
    exact h2 j hj
  refine ⟨a1, a2, a3, ?_, m, e, hall, h3, h4⟩
  refine FX.pass_D P hp hf (d := FX.toP P gg) (q := FX.toP P q) (m := m) ?_ he e (fun g hgm hgq => ?_) (fun g hgm hgm2 => ?_)
  · rw [← hd.2.1]; exact hg.2.1
  · have := (hQ.1 g).2 ⟨hgm, hgq⟩
    obtain ⟨j, hj, rfl⟩ := List.getElem_of_mem this
    have e3 : gl Q j = Q[j] := by unfold gl; rw [List.getD_eq_getElem?_getD, List.getElem?_eq_getElem hj]; rfl
    rw [← e3]; exact h2 j hj
  · obtain ⟨j, hj, rfl⟩ := h1 g hgm hgm2
    exact ((hQ.1 _).1 (gl_mem hj)).2
/-- All factors, not in order. -/
def ALLF (F : FX.Pol (Fin P)) (L : List (List Int × Nat)) : Prop := (∀ g t, (g, t) ∈ L ↔ FX.Occ P F g t) ∧ (L.map (·.1)).Nodup
theorem MET.one (hp : FX.Prm P) {F0 : FX.Pol (Fin P)} {fr : List Int} {L : List (List Int × Nat)} (h : MET P F0 fr L) (h1 : fr.length = 1) : ALLF P F0 L := by
  obtain ⟨_, _, hm, _, m, e, _, h3, h4⟩ := h
  rw [toP_mon1 P h1 hm, show (1 : FX.Pol (Fin P)) * m = m by exact FX.rg] at e
  rw [e]; exact ⟨h3, h4⟩
theorem MET.root (hp : FX.Prm P) {F0 : FX.Pol (Fin P)} {fr rt : List Int} {L L2 : List (List Int × Nat)} (h : MET P F0 fr L) (hr : FX.toP P fr = FX.toP P rt ^ P) (h2 : FX.FAC P (FX.toP P rt) L2) : ALLF P F0 (L ++ L2.map fun x => (x.1, P * x.2)) := by
  have hF := FX.fin_fp (p := P) hp
  have hp2 : 2 ≤ P := hp.1
  obtain ⟨hc, h0, hm, _, m, e, hap, h3, h4⟩ := h
  have hne : FX.toP P rt ≠ 0 := fun e0 => (hc.dg P h0).ne (by rw [hr, e0]; exact FX.zero_pow' (by omega))
  have hpo := fun g t => FX.occ_pow P hp hne (n := P) (by omega) (g := g) (t := t)
  have hparts := fun g t => FX.occ_parts P hp e hap (g := g) (t := t)
  refine ⟨fun g t => ?_, ?_⟩
  · rw [List.mem_append, h3 g t, hparts g t, hr, hpo g t, List.mem_map]
    constructor
    · rintro (h5 | ⟨⟨x, s⟩, h5, h6⟩)
      · exact .inl h5
      · injection h6 with e1 e2
        have e1' : x = g := e1
        have e2' : P * s = t := e2
        exact .inr ⟨s, by rw [Nat.mul_comm]; exact e2'.symm, by rw [← e1']; exact (h2.2 x s).1 h5⟩
    · rintro (h5 | ⟨s, rfl, h5⟩)
      · exact .inl h5
      · exact .inr ⟨(g, s), (h2.2 g s).2 h5, by show (g, P * s) = _; rw [Nat.mul_comm]⟩
  · rw [List.map_append, List.nodup_append]
    refine ⟨h4, ?_, fun x hx y hy exy => ?_⟩
    · rw [List.map_map]
      have : (List.map ((fun x : List Int × Nat => x.1) ∘ fun x => (x.1, P * x.2)) L2) = L2.map (·.1) := rfl
      rw [this, List.nodup_iff_pairwise_ne, List.pairwise_map]
      refine List.Pairwise.imp (R := fun a b : List Int × Nat => FX.LessP a.1 b.1) ?_ h2.1
      intro a b hab e
      rw [e] at hab
      exact FX.LessP.irr hab
    · subst exy
      rw [List.mem_map] at hx hy
      obtain ⟨⟨xg, xt⟩, hx1, rfl⟩ := hx
      obtain ⟨⟨yg, yt⟩, hy1, hy2⟩ := hy
      rw [List.mem_map] at hy1
      obtain ⟨⟨zg, zt⟩, hz1, hz2⟩ := hy1
      injection hz2 with e1 e2
      have e1' : zg = yg := e1
      have hy2' : yg = xg := hy2
      have ho := (h3 xg xt).1 hx1
      have hz := (h2.2 zg zt).1 hz1
      refine hap xg ho.1 (FX.Occ.dv P ho) ?_
      rw [hr, ← hy2', ← e1']
      exact (FX.Occ.dv P hz).trans (FX.pow_dv _ (by omega))
/-- In order, they are the list of the factors. -/
theorem ALLF.fac {F : FX.Pol (Fin P)} {n : Nat} {E E0 : List FE} (h : ALLF P F (E0.map (·.2))) (hp : E.Perm E0) (hs : SRT n E) (hn : n = E.length) : FX.FAC P F (E.map (·.2)) := by
  refine ⟨?_, fun g t => ?_⟩
  · rw [List.pairwise_map, List.pairwise_iff_getElem]
    intro i j hi hj hij
    have := hs i j hij (by omega)
    unfold lessE at this
    rw [ge_at hi, ge_at hj] at this
    exact this
  · rw [(hp.map _).mem_iff]; exact h.1 g t
theorem occ_num (hp : FX.Prm P) {f l : List Int} (h : MN P f l) {g : List Int} {t : Nat} : FX.Occ P (FX.toP P l) g t ↔ FX.Occ P (FX.toP P f) g t := by
  obtain ⟨_, _, _, a, b, h1, h2⟩ := h
  unfold FX.Occ
  rw [h2, FX.dv_num h1, FX.dv_num h1]
end
end Go.Proofs.Ytifaccppbhbfhaa
/- Contract: the program's factors. -/
namespace Go.Proofs.Ytifaccppbhbfhaa
set_option linter.unusedVariables false
set_option linter.unusedSimpArgs false
open Go.RowKit

section
variable (P : Nat) [NeZero P]
theorem allf_len (hp : FX.Prm P) {F : FX.Pol (Fin P)} {n : Nat} {L : List (List Int × Nat)} (hF : FX.Dg F n) (h : ALLF P F L) : L.length ≤ n := by
  have hm : ∀ g ∈ L.map (·.1), FX.MI P g ∧ FX.Dv (FX.toP P g) F := fun g hg => by
    rw [List.mem_map] at hg
    obtain ⟨⟨x, t⟩, hx, rfl⟩ := hg
    have := (h.1 x t).1 hx
    exact ⟨this.1, FX.Occ.dv P this⟩
  have := apart_len P hp (L.map (·.1)) F n hF (fun g hg => ⟨(hm g hg).1.1, mi_two P hp (hm g hg).1, (hm g hg).2⟩) (mi_apart P hp (fun g hg => (hm g hg).1) h.2)
  rwa [List.length_map] at this
theorem allf_ne (hp : FX.Prm P) {F : FX.Pol (Fin P)} {n : Nat} {L : List (List Int × Nat)} (h1 : 1 ≤ n) (hF : FX.Dg F n) (h : ALLF P F L) : 0 < L.length := by
  have hFp := FX.fin_fp (p := P) hp
  obtain ⟨g, hg, hd⟩ := FX.irr_ex n F h1 hF
  obtain ⟨l, hl, hi⟩ := FX.irr_list P hp hg
  obtain ⟨k, hk1, hk2⟩ := FX.mult_ex hl.2.2 hF.ne
  have hk0 : 1 ≤ k := Nat.pos_of_ne_zero fun e => by
    rw [e, Nat.zero_add] at hk2
    exact hk2 (by rw [show FX.toP P l ^ 1 = FX.toP P l by rw [show (1 : Nat) = 0 + 1 from rfl, FX.Semiring.pow_succ, FX.Semiring.pow_zero]; exact FX.rg]; exact (hi _).1 hd)
  exact List.length_pos_of_mem ((h.1 l k).2 ⟨hl, hk0, hk1, hk2⟩)
theorem allf_bd (hp : FX.Prm P) {F : FX.Pol (Fin P)} {n : Nat} {L : List (List Int × Nat)} (hF : FX.Dg F n) (h : ALLF P F L) : ∀ x ∈ L, x.1.length ≤ n + 1 ∧ x.2 ≤ n := fun x hx => by
  have hFp := FX.fin_fp (p := P) hp
  obtain ⟨g, t⟩ := x
  obtain ⟨h1, h2, h3, _⟩ := (h.1 g t).1 hx
  have hl := mi_two P hp h1
  have hd := (h1.1.dg P (by omega)).pow t
  have h4 := h3.dg_le hd hF
  have h5 := ((FX.pow_dv _ h2).trans h3).dg_le (h1.1.dg P (by omega)) hF
  refine ⟨by show g.length ≤ n + 1; omega, ?_⟩
  show t ≤ n
  have : t * 1 ≤ t * (g.length - 1) := Nat.mul_le_mul_left _ (by omega)
  omega
theorem met_len (hp : FX.Prm P) {F : FX.Pol (Fin P)} {n : Nat} {fr : List Int} {L : List (List Int × Nat)} (hF : FX.Dg F n) (h : MET P F fr L) : L.length ≤ n := by
  have hFp := FX.fin_fp (p := P) hp
  obtain ⟨_, _, _, _, m, e, _, h3, h4⟩ := h
  have hm0 : m ≠ 0 := fun e0 => hF.ne (by rw [e, e0]; exact FX.rg)
  obtain ⟨k, hk⟩ := FX.dg_ex hm0
  have h5 := allf_len P hp hk ⟨h3, h4⟩
  have h6 := FX.Dv.dg_le (show FX.Dv m F from ⟨FX.toP P fr, by rw [e]; exact FX.rg⟩) hk hF
  omega
/-- Elements whose lists are own slices, none older than a base. -/
def EVB (w : World) (b : Nat) (E : List FE) : Prop := ∀ x ∈ E, ∃ (A : Option Addr) (c : Nat), x.1 = .slice A x.2.1.length c ∧ OAB w b A c x.2.1 ∧ x.2.1.length ≤ 100
theorem EVB.ev {w : World} {b : Nat} {E : List FE} (h : EVB w b E) : EV w E := fun x hx => by
  obtain ⟨A, cx, h1, h2, h3⟩ := h x hx
  exact ⟨A, cx, h1, h2.oa, h3⟩
theorem EVB.mono {w : World} {b b' : Nat} {E : List FE} (h : EVB w b E) (hb : b' ≤ b) : EVB w b' E := fun x hx => by
  obtain ⟨A, cx, h1, h2, h3⟩ := h x hx
  exact ⟨A, cx, h1, h2.mono hb, h3⟩
theorem EVB.grown {w w' : World} {b : Nat} {E : List FE} {base g n c size : Nat} {xs : List Value} (h : EVB w b E) (ho : w.ownsRow base 36 size (.slice (some ⟨g, 0, none⟩) n c) n xs) (hg : w.grownBy w' (some g)) : EVB w' b E := fun x hx => by
  obtain ⟨A, cx, h1, h2, h3⟩ := h x hx
  exact ⟨A, cx, h1, own_keep_own h2 ho hg (by decide), h3⟩
/-- What the program's factoring answers. -/
def FBR (f : List Int) (w : World) (e : Ending) (w' : World) : Prop :=
  ∃ (E : List FE) (g c n : Nat), n = E.length ∧ 0 < n ∧ n ≤ 8 ∧ (∀ x ∈ E, x.2.1.length ≤ 9 ∧ x.2.2 ≤ 8) ∧ FX.FAC P (FX.toP P f) (E.map (·.2)) ∧ e = .returned (.slice (some ⟨g, 0, none⟩) n c) ∧ w'.ownsRow w.heap.size 36 2 (.slice (some ⟨g, 0, none⟩) n c) n (eC E) ∧ EVB w' w.heap.size E ∧ Below w.heap.size w w'
theorem fbr_of (hp : FX.Prm P) {f fm : List Int} {E0 E9 : List FE} {n g c : Nat} {w w9 : World} (hf : FX.Can P f) (h2 : 2 ≤ f.length) (h9 : f.length ≤ 9) (hm : MN P f fm) (ha : ALLF P (FX.toP P fm) (E0.map (·.2))) (hpe : E9.Perm E0) (hs : SRT n E9) (hn : n = E0.length) (ho : w9.ownsRow w.heap.size 36 2 (.slice (some ⟨g, 0, none⟩) n c) n (eC E9)) (hv : EVB w9 w.heap.size E0) (hb : Below w.heap.size w w9) : FBR P f w (.returned (.slice (some ⟨g, 0, none⟩) n c)) w9 := by
  have hF := FX.fin_fp (p := P) hp
  have hdm := hm.1.dg P (by rw [hm.2.1]; omega)
  rw [hm.2.1] at hdm
  have h3 := allf_len P hp hdm ha
  have h4 := allf_ne P hp (by omega) hdm ha
  have h5 := allf_bd P hp hdm ha
  rw [List.length_map] at h3 h4
  have hfac := ha.fac P hpe hs (by rw [hpe.length_eq]; exact hn)
  refine ⟨E9, g, c, n, by rw [hpe.length_eq]; exact hn, by omega, by omega, fun x hx => ?_, ⟨hfac.1, fun g' t => ?_⟩, rfl, ho, fun x hx => hv x (hpe.mem_iff.1 hx), hb⟩
  · have := h5 x.2 (List.mem_map.2 ⟨x, hpe.mem_iff.1 hx, rfl⟩)
    omega
  · rw [hfac.2 g' t, occ_num P hp hm]
end
def mulE (P : Nat) (E : List FE) (i : Nat) : List FE := (E.take i).map fun x => (x.1, x.2.1, P * x.2.2)
theorem mulE_succ (P : Nat) {E : List FE} {i : Nat} (h : i < E.length) : mulE P E (i + 1) = mulE P E i ++ [((ge E i).1, (ge E i).2.1, P * (ge E i).2.2)] := by
  unfold mulE
  rw [List.take_succ_eq_append_getElem h, List.map_append, ge_at h]; rfl
theorem mulE_all (P : Nat) (E : List FE) : (mulE P E E.length).map (·.2) = (E.map (·.2)).map fun x => (x.1, P * x.2) := by
  unfold mulE
  rw [List.take_length, List.map_map, List.map_map]; rfl
theorem eC_snoc (x : FE) : ∀ l, eC (l ++ [x]) = eC l ++ [x.1, .int .i64 ((x.2.2 : Nat) : Int)]
  | [] => rfl
  | y :: l => by simp [eC, eC_snoc x l]
/-- One more factor behind an append. -/
theorem EVB.push {w w' : World} {b B n c : Nat} {A : Option Addr} {E : List FE} {x : FE} {A1 : Option Addr} {c1 : Nat} (h : EVB w b E) (ho : w.ownsRow B 36 2 (.slice A n c) n (eC E)) (hx : x.1 = .slice A1 x.2.1.length c1) (ha : OAB w b A1 c1 x.2.1) (hl : x.2.1.length ≤ 100) (hg : w.grownBy w' (Value.slice A n c).ownBlock) : EVB w' b (E ++ [x]) := fun y hy => by
  rw [List.mem_append, List.mem_singleton] at hy
  rcases hy with hy | rfl
  · obtain ⟨A2, c2, h1, h2, h3⟩ := h y hy
    exact ⟨A2, c2, h1, own_keep_own h2 ho hg (by decide), h3⟩
  · exact ⟨A1, c1, hx, own_keep_own ha ho hg (by decide), hl⟩
theorem EVB.call {w w' : World} {b : Nat} {E : List FE} (h : EVB w b E) (hb : Below w.heap.size w w') : EVB w' b E := fun x hx => by
  obtain ⟨A, c, h1, h2, h3⟩ := h x hx
  exact ⟨A, c, h1, h2.call hb, h3⟩
theorem eC_one {w : World} {E : List FE} (h : EV w E) : ∀ u ∈ eC E, u.oneCell' = true := by
  intro u hu
  have : ∀ l : List FE, (∀ x ∈ l, ∃ (A : Option Addr) (c : Nat), x.1 = .slice A x.2.1.length c) → ∀ u ∈ eC l, u.oneCell' = true := fun l => by
    induction l with
    | nil => intro _ u hu; simp [eC] at hu
    | cons x l ih =>
      intro h u hu
      simp only [eC, List.mem_cons] at hu
      rcases hu with rfl | rfl | hu
      · obtain ⟨A, c, h1⟩ := h x (by simp)
        rw [h1]; rfl
      · rfl
      · exact ih (fun y hy => h y (by simp [hy])) u hu
  exact this E (fun x hx => by obtain ⟨A, c, h1, _⟩ := h x hx; exact ⟨A, c, h1⟩) u hu
end Go.Proofs.Ytifaccppbhbfhaa
