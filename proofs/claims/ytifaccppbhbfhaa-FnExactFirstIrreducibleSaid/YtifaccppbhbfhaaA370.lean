/- Several parts of the proof in one text; each part says what it shows. Nothing is assumed. -/
import Derived.Test.YtifaccppbhbfhaaA368
/- Factors with how often they occur: plain part of both sides' loops. -/
namespace Go.Proofs.Ytifaccppbhbfhaa
set_option linter.unusedVariables false
set_option linter.unusedSimpArgs false
open Go.RowKit

def putL (L : List (List Int × Nat)) (a : Nat) (x : List Int × Nat) : List (List Int × Nat) := L.take a ++ [x] ++ L.drop a
def Ord (L : List (List Int × Nat)) : Prop := L.Pairwise fun x y => FX.LessP x.1 y.1
theorem mem_put {L : List (List Int × Nat)} {a : Nat} {x y : List Int × Nat} : y ∈ putL L a x ↔ y ∈ L ∨ y = x := by
  unfold putL
  rw [List.mem_append, List.mem_append, List.mem_singleton]
  constructor
  · rintro ((h | h) | h)
    · exact .inl (List.mem_of_mem_take h)
    · exact .inr h
    · exact .inl (List.mem_of_mem_drop h)
  · rintro (h | h)
    · rw [← List.take_append_drop a L, List.mem_append] at h
      rcases h with h | h
      · exact .inl (.inl h)
      · exact .inr h
    · exact .inl (.inr h)
theorem gl_fst {L : List (List Int × Nat)} {i : Nat} (h : i < L.length) : gl (L.map (·.1)) i = (L[i]).1 := by
  unfold gl
  rw [List.getD_eq_getElem?_getD, List.getElem?_map, List.getElem?_eq_getElem h]; rfl
theorem ord_put {L : List (List Int × Nat)} {a t : Nat} {f : List Int} (ho : Ord L) (hl : a ≤ L.length) (h1 : ∀ i, i < a → cmpPol (gl (L.map (·.1)) i) f < 0) (h2 : a < L.length → 0 ≤ cmpPol (gl (L.map (·.1)) a) f) (h3 : ∀ x ∈ L, x.1 ≠ f) : Ord (putL L a (f, t)) := by
  have hlt : ∀ x ∈ L.take a, FX.LessP x.1 f := fun x hx => by
    obtain ⟨k, hk, rfl⟩ := List.getElem_of_mem hx
    rw [List.length_take] at hk
    have := h1 k (by omega)
    rw [gl_fst (by omega), cmpPol_less] at this
    rw [List.getElem_take]; exact this
  have hgt : ∀ x ∈ L.drop a, FX.LessP f x.1 := fun x hx => by
    obtain ⟨k, hk, rfl⟩ := List.getElem_of_mem hx
    rw [List.length_drop] at hk
    rw [List.getElem_drop]
    have ha := h2 (by omega)
    rw [gl_fst (by omega)] at ha
    have hne := h3 L[a] (List.getElem_mem _)
    have hfa : FX.LessP f (L[a]'(by omega)).1 := by
      rcases Int.lt_or_le (cmpPol f (L[a]'(by omega)).1) 0 with h5 | h5
      · exact cmpPol_less.1 h5
      · exfalso
        have ht : ∀ x y : List Int, 0 ≤ cmpPol x y → 0 ≤ cmpPol y x → x = y := fun x y hx hy => by
          have hxx : ¬ cmpPol x y < 0 := by omega
          have hyy : ¬ cmpPol y x < 0 := by omega
          rw [cmpPol_less] at hxx hyy
          unfold FX.LessP at hxx hyy
          have hlen : x.length = y.length := by
            rcases Nat.lt_trichotomy x.length y.length with h | h | h
            · exact absurd (.inl h) hxx
            · exact h
            · exact absurd (.inl h) hyy
          refine Classical.byContradiction fun hne => ?_
          -- the last place where they differ
          have : ∀ n, (∀ j, n ≤ j → gt x j = gt y j) → (∀ j, gt x j = gt y j) := fun n => by
            induction n with
            | zero => intro h j; exact h j (Nat.zero_le _)
            | succ n ih =>
              intro h
              refine ih fun j hj => ?_
              by_cases e : j = n
              · subst e
                rcases Int.lt_trichotomy (gt x j) (gt y j) with h6 | h6 | h6
                · exact absurd (.inr ⟨hlen, j, h6, fun k hk => h k (by omega)⟩) hxx
                · exact h6
                · exact absurd (.inr ⟨hlen.symm, j, h6, fun k hk => (h k (by omega)).symm⟩) hyy
              · exact h j (by omega)
          exact hne (gt_ext hlen fun j _ => this x.length (fun j hj => by rw [gt_big hj, gt_big (by omega)]) j)
        exact hne (ht _ _ ha h5)
    by_cases e : k = 0
    · subst e; exact hfa
    · refine hfa.trans ?_
      exact List.pairwise_iff_getElem.1 ho a (a + k) (by omega) (by omega) (by omega)
  unfold Ord putL
  rw [List.append_assoc, List.pairwise_append]
  refine ⟨List.Pairwise.sublist (List.take_sublist _ _) ho, ?_, fun x hx y hy => ?_⟩
  · rw [List.singleton_append, List.pairwise_cons]
    exact ⟨fun y hy => hgt y hy, List.Pairwise.sublist (List.drop_sublist _ _) ho⟩
  · rw [List.singleton_append, List.mem_cons] at hy
    rcases hy with rfl | hy
    · exact hlt x hx
    · exact (hlt x hx).trans (hgt y hy)
section
variable (P : Nat) [NeZero P]
/-- L' is L with the factors of F, each so many times. -/
def FQ (times : Nat) (F : FX.Pol (Fin P)) (L L' : List (List Int × Nat)) : Prop := ∀ g t, (g, t) ∈ L' ↔ (g, t) ∈ L ∨ ∃ s, t = s * times ∧ FX.Occ P F g s
/-- No polynomial of the list divides F. -/
def FN (F : FX.Pol (Fin P)) (L : List (List Int × Nat)) : Prop := ∀ x ∈ L, FX.MI P x.1 ∧ ¬ FX.Dv (FX.toP P x.1) F
theorem fq_one (hp : FX.Prm P) (times : Nat) (L : List (List Int × Nat)) : FQ P times 1 L L := fun g t => ⟨fun h => .inl h, fun h => by
  rcases h with h | ⟨s, _, h⟩
  · exact h
  · exact absurd h (FX.occ_one P hp)⟩
theorem fq_pow (hp : FX.Prm P) {times n : Nat} {F : FX.Pol (Fin P)} {L L' : List (List Int × Nat)} (hF : F ≠ 0) (hn : 1 ≤ n) (h : FQ P (n * times) F L L') : FQ P times (F ^ n) L L' := fun g t => by
  rw [h g t]
  constructor
  · rintro (h1 | ⟨s, rfl, h1⟩)
    · exact .inl h1
    · exact .inr ⟨s * n, by rw [Nat.mul_assoc], (FX.occ_pow P hp hF hn).2 ⟨s, rfl, h1⟩⟩
  · rintro (h1 | ⟨s, rfl, h1⟩)
    · exact .inl h1
    · obtain ⟨s', rfl, h2⟩ := (FX.occ_pow P hp hF hn).1 h1
      exact .inr ⟨s', by rw [Nat.mul_assoc], h2⟩
theorem fn_dv {F G : FX.Pol (Fin P)} {L : List (List Int × Nat)} (h : FN P F L) (hd : FX.Dv G F) : FN P G L := fun x hx => ⟨(h x hx).1, fun h2 => (h x hx).2 (h2.trans hd)⟩
/-- A pass over the parts Q: the first i are taken out of f0; fr is what is left. -/
def PSI (times : Nat) (F0 : FX.Pol (Fin P)) (Q : List (List Int)) (L : List (List Int × Nat)) (i : Nat) (fr : List Int) (Li : List (List Int × Nat)) : Prop :=
  FX.Can P fr ∧ 0 < fr.length ∧ gt fr (fr.length - 1) = 1 ∧ Ord Li ∧ ∃ m, F0 = FX.toP P fr * m ∧ (∀ g, FX.MI P g → FX.Dv (FX.toP P g) m → ∃ j, j < i ∧ g = gl Q j) ∧ (∀ j, j < i → ¬ FX.Dv (FX.toP P (gl Q j)) (FX.toP P fr)) ∧ FQ P times m L Li
theorem PSI.start (hp : FX.Prm P) {times : Nat} {fr : List Int} {Q : List (List Int)} {L : List (List Int × Nat)} (hc : FX.Can P fr) (h0 : 0 < fr.length) (hm : gt fr (fr.length - 1) = 1) (ho : Ord L) : PSI P times (FX.toP P fr) Q L 0 fr L :=
  ⟨hc, h0, hm, ho, 1, by exact FX.rg, fun g hg hd => by
    have hF := FX.fin_fp (p := P) hp
    obtain ⟨⟨n, h1, hn⟩, _⟩ := hg.2.2
    have := hd.dg_le hn (FX.one_dg (K := Fin P))
    omega, fun j hj => by omega, fq_one P hp times L⟩
/-- Taking out the part q, c times so far. -/
def PSC (fr0 : List Int) (q : List Int) (c : Nat) (fr : List Int) : Prop := FX.Can P fr ∧ 0 < fr.length ∧ gt fr (fr.length - 1) = 1 ∧ FX.toP P fr0 = FX.toP P fr * FX.toP P q ^ c
theorem mon_quot (hp : FX.Prm P) {f a b : List Int} (hf : FX.Can P f) (h0 : 0 < f.length) (hfm : gt f (f.length - 1) = 1) (ha : FX.Can P a) (hb : FX.Can P b) (hb0 : 0 < b.length) (hbm : gt b (b.length - 1) = 1) (e : FX.toP P f = FX.toP P a * FX.toP P b) : 0 < a.length ∧ gt a (a.length - 1) = 1 ∧ f.length + 1 = a.length + b.length := by
  have hF := FX.fin_fp (p := P) hp
  have hp2 : 2 ≤ P := hp.1
  have hdf := hf.dg P h0
  have hdb := hb.dg P hb0
  have ha0 : 0 < a.length := by
    rcases Nat.eq_zero_or_pos a.length with h1 | h1
    · exfalso
      have : FX.toP P a = 0 := (ha.nil_iff P).2 (List.eq_nil_of_length_eq_zero h1)
      exact hdf.ne (by rw [e, this]; exact FX.rg)
    · exact h1
  have hda := ha.dg P ha0
  have hm := hda.mul hdb
  rw [← e] at hm
  have hn := hm.uniq hdf
  refine ⟨ha0, ?_, by omega⟩
  have hc : (FX.toP P f).c (f.length - 1) = (FX.toP P a).c (a.length - 1) * (FX.toP P b).c (b.length - 1) := by
    rw [← hn, e, FX.Pol.mul_c, FX.sm_one (j := a.length - 1) (by omega) (fun i hi hne => ?_)]
    · rw [show a.length - 1 + (b.length - 1) - (a.length - 1) = b.length - 1 by omega]
    · by_cases h1 : i < a.length - 1
      · rw [hdb.2 _ (by omega)]; exact FX.rg
      · rw [hda.2 _ (by omega)]; exact FX.rg
  rw [FX.toP_c, FX.toP_c, FX.toP_c, hfm, hbm, FX.ci_1] at hc
  refine FX.ci_inj P (ha.1 _).1 (ha.1 _).2 (by omega) (by omega) ?_
  rw [FX.ci_1, hc]; exact FX.rg
theorem dvq_exact (hp : FX.Prm P) {f g q r : List Int} (h : DVQ P f g q r) (hg : FX.Can P g) (h0 : 0 < g.length) : r = [] ↔ FX.Dv (FX.toP P g) (FX.toP P f) := by
  have hF := FX.fin_fp (p := P) hp
  obtain ⟨h1, h2, h3, h4, h5⟩ := h
  constructor
  · intro e
    refine ⟨FX.toP P q, ?_⟩
    rw [h3, (h2.nil_iff P).2 e]; exact FX.rg
  · intro hd
    refine (h2.nil_iff P).1 (FX.dv_lt (hg.dg P h0) ?_ ((FX.toP_lt P r).mono (by omega)))
    have : FX.toP P r = FX.toP P f - FX.toP P q * FX.toP P g := by rw [h3]; exact FX.rg
    rw [this]
    exact hd.sub ((FX.Dv.refl _).mulL _)
theorem PSC.start {fr q : List Int} (hc : FX.Can P fr) (h0 : 0 < fr.length) (hm : gt fr (fr.length - 1) = 1) : PSC P fr q 0 fr := ⟨hc, h0, hm, by rw [FX.Semiring.pow_zero]; exact FX.rg⟩
theorem PSC.step (hp : FX.Prm P) {fr0 q fr a r : List Int} {c : Nat} (h : PSC P fr0 q c fr) (hq : FX.MI P q) (hd : DVQ P fr q a r) (hr : r = []) : PSC P fr0 q (c + 1) a ∧ a.length < fr.length := by
  obtain ⟨h1, h2, h3, h4⟩ := h
  have hq2 := mi_two P hp hq
  have e : FX.toP P fr = FX.toP P a * FX.toP P q := by
    have := hd.2.2.1
    rw [(hd.2.1.nil_iff P).2 hr] at this
    rw [this]; exact FX.rg
  obtain ⟨g1, g2, g3⟩ := mon_quot P hp h1 h2 h3 hd.1 hq.1 (by omega) hq.2.1 e
  exact ⟨⟨hd.1, g1, g2, by rw [h4, e, FX.Semiring.pow_succ]; exact FX.rg⟩, by omega⟩
theorem PSI.step (hp : FX.Prm P) {times : Nat} {F0 : FX.Pol (Fin P)} {Q : List (List Int)} {L Li : List (List Int × Nat)} {i c a : Nat} {fr fr' : List Int} (h : PSI P times F0 Q L i fr Li) (hQn : Q.Nodup) (hQm : ∀ g ∈ Q, FX.MI P g ∧ FX.Dv (FX.toP P g) F0) (hi : i < Q.length) (hL : FN P F0 L) (hc : PSC P fr (gl Q i) c fr') (hnd : ¬ FX.Dv (FX.toP P (gl Q i)) (FX.toP P fr'))
    (hal : a ≤ Li.length) (h1 : ∀ k, k < a → cmpPol (gl (Li.map (·.1)) k) (gl Q i) < 0) (h2 : a < Li.length → 0 ≤ cmpPol (gl (Li.map (·.1)) a) (gl Q i)) : PSI P times F0 Q L (i + 1) fr' (putL Li a (gl Q i, c * times)) ∧ 1 ≤ c := by
  have hF := FX.fin_fp (p := P) hp
  obtain ⟨g1, g2, g3, g4, m, e, hm1, hm2, hfq⟩ := h
  obtain ⟨c1, c2, c3, c4⟩ := hc
  obtain ⟨hqm, hqd⟩ := hQm _ (gl_mem hi)
  have hqmm : ¬ FX.Dv (FX.toP P (gl Q i)) m := fun hd => by
    obtain ⟨j, hj, e2⟩ := hm1 _ hqm hd
    rw [List.nodup_iff_pairwise_ne] at hQn
    have h5 := List.pairwise_iff_getElem.1 hQn j i (by omega) hi hj
    apply h5
    have e3 : gl Q i = Q[i] := by unfold gl; rw [List.getD_eq_getElem?_getD, List.getElem?_eq_getElem hi]; rfl
    have e4 : gl Q j = Q[j]'(by omega) := by unfold gl; rw [List.getD_eq_getElem?_getD, List.getElem?_eq_getElem (by omega)]; rfl
    rw [← e3, ← e4]; exact e2.symm
  have hc1 : 1 ≤ c := Nat.pos_of_ne_zero fun h0 => by
    subst h0
    rw [FX.Semiring.pow_zero] at c4
    rw [e] at hqd
    rcases hqm.2.2.euclid hqd with h5 | h5
    · rw [c4, show FX.toP P fr' * 1 = FX.toP P fr' by exact FX.rg] at h5; exact hnd h5
    · exact hqmm h5
  have hocc := fun h s => FX.occ_step P hp (m := m) (g := gl Q i) (t := c) hqm hc1 hqmm (h := h) (s := s)
  refine ⟨⟨c1, c2, c3, ord_put g4 hal h1 h2 fun x hx hxe => ?_, m * FX.toP P (gl Q i) ^ c, ?_, fun g hg hd => ?_, fun j hj => ?_, fun g t => ?_⟩, hc1⟩
  · obtain ⟨xg, xt⟩ := x
    have hxe' : xg = gl Q i := hxe
    rcases (hfq xg xt).1 hx with h5 | ⟨s, _, h5⟩
    · exact (hL _ h5).2 (by show FX.Dv (FX.toP P xg) F0; rw [hxe']; exact hqd)
    · rw [hxe'] at h5; exact hqmm (FX.Occ.dv P h5)
  · rw [e, c4]; exact FX.rg
  · rcases hg.2.2.euclid hd with h5 | h5
    · obtain ⟨j, hj, e2⟩ := hm1 g hg h5
      exact ⟨j, by omega, e2⟩
    · exact ⟨i, by omega, FX.MI.eq P hp hg hqm (FX.irr_pow hg.2.2 c h5)⟩
  · by_cases e2 : j = i
    · rw [e2]; exact hnd
    · intro hd
      refine hm2 j (by omega) ?_
      rw [c4]
      exact hd.mulR _
  · rw [mem_put, hfq g t]
    constructor
    · rintro ((h5 | ⟨s, rfl, h5⟩) | h5)
      · exact .inl h5
      · exact .inr ⟨s, rfl, (hocc g s).2 (.inl h5)⟩
      · injection h5 with e5 e6
        exact .inr ⟨c, e6, (hocc g c).2 (.inr ⟨e5, rfl⟩)⟩
    · rintro (h5 | ⟨s, rfl, h5⟩)
      · exact .inl (.inl h5)
      · rcases (hocc g s).1 h5 with h6 | ⟨rfl, rfl⟩
        · exact .inl (.inr ⟨s, rfl, h6⟩)
        · exact .inr rfl
/-- Behind a pass. -/
theorem PSI.rest (hp : FX.Prm P) {times : Nat} {F0 : FX.Pol (Fin P)} {Q : List (List Int)} {L Li L' : List (List Int × Nat)} {fr : List Int} (h : PSI P times F0 Q L Q.length fr Li) (hL : FN P F0 L) : FN P (FX.toP P fr) Li ∧ (FQ P times (FX.toP P fr) Li L' → FQ P times F0 L L') := by
  obtain ⟨g1, g2, g3, g4, m, e, hm1, hm2, hfq⟩ := h
  have hap : ∀ g, FX.MI P g → FX.Dv (FX.toP P g) m → ¬ FX.Dv (FX.toP P g) (FX.toP P fr) := fun g hg hd => by
    obtain ⟨j, hj, rfl⟩ := hm1 g hg hd
    exact hm2 j hj
  refine ⟨fun x hx => ?_, fun hq g t => ?_⟩
  · obtain ⟨g, t⟩ := x
    rcases (hfq g t).1 hx with h5 | ⟨s, _, h5⟩
    · exact ⟨(hL _ h5).1, fun hd => (hL _ h5).2 (hd.trans ⟨m, e⟩)⟩
    · exact ⟨h5.1, hap g h5.1 (FX.Occ.dv P h5)⟩
  · rw [hq g t, hfq g t]
    have ho := fun s => FX.occ_parts P hp e hap (g := g) (t := s)
    constructor
    · rintro ((h5 | ⟨s, rfl, h5⟩) | ⟨s, rfl, h5⟩)
      · exact .inl h5
      · exact .inr ⟨s, rfl, (ho s).2 (.inl h5)⟩
      · exact .inr ⟨s, rfl, (ho s).2 (.inr h5)⟩
    · rintro (h5 | ⟨s, rfl, h5⟩)
      · exact .inl (.inl h5)
      · rcases (ho s).1 h5 with h6 | h6
        · exact .inl (.inr ⟨s, rfl, h6⟩)
        · exact .inr ⟨s, rfl, h6⟩
end
end Go.Proofs.Ytifaccppbhbfhaa
/- Contract: the reference's list of all factors. -/
namespace Go.Proofs.Ytifaccppbhbfhaa
set_option linter.unusedVariables false
set_option linter.unusedSimpArgs false
open Go.RowKit

def tms (L : List (List Int × Nat)) : List Int := L.map fun x => ((x.2 : Nat) : Int)
/-- A list of factors in memory. -/
def FLW (w : World) (g c : Nat) (L : List (List Int × Nat)) : Prop := ∃ vs, w.ownsRow 0 36 2 (.slice (some ⟨g, 0, none⟩) L.length c) L.length (shC vs (tms L)) ∧ RR w vs (L.map (·.1))
theorem FLW.call {w w' : World} {g c : Nat} {L : List (List Int × Nat)} (h : FLW w g c L) (hb : Below w.heap.size w w') : FLW w' g c L := by
  obtain ⟨vs, h1, h2⟩ := h
  exact ⟨vs, own_below h1 hb, h2.call hb⟩
theorem RR.ins {w : World} {vs : List Value} {ll : List (List Int)} {A : Option Addr} {c a : Nat} {f : List Int} (h : RR w vs ll) (hf : OA w A c f) (ha : a ≤ ll.length) : RR w (vs.take a ++ [.slice A f.length c] ++ vs.drop a) (ll.take a ++ [f] ++ ll.drop a) := by
  obtain ⟨h1, h2⟩ := h
  have e1 : (vs.take a).length = a := by rw [List.length_take]; omega
  have e2 : (ll.take a).length = a := by rw [List.length_take]; omega
  refine ⟨by simp [h1], fun i hi => ?_⟩
  simp at hi
  by_cases c1 : i < a
  · obtain ⟨A1, c1', h3, h4⟩ := h2 i (by omega)
    have hg : gl (ll.take a ++ [f] ++ ll.drop a) i = gl ll i := by
      unfold gl
      rw [List.getD_eq_getElem?_getD, List.getD_eq_getElem?_getD, List.append_assoc, List.getElem?_append_left (by omega), List.getElem?_take, if_pos c1]
    rw [hg]
    exact ⟨A1, c1', by rw [List.append_assoc, List.getElem?_append_left (by omega), List.getElem?_take, if_pos c1]; exact h3, h4⟩
  · by_cases c2 : i = a
    · subst c2
      have hg : gl (ll.take i ++ [f] ++ ll.drop i) i = f := by
        unfold gl
        rw [List.getD_eq_getElem?_getD, List.append_assoc, List.getElem?_append_right (by omega), e2, Nat.sub_self]; rfl
      rw [hg]
      exact ⟨A, c, by rw [List.append_assoc, List.getElem?_append_right (by omega), e1, Nat.sub_self]; rfl, hf⟩
    · obtain ⟨A1, c1', h3, h4⟩ := h2 (i - 1) (by omega)
      have hg : gl (ll.take a ++ [f] ++ ll.drop a) i = gl ll (i - 1) := by
        unfold gl
        rw [List.getD_eq_getElem?_getD, List.getD_eq_getElem?_getD, List.getElem?_append_right (by simp; omega)]
        simp only [List.length_append, List.length_singleton, e2]
        rw [List.getElem?_drop, show a + (i - (a + 1)) = i - 1 by omega]
      rw [hg]
      refine ⟨A1, c1', ?_, h4⟩
      rw [List.getElem?_append_right (by simp; omega)]
      simp only [List.length_append, List.length_singleton, e1]
      rw [List.getElem?_drop, show a + (i - (a + 1)) = i - 1 by omega]
      exact h3
theorem putL_len (L : List (List Int × Nat)) (a : Nat) (x : List Int × Nat) (h : a ≤ L.length) : (putL L a x).length = L.length + 1 := by unfold putL; simp; omega
theorem putL_fst (L : List (List Int × Nat)) (a : Nat) (x : List Int × Nat) : (putL L a x).map (·.1) = (L.map (·.1)).take a ++ [x.1] ++ (L.map (·.1)).drop a := by unfold putL; simp [List.map_take, List.map_drop]
theorem putL_tms (L : List (List Int × Nat)) (a : Nat) (x : List Int × Nat) : tms (putL L a x) = (tms L).take a ++ [((x.2 : Nat) : Int)] ++ (tms L).drop a := by unfold putL tms; simp [List.map_take, List.map_drop]
/-- Every number at a multiple of P. -/
def rtl (P : Nat) (f : List Int) (k : Nat) : List Int := (List.range k).map fun i => gt f (i * P)
theorem rtl_succ (P : Nat) (f : List Int) (k : Nat) : rtl P f (k + 1) = rtl P f k ++ [gt f (k * P)] := by simp [rtl, List.range_succ]
theorem rtl_len (P : Nat) (f : List Int) (k : Nat) : (rtl P f k).length = k := by simp [rtl]
theorem rtl_gt (P : Nat) (f : List Int) (k j : Nat) : gt (rtl P f k) j = if j < k then gt f (j * P) else 0 := by
  unfold rtl gt
  rw [List.getD_eq_getElem?_getD, List.getElem?_map]
  by_cases h : j < k
  · rw [List.getElem?_range h, if_pos h]; rfl
  · rw [List.getElem?_eq_none (by simp; omega), if_neg h]; rfl
section
variable (P : Nat) [NeZero P]
/-- The root of a polynomial without a derivative. -/
theorem root_facts (hp : FX.Prm P) {f : List Int} {k : Nat} (hc : FX.Can P f) (h2 : 2 ≤ f.length) (hm : gt f (f.length - 1) = 1) (hD : (FX.toP P f).D = 0) (h1 : (k - 1) * P < f.length) (hk : f.length ≤ k * P) (hk0 : 0 < k) :
    FX.Can P (rtl P f k) ∧ gt (rtl P f k) ((rtl P f k).length - 1) = 1 ∧ FX.toP P f = FX.toP P (rtl P f k) ^ P ∧ P * (k - 1) = f.length - 1 ∧ 2 ≤ k := by
  have hp2 : 2 ≤ P := hp.1
  have hdv : (f.length - 1) % P = 0 := by
    have h3 := congrArg (fun q => q.c (f.length - 2)) hD
    simp only [FX.D_c, FX.Pol.zero_c, FX.toP_c] at h3
    rw [show f.length - 2 + 1 = f.length - 1 by omega, hm, FX.ci_1, ← FX.ci_nat, show FX.ci P ((f.length - 1 : Nat) : Int) * 1 = FX.ci P ((f.length - 1 : Nat) : Int) by exact FX.rg, FX.ci_zero] at h3
    omega
  obtain ⟨d, hd⟩ : ∃ d, f.length - 1 = P * d := ⟨(f.length - 1) / P, by have := Nat.div_add_mod (f.length - 1) P; omega⟩
  have hdk : d = k - 1 := by
    have h4 : (k - 1) * P ≤ P * d := by omega
    have h5 : P * d < k * P := by omega
    rw [Nat.mul_comm P d] at h4 h5
    have h6 := Nat.le_of_mul_le_mul_right h4 (by omega)
    have h7 := Nat.lt_of_mul_lt_mul_right h5
    omega
  have hlast : gt (rtl P f k) (k - 1) = 1 := by
    rw [rtl_gt, if_pos (by omega), ← hdk, Nat.mul_comm, ← hd]; exact hm
  have hpow := FX.root_pow P hp (f := f) (r := rtl P f k) hD (fun j => by
    rw [rtl_gt]
    split
    · rfl
    · have : k * P ≤ j * P := Nat.mul_le_mul_right _ (by omega)
      rw [gt_big (by omega)])
  refine ⟨⟨fun j => ?_, fun _ => ?_⟩, by rw [rtl_len]; exact hlast, hpow, by rw [← hdk]; omega, ?_⟩
  · rw [rtl_gt]
    split
    · exact hc.1 _
    · omega
  · rw [rtl_len, hlast]; omega
  · rcases Nat.lt_or_ge k 2 with h | h
    · exfalso
      have : d = 0 := by omega
      rw [this] at hd; omega
    · exact h
/-- The part of a pass: f divided by what it has in common with its derivative. -/
theorem part_facts (hp : FX.Prm P) {f d g q r : List Int} (hf : FX.Can P f) (h2 : 2 ≤ f.length) (hm : gt f (f.length - 1) = 1) (hd : DVV P f d) (hd0 : d ≠ []) (hg : CM P f d g) (hq : DVQ P f g q r) :
    0 < g.length ∧ gt q (q.length - 1) = 1 ∧ 2 ≤ q.length ∧ q.length ≤ f.length ∧ FX.SqF (FX.toP P q) ∧ FX.toP P f = FX.toP P q * FX.toP P g := by
  have hF := FX.fin_fp (p := P) hp
  have hdf := hf.dg P (by omega)
  have hg0 : 0 < g.length := by
    rcases Nat.eq_zero_or_pos g.length with h | h
    · exfalso
      exact gcd_ne P hg.2.1 hdf.ne ((hg.1.nil_iff P).2 (List.eq_nil_of_length_eq_zero h))
    · exact h
  have hr := (dvq_exact P hp hq hg.1 hg0).2 hg.2.1.1
  have e : FX.toP P f = FX.toP P q * FX.toP P g := by
    have := hq.2.2.1
    rw [(hq.2.1.nil_iff P).2 hr] at this
    rw [this]; exact FX.rg
  obtain ⟨a1, a2, a3⟩ := mon_quot P hp hf (by omega) hm hq.1 hg.1 hg0 (hg.2.2 hg0) e
  have hdn : FX.toP P d ≠ 0 := fun e0 => hd0 ((hd.1.nil_iff P).1 e0)
  have hdl : FX.Lt (FX.toP P d) (f.length - 1) := by
    rw [hd.2.1]
    exact FX.D_lt (by rw [show f.length - 1 + 1 = f.length by omega]; exact FX.toP_lt P f)
  obtain ⟨k, hk⟩ := FX.dg_ex hdn
  have hgl := hg.2.1.2.1.dg_le (hg.1.dg P hg0) hk
  have hkl := hk.lt hdl
  refine ⟨hg0, a2, by omega, by omega, ?_, e⟩
  refine FX.sqf_quot hdf.ne (d := FX.toP P g) ?_ e
  rw [← hd.2.1]; exact hg.2.1
end
/-- What the list of all factors answers. -/
def FCR (P : Nat) [NeZero P] (times : Nat) (f : List Int) (L : List (List Int × Nat)) (w : World) (e : Ending) (w' : World) : Prop :=
  ∃ (L' : List (List Int × Nat)) (g' c' : Nat), FQ P times (FX.toP P f) L L' ∧ Ord L' ∧ L'.length ≤ 8 ∧ (∀ x ∈ L', x.1.length ≤ 9 ∧ x.2 ≤ 8) ∧ e = .returned (.slice (some ⟨g', 0, none⟩) L'.length c') ∧ FLW w' g' c' L' ∧ Below w.heap.size w w'
end Go.Proofs.Ytifaccppbhbfhaa
