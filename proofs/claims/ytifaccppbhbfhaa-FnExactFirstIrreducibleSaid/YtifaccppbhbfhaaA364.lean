/- Several parts of the proof in one text; each part says what it shows. Nothing is assumed. -/
import Derived.Test.YtifaccppbhbfhaaA362
/- Parts of a polynomial: plain part of split. -/
namespace Go.Proofs.Ytifaccppbhbfhaa
set_option linter.unusedVariables false
set_option linter.unusedSimpArgs false
open Go.RowKit

section
variable (P : Nat) [NeZero P]
/-- g is the monic common divisor of part and v less a. -/
def GC (part : List Int) (v : FX.Pol (Fin P)) (a : Nat) (g : List Int) : Prop := FX.Can P g ∧ FX.Gcd (FX.toP P g) (FX.toP P part) (v - FX.Pol.const (FX.ci P (a : Int))) ∧ (0 < g.length → gt g (g.length - 1) = 1)
def Apart (g g' : List Int) : Prop := ∀ h, FX.MI P h → FX.Dv (FX.toP P h) (FX.toP P g) → ¬ FX.Dv (FX.toP P h) (FX.toP P g')
/-- The finer parts as far as part i and number t. -/
def FI (parts : List (List Int)) (v : FX.Pol (Fin P)) (i t : Nat) (fl : List (List Int)) : Prop :=
  (∀ g ∈ fl, ∃ j a, j < parts.length ∧ (j < i ∨ (j = i ∧ a < t)) ∧ a < P ∧ GC P (gl parts j) v a g ∧ 2 ≤ g.length) ∧
  (∀ j a, j < parts.length → a < P → (j < i ∨ (j = i ∧ a < t)) → ∃ g, GC P (gl parts j) v a g ∧ (2 ≤ g.length → g ∈ fl)) ∧
  fl.Pairwise (Apart P)
theorem FI.start (parts : List (List Int)) (v : FX.Pol (Fin P)) : FI P parts v 0 0 [] := ⟨fun g hg => by simp at hg, fun j a _ _ h => by omega, List.Pairwise.nil⟩
theorem FI.next {parts : List (List Int)} {v : FX.Pol (Fin P)} {i : Nat} {fl : List (List Int)} (h : FI P parts v i P fl) : FI P parts v (i + 1) 0 fl := by
  refine ⟨fun g hg => ?_, fun j a h1 h2 h3 => h.2.1 j a h1 h2 (by omega), h.2.2⟩
  obtain ⟨j, a, h1, h2, h3⟩ := h.1 g hg
  exact ⟨j, a, h1, by omega, h3⟩
theorem FI.none {parts : List (List Int)} {v : FX.Pol (Fin P)} {i t : Nat} {fl : List (List Int)} {g : List Int} (h : FI P parts v i t fl) (hg : GC P (gl parts i) v t g) (hl : ¬ 2 ≤ g.length) : FI P parts v i (t + 1) fl := by
  refine ⟨fun g hg => ?_, fun j a h1 h2 h3 => ?_, h.2.2⟩
  · obtain ⟨j, a, h1, h2, h3⟩ := h.1 g hg
    exact ⟨j, a, h1, by omega, h3⟩
  · by_cases e : j = i ∧ a = t
    · rw [e.1, e.2]; exact ⟨g, hg, fun h4 => absurd h4 hl⟩
    · exact h.2.1 j a h1 h2 (by omega)
theorem pt_apart {F : FX.Pol (Fin P)} {parts : List (List Int)} (h : FX.PT P F parts) {i j : Nat} (hij : i < j) (hj : j < parts.length) : Apart P (gl parts i) (gl parts j) := by
  have h2 := List.pairwise_iff_getElem.1 h.2.2 i j (by omega) hj hij
  have e1 : gl parts i = parts[i] := by unfold gl; rw [List.getD_eq_getElem?_getD, List.getElem?_eq_getElem (by omega)]; rfl
  have e2 : gl parts j = parts[j] := by unfold gl; rw [List.getD_eq_getElem?_getD, List.getElem?_eq_getElem hj]; rfl
  rw [e1, e2]; exact h2
theorem ci_num_ne {a b : Nat} (ha : a < P) (hb : b < P) (h : a ≠ b) : FX.ci P (a : Int) ≠ FX.ci P (b : Int) := fun e => h (by
  have := FX.ci_inj P (x := (a : Int)) (y := (b : Int)) (by omega) (by omega) (by omega) (by omega) e
  omega)
theorem FI.add (hp : FX.Prm P) {F : FX.Pol (Fin P)} {parts : List (List Int)} {v : FX.Pol (Fin P)} {i t : Nat} {fl : List (List Int)} {g : List Int} (hpt : FX.PT P F parts) (h : FI P parts v i t fl) (hi : i < parts.length) (ht : t < P) (hg : GC P (gl parts i) v t g) (hl : 2 ≤ g.length) : FI P parts v i (t + 1) (fl ++ [g]) := by
  refine ⟨fun g' hg' => ?_, fun j a h1 h2 h3 => ?_, ?_⟩
  · rw [List.mem_append, List.mem_singleton] at hg'
    rcases hg' with h4 | rfl
    · obtain ⟨j, a, h1, h2, h3⟩ := h.1 g' h4
      exact ⟨j, a, h1, by omega, h3⟩
    · exact ⟨i, t, hi, by omega, ht, hg, hl⟩
  · by_cases e : j = i ∧ a = t
    · rw [e.1, e.2]; exact ⟨g, hg, fun _ => by simp⟩
    · obtain ⟨g', h4, h5⟩ := h.2.1 j a h1 h2 (by omega)
      exact ⟨g', h4, fun h6 => by simp [h5 h6]⟩
  · rw [List.pairwise_append]
    refine ⟨h.2.2, List.pairwise_singleton _ _, fun g' hg' g2 hg2 => ?_⟩
    rw [List.mem_singleton] at hg2
    subst hg2
    obtain ⟨j, a, h1, h2, h3, h4, _⟩ := h.1 g' hg'
    intro x hx hd hd2
    by_cases e : j < i
    · exact pt_apart P hpt e hi x hx (hd.trans h4.2.1.1) (hd2.trans hg.2.1.1)
    · have : j = i := by omega
      exact FX.num_apart P hp hx (ci_num_ne P h3 ht (by omega)) (hd.trans h4.2.1.2.1) (hd2.trans hg.2.1.2.1)
theorem mi_split (hp : FX.Prm P) {F v : FX.Pol (Fin P)} (hv : FX.Dv F (FX.Phi P v)) {h : List Int} (hh : FX.MI P h) (hd : FX.Dv (FX.toP P h) F) : ∃ a, a < P ∧ FX.Dv (FX.toP P h) (v - FX.Pol.const (FX.ci P (a : Int))) := by
  have hF := FX.fin_fp (p := P) hp
  obtain ⟨c, hc⟩ := FX.fp_split (p := P) hh.2.2 (hd.trans hv)
  obtain ⟨n, hn, rfl⟩ := FX.Fp.nat (p := P) c
  exact ⟨n, hn, by rw [FX.ci_nat]; exact hc⟩
theorem mi_len (hp : FX.Prm P) {h g : List Int} (hh : FX.MI P h) (hg : FX.Can P g) (hne : FX.toP P g ≠ 0) (hd : FX.Dv (FX.toP P h) (FX.toP P g)) : 2 ≤ g.length := by
  have hF := FX.fin_fp (p := P) hp
  obtain ⟨⟨n, h1, hn⟩, _⟩ := hh.2.2
  have h0 : 0 < g.length := by
    rcases Nat.eq_zero_or_pos g.length with h2 | h2
    · exact absurd ((hg.nil_iff P).2 (List.eq_nil_of_length_eq_zero h2)) hne
    · exact h2
  have := hd.dg_le hn (hg.dg P h0)
  omega
theorem gcd_ne {d f h : FX.Pol (Fin P)} (hd : FX.Gcd d f h) (hf : f ≠ 0) : d ≠ 0 := fun e => by
  obtain ⟨x, hx⟩ := hd.1
  exact hf (by rw [hx, e]; exact FX.rg)
/-- What holds of the parts when the first t of the basis are done. -/
def SI (F : FX.Pol (Fin P)) (bl parts : List (List Int)) (t : Nat) : Prop := FX.PT P F parts ∧ ∀ Q ∈ parts, ∀ k, k < t → ∃ c : Fin P, FX.Dv (FX.toP P Q) (FX.toP P (gl bl k) - FX.Pol.const c)
theorem can_ne (hp : FX.Prm P) {Q : List Int} (h : FX.Can P Q) (h2 : 2 ≤ Q.length) : FX.toP P Q ≠ 0 := by
  have hF := FX.fin_fp (p := P) hp
  exact (h.dg P (by omega)).ne
theorem SI.step (hp : FX.Prm P) {F : FX.Pol (Fin P)} {bl parts fl : List (List Int)} {t : Nat} (h : SI P F bl parts t) (hv : FX.Dv F (FX.Phi P (FX.toP P (gl bl t)))) (hf : FI P parts (FX.toP P (gl bl t)) parts.length 0 fl) : SI P F bl fl (t + 1) := by
  obtain ⟨hpt, hk⟩ := h
  refine ⟨⟨fun g hg => ?_, fun x hx hd => ?_, hf.2.2⟩, fun g hg k hkt => ?_⟩
  · obtain ⟨j, a, h1, h2, h3, h4, h5⟩ := hf.1 g hg
    exact ⟨h4.1, h4.2.2 (by omega), h5, h4.2.1.1.trans (hpt.1 _ (gl_mem h1)).2.2.2⟩
  · obtain ⟨Q, hQ, hxQ⟩ := hpt.2.1 x hx hd
    obtain ⟨j, hj, rfl⟩ := List.getElem_of_mem hQ
    have e1 : gl parts j = parts[j] := by unfold gl; rw [List.getD_eq_getElem?_getD, List.getElem?_eq_getElem hj]; rfl
    rw [← e1] at hxQ
    obtain ⟨a, ha, hxa⟩ := mi_split P hp hv hx hd
    obtain ⟨g, hg, hin⟩ := hf.2.1 j a hj ha (.inl hj)
    have hxg := hg.2.1.2.2 _ hxQ hxa
    have hjp := hpt.1 _ (gl_mem hj)
    exact ⟨g, hin (mi_len P hp hx hg.1 (gcd_ne P hg.2.1 (can_ne P hp hjp.1 hjp.2.2.1)) hxg), hxg⟩
  · obtain ⟨j, a, h1, h2, h3, h4, h5⟩ := hf.1 g hg
    by_cases e : k = t
    · rw [e]; exact ⟨_, h4.2.1.2.1⟩
    · obtain ⟨c, hc⟩ := hk _ (gl_mem h1) k (by omega)
      exact ⟨c, h4.2.1.1.trans hc⟩
/-- A polynomial's monic irreducible divisors, each once. -/
def SPQ (f : List Int) (L : List (List Int)) : Prop := (∀ g, g ∈ L ↔ FX.MI P g ∧ FX.Dv (FX.toP P g) (FX.toP P f)) ∧ L.Nodup
theorem SI.all (hp : FX.Prm P) {f : List Int} {bl parts : List (List Int)} {n : Nat} (hf : FX.Dg (FX.toP P f) n) (hs : FX.SqF (FX.toP P f)) (hb : KBQ P f n bl) (h : SI P (FX.toP P f) bl parts bl.length) : SPQ P f parts := by
  have hF := FX.fin_fp (p := P) hp
  refine FX.PT.all P hp h.1 fun Q hQ => ?_
  obtain ⟨h1, h2, h3, h4⟩ := h.1.1 Q hQ
  refine FX.irr_of (p := P) hs hf h4 (h1.dg P (by omega)) (by omega) fun u hu hd => ?_
  refine hb.2 (FX.toP P Q) (fun v hv => ?_) u hu hd
  obtain ⟨k, hk, rfl⟩ := List.getElem_of_mem hv
  have e1 : gl bl k = bl[k] := by unfold gl; rw [List.getD_eq_getElem?_getD, List.getElem?_eq_getElem hk]; rfl
  rw [← e1]
  exact h.2 Q hQ k hk
theorem SI.start {f : List Int} (hc : FX.Can P f) (hm : gt f (f.length - 1) = 1) (hl : 2 ≤ f.length) (bl : List (List Int)) : SI P (FX.toP P f) bl [f] 0 := ⟨FX.PT.one P hc hm hl, fun Q _ k hk => by omega⟩
/-- No kernel but the numbers: f is irreducible. -/
theorem spq_one (hp : FX.Prm P) {f : List Int} {n : Nat} (hc : FX.Can P f) (hm : gt f (f.length - 1) = 1) (hl : f.length = n + 1) (h0 : 0 < n) (hs : FX.SqF (FX.toP P f)) (hk : KN P f n) : SPQ P f [f] := by
  have hF := FX.fin_fp (p := P) hp
  have hd := hc.dg P (by omega)
  rw [show f.length - 1 = n by omega] at hd
  refine FX.PT.all P hp (FX.PT.one P hc hm (by omega)) fun Q hQ => ?_
  rw [List.mem_singleton] at hQ
  subst hQ
  refine FX.irr_of (p := P) hs hd (FX.Dv.refl _) hd (by omega) fun u hu hdu => ⟨u.c 0, ?_⟩
  have h1 := hk u hu hdu
  have e : u - FX.Pol.const (u.c 0) = 0 := FX.Pol.ext fun k => by
    rw [FX.Pol.sub_c, FX.Pol.const_c, FX.Pol.zero_c]
    by_cases hk0 : k = 0
    · rw [if_pos hk0, hk0]; exact FX.rg
    · rw [if_neg hk0, h1 k (by omega)]; exact FX.rg
  rw [e]; exact FX.dv_zero _
/-- The reference's parts as far as the number s. -/
def SO (f : List Int) (v : FX.Pol (Fin P)) (s : Nat) (L : List (List Int)) : Prop := (∀ g, g ∈ L ↔ FX.MI P g ∧ FX.Dv (FX.toP P g) (FX.toP P f) ∧ ∃ a, a < s ∧ FX.Dv (FX.toP P g) (v - FX.Pol.const (FX.ci P (a : Int)))) ∧ L.Nodup
theorem SO.start (f : List Int) (v : FX.Pol (Fin P)) : SO P f v 0 [] := ⟨fun g => ⟨fun h => by simp at h, fun ⟨_, _, a, ha, _⟩ => by omega⟩, List.nodup_nil⟩
theorem SO.none (hp : FX.Prm P) {f g : List Int} {v : FX.Pol (Fin P)} {s : Nat} {L : List (List Int)} (h : SO P f v s L) (hf : FX.toP P f ≠ 0) (hg : GC P f v s g) (hl : ¬ 2 ≤ g.length) : SO P f v (s + 1) L := by
  refine ⟨fun x => ?_, h.2⟩
  rw [h.1 x]
  refine ⟨fun ⟨h1, h2, a, h3, h4⟩ => ⟨h1, h2, a, by omega, h4⟩, fun ⟨h1, h2, a, h3, h4⟩ => ⟨h1, h2, a, ?_, h4⟩⟩
  by_cases e : a = s
  · rw [e] at h4
    exact absurd (mi_len P hp h1 hg.1 (gcd_ne P hg.2.1 hf) (hg.2.1.2.2 _ h2 h4)) hl
  · omega
theorem SO.add (hp : FX.Prm P) {f g : List Int} {v : FX.Pol (Fin P)} {s : Nat} {L M : List (List Int)} (h : SO P f v s L) (hsP : s < P) (hg : GC P f v s g) (hM : SPQ P g M) : SO P f v (s + 1) (L ++ M) := by
  refine ⟨fun x => ?_, ?_⟩
  · rw [List.mem_append, h.1 x, hM.1 x]
    constructor
    · rintro (⟨h1, h2, a, h3, h4⟩ | ⟨h1, h2⟩)
      · exact ⟨h1, h2, a, by omega, h4⟩
      · exact ⟨h1, h2.trans hg.2.1.1, s, by omega, h2.trans hg.2.1.2.1⟩
    · rintro ⟨h1, h2, a, h3, h4⟩
      by_cases e : a = s
      · rw [e] at h4
        exact .inr ⟨h1, hg.2.1.2.2 _ h2 h4⟩
      · exact .inl ⟨h1, h2, a, by omega, h4⟩
  · rw [List.nodup_append]
    refine ⟨h.2, hM.2, fun x hx y hy e => ?_⟩
    subst e
    obtain ⟨h1, h2, a, h3, h4⟩ := (h.1 x).1 hx
    obtain ⟨_, h5⟩ := (hM.1 x).1 hy
    exact FX.num_apart P hp h1 (ci_num_ne P (by omega) hsP (by omega)) h4 (h5.trans hg.2.1.2.1)
theorem SO.done (hp : FX.Prm P) {f : List Int} {v : FX.Pol (Fin P)} {L : List (List Int)} (h : SO P f v P L) (hv : FX.Dv (FX.toP P f) (FX.Phi P v)) : SPQ P f L := by
  refine ⟨fun g => ?_, h.2⟩
  rw [h.1 g]
  exact ⟨fun ⟨h1, h2, _⟩ => ⟨h1, h2⟩, fun ⟨h1, h2⟩ => ⟨h1, h2, mi_split P hp hv h1 h2⟩⟩
/-- The part of a number is shorter. -/
theorem gc_len (hp : FX.Prm P) {f g : List Int} {v : List Int} {a : Nat} (hv : FX.Can P v) (h2 : 2 ≤ v.length) (hg : GC P f (FX.toP P v) a g) : g.length ≤ v.length := by
  have hF := FX.fin_fp (p := P) hp
  have hdv := hv.dg P (by omega)
  have hd : FX.Dg (FX.toP P v - FX.Pol.const (FX.ci P (a : Int))) (v.length - 1) := by
    refine ⟨?_, fun k hk => ?_⟩
    · rw [FX.Pol.sub_c, FX.Pol.const_c, if_neg (by omega)]
      intro e
      exact hdv.1 (by rw [← e]; exact FX.rg)
    · rw [FX.Pol.sub_c, FX.Pol.const_c, if_neg (by omega), hdv.2 k hk]; exact FX.rg
  rcases Nat.eq_zero_or_pos g.length with h0 | h0
  · omega
  · have := hg.2.1.2.1.dg_le (hg.1.dg P h0) hd
    omega
end
end Go.Proofs.Ytifaccppbhbfhaa
/- Contract: a polynomial less a number, by the reference. -/
namespace Go.Proofs.Ytifaccppbhbfhaa
set_option linter.unusedVariables false
set_option linter.unusedSimpArgs false
open Go.RowKit

/-- A list less a number, as far as i. -/
def LS (f : List Int) (s : Int) (n i : Nat) (l : List Int) : Prop := l.length = n ∧ ∀ j, gt l j = if j < i then gt f j - (if j = 0 then s else 0) else 0
theorem LS.zero {f : List Int} {s : Int} {n : Nat} {l : List Int} (h : LS f s n 0 l) (h0 : 0 < n) : LS f s n 1 ((l.set 0 (gt f 0)).set 0 (gt f 0 - s)) := by
  obtain ⟨h1, h2⟩ := h
  refine ⟨by simp [h1], fun j => ?_⟩
  rw [gt_setI j (by rw [List.length_set]; omega), gt_setI j (by omega), h2]
  by_cases e : j = 0
  · rw [if_pos e.symm, if_pos (by omega), if_pos e, e]
  · rw [if_neg (fun e2 => e e2.symm), if_neg (fun e2 => e e2.symm), if_neg (by omega), if_neg (by omega)]
theorem LS.step {f : List Int} {s : Int} {n i : Nat} {l : List Int} (h : LS f s n i l) (hi : i < n) (h0 : 0 < i) : LS f s n (i + 1) (l.set i (gt f i)) := by
  obtain ⟨h1, h2⟩ := h
  refine ⟨by simp [h1], fun j => ?_⟩
  rw [gt_setI j (by omega), h2]
  by_cases e : i = j
  · subst e; rw [if_pos rfl, if_pos (by omega), if_neg (by omega), Int.sub_zero]
  · rw [if_neg e]
    by_cases e2 : j < i
    · rw [if_pos e2, if_pos (show j < i + 1 by omega)]
    · rw [if_neg e2, if_neg (show ¬ j < i + 1 by omega)]
/-- A list less a number. -/
def LSQ (f : List Int) (s : Int) (l : List Int) : Prop := l.length ≤ f.length ∧ ∀ j, gt l j = gt f j - (if j = 0 then s else 0)
theorem toP_lsq (P : Nat) [NeZero P] {f l : List Int} {s : Int} (h : LSQ f s l) : FX.toP P l = FX.toP P f - FX.Pol.const (FX.ci P s) := by
  rw [← FX.toP_num]
  refine FX.toP_sub P fun k => ?_
  rw [h.2 k]
  cases k with
  | zero => rfl
  | succ k => simp [gt]
set_option maxRecDepth 10000 in
set_option maxHeartbeats 2000000 in
theorem s_add1 (A A' : Option Addr) (n c c' : Nat) (f : List Int) (s : Int) (w : World) (hn : n = f.length) (h0 : 2 ≤ n) (hl : n ≤ 10) (hF : ∀ j, 0 ≤ gt f j ∧ gt f j ≤ 100) (hS : 0 ≤ s ∧ s ≤ 100) (hs : IS w w.heap.size A f) (hs' : IS w w.heap.size A' [s]) :
    Calls Try.prog 85 #[.slice A n c, .slice A' 1 c', .int .i64 (-1)] w (RVE (LSQ f s) w) := by
  have hmk := fun W => run_make_row' (P := Try.prog) 22 2 (.int .i64 0) 8 Try.underlying22 infoI64 rfl .i64 .i64 n (by omega) (by omega) W
  have hns := (NS.zero w n w.heap.size (Nat.le_refl _)).os
  have hb := (Below.refl w.heap.size w).alloc (Nat.le_refl _) (.cells (madeCells (.int .i64 0 : Value).cells n) 2)
  have hst : Hid (LS f s n 0 (List.replicate n 0)) := ⟨by simp, fun j => by rw [gt_rep, if_neg (by omega)]⟩
  have hmx : (1 : Int) < (n : Int) := by omega
  have HN := Lib.hid hn
  have HF := Lib.hid hF
  obtain ⟨b1, o1, rfl, hb1, hc1⟩ := hs'.at (k := 0) (by simp)
  have hz0 := hc1 0 (by simp)
  obtain ⟨b0, o0, rfl, hb0, hc0⟩ := hs.at (k := 0) (by omega)
  have HC := Lib.hid hc0
  clear hn hF hc1 hc0 hs hs'
  have hz1 : w.cell? ⟨b1, o1, none⟩ = some (.int .i64 s) := by simpa [gt] using hz0
  clear hz0
  obtain ⟨g, hg⟩ : ∃ g, g = w.heap.size := ⟨_, rfl⟩
  go_enter Try.func85, Try.ntmps85
  go_wp2_with (fail)
  rw [← hg] at hns ⊢
  have HG := Lib.hid hg
  clear hg
  go_loopw [8] (fun u wr => ∃ (i : Nat) (l : List Int), i ≤ n ∧ u = .int .i64 (i : Int) ∧ Hid (LS f s n i l) ∧ OS wr g l ∧ Below w.heap.size w wr) (fun u _ => n - (intOf u).toNat)
  case atStart => exact ⟨0, _, Nat.zero_le _, rfl, hst, hns, hb⟩
  case round =>
  clear hst hns hb
  obtain ⟨wo, rfl⟩ : ∃ wo : World, wo = wr := ⟨_, rfl⟩
  obtain ⟨i, l, hi, rfl, HL, hos, hb⟩ := hrel
  by_cases hlt : i < n
  · have e1 := (hb.cell (p := ⟨b0, o0 + i, none⟩) hb0).trans (HC.out i (by rw [← HN.out]; exact hlt))
    have e2 := hos.cell (j := i) (by rw [HL.out.1]; exact hlt)
    have e3 := hos.fz i
    have hset := hos.set (gt f i) (r := i) (by rw [HL.out.1]; exact hlt)
    have hb2 := hb.setCell (p := ⟨g, i, none⟩) (by rw [HG.out]; exact Nat.le_refl _) (.int .i64 (gt f i))
    by_cases hi0 : i = 0
    · subst hi0
      rw [Nat.add_zero] at e1
      have HL2 := Lib.hid (HL.out.zero (by omega))
      have hfb := HF.out 0
      have e4 := hset.cell (j := 0) (by rw [List.length_set, HL.out.1]; exact hlt)
      rw [gt_setI 0 (by rw [HL.out.1]; exact hlt), if_pos rfl] at e4
      have e5 := hset.fz 0
      have e6 := (hb2.cell (p := ⟨b1, o1, none⟩) hb1).trans hz1
      have hset2 := (hset.drewN 1).set (gt f 0 - s) (r := 0) (by rw [List.length_set, HL.out.1]; exact hlt)
      have hb3 := (below_drewN hb2 1).setCell (p := ⟨g, 0, none⟩) (by rw [HG.out]; exact Nat.le_refl _) (.int .i64 (gt f 0 - s))
      clear hset hos hb hb2
      generalize (l.set 0 (gt f 0)).set 0 (gt f 0 - s) = l3 at *
      generalize gt f 0 = x at *
      generalize gt l 0 = y at *
      have hw1 : IntKind.i64.wrap (-1 * s) = - s := by rw [IntWalk.i64_in _ (by omega)]; omega
      have hw1b : IntKind.i64.wrap (- s) = - s := IntWalk.i64_in _ (by omega)
      have hw2 : IntKind.i64.wrap (x + - s) = x - s := by rw [IntWalk.i64_in _ (by omega)]; omega
      have hw2b : IntKind.i64.wrap (x - s) = x - s := IntWalk.i64_in _ (by omega)
      have hxs : x + - s = x - s := by omega
      go_wp2_with (fail)
      generalize hwt : wo.setCell ⟨g, 0, none⟩ (.int .i64 x) = wt at *
      go_still_tail 13, (by kernel_rfl)
      change wpList _ _ _ _ _ wt.drew
      go_wp2_with (fail)
      go_roundw
      case rel => exact ⟨1, l3, by omega, by go_num, HL2, hset2, hb3⟩
      case measure => simp [intOf]; omega
    · have HL2 := Lib.hid (HL.out.step hlt (by omega))
      have hge : ¬ (i : Int) < 1 := by omega
      clear hos hb
      generalize l.set i (gt f i) = l2 at *
      generalize gt f i = x at *
      generalize gt l i = y at *
      go_wp2_with (fail)
      go_roundw
      case rel => exact ⟨i + 1, l2, by omega, by go_num, HL2, hset, hb2⟩
      case measure => simp [intOf]; omega
  · obtain rfl : n = i := by omega
    have htr := s_trim g n n l wo HL.out.1.symm (by omega) (Nat.le_refl _) hos.cs
    have HQ : Hid (LSQ f s (trimL l)) := ⟨by have := trimL_le l; have := HL.out.1; have := HN.out; omega, fun j => by
      rw [gt_trim, HL.out.2 j]
      split
      · rfl
      · rw [gt_big (xs := f) (by have := HN.out; omega), if_neg (by omega)]; rfl⟩
    generalize trimL l = tl at *
    go_wp2_with (go_at_call 37; refine htr.mono ?_; clear htr; rintro e w2 ⟨A2, c2, rfl, ho2, hb2⟩)
    go_ret
    exact ⟨tl, HQ.out, RV.pre ⟨A2, c2, rfl, ho2, hb2⟩ hb⟩
end Go.Proofs.Ytifaccppbhbfhaa
