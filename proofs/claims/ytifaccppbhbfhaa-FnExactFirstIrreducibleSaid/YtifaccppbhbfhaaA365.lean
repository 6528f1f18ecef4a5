/- Contract: the program's split. -/
import Derived.Test.YtifaccppbhbfhaaA364
namespace Go.Proofs.Ytifaccppbhbfhaa
set_option linter.unusedVariables false
set_option linter.unusedSimpArgs false
open Go.RowKit

theorem addS_len' (f out : List Int) (k : Nat) : (addS f out k).length = out.length := addS_len f out k
theorem addL_le (f g : List Int) : (addL f g).length ≤ max f.length g.length := by
  have h := trimL_le (addS g (addS f (List.replicate (max f.length g.length) 0) f.length) g.length)
  rw [addS_len, addS_len, List.length_replicate] at h
  exact h
section
variable (P : Nat) [NeZero P]
theorem apart_len (hp : FX.Prm P) : ∀ (L : List (List Int)) (F : FX.Pol (Fin P)) (n : Nat), FX.Dg F n → (∀ g ∈ L, FX.Can P g ∧ 2 ≤ g.length ∧ FX.Dv (FX.toP P g) F) → L.Pairwise (Apart P) → L.length ≤ n
  | [], _, _, _, _, _ => Nat.zero_le _
  | g :: L, F, n, hF, h, hpw => by
    have hFp := FX.fin_fp (p := P) hp
    obtain ⟨hc, hl, x, hx⟩ := h g (by simp)
    have hdg := hc.dg P (by omega)
    have hx0 : x ≠ 0 := fun e => hF.ne (by rw [hx, e]; exact FX.rg)
    obtain ⟨m, hm⟩ := FX.dg_ex hx0
    have hmul := hdg.mul hm
    rw [← hx] at hmul
    have hnm := hmul.uniq hF
    have hpw2 := List.pairwise_cons.1 hpw
    have := apart_len hp L x m hm (fun y hy => ?_) hpw2.2
    · rw [List.length_cons]; omega
    · obtain ⟨hyc, hyl, z, hz⟩ := h y (by simp [hy])
      refine ⟨hyc, hyl, ?_⟩
      obtain ⟨N, hN⟩ := (FX.toP P y).fin
      obtain ⟨d, u, v, hd, h1, h2⟩ := FX.bezout N (FX.toP P g) (FX.toP P y) hN
      have hd0 : d ≠ 0 := fun e => by
        obtain ⟨t, ht⟩ := h1
        exact hdg.ne (by rw [ht, e]; exact FX.rg)
      obtain ⟨k, hk⟩ := FX.dg_ex hd0
      have hk0 : k = 0 := Classical.byContradiction fun hk1 => by
        obtain ⟨q, hq, hqd⟩ := FX.irr_ex k d (by omega) hk
        obtain ⟨l, hml, hi⟩ := FX.irr_list P hp hq
        exact hpw2.1 y hy l hml ((hi _).1 (hqd.trans h1)) ((hi _).1 (hqd.trans h2))
      subst hk0
      obtain ⟨e, he⟩ := FX.unit_of hk
      refine ⟨(u * z + v * x) * e, ?_⟩
      have e1 : d * x = FX.toP P y * (u * z + v * x) := by
        have : FX.toP P g * x = FX.toP P y * z := by rw [← hx, ← hz]
        rw [hd]; exact FX.rh this u FX.rg
      have e2 : x = d * x * e := by
        rw [show d * x * e = (d * e) * x by exact FX.rg, he]; exact FX.rg
      exact FX.rh e2 1 (FX.rh e1 e FX.rg)
theorem mi_apart (hp : FX.Prm P) {L : List (List Int)} (h : ∀ g ∈ L, FX.MI P g) (hn : L.Nodup) : L.Pairwise (Apart P) := by
  rw [List.nodup_iff_pairwise_ne] at hn
  refine List.Pairwise.imp_of_mem (fun {a b} ha hb hne x hx h1 h2 => hne ?_) hn
  exact (FX.MI.eq P hp hx (h a ha) h1).symm.trans (FX.MI.eq P hp hx (h b hb) h2)
theorem mi_two (hp : FX.Prm P) {g : List Int} (h : FX.MI P g) : 2 ≤ g.length := by
  have hF := FX.fin_fp (p := P) hp
  obtain ⟨n, h1, hn⟩ := h.2.2.1
  have := h.1.len_dg P hn
  omega
theorem spq_len (hp : FX.Prm P) {f : List Int} {n : Nat} {L : List (List Int)} (hf : FX.Dg (FX.toP P f) n) (h1 : ∀ g ∈ L, FX.MI P g ∧ FX.Dv (FX.toP P g) (FX.toP P f)) (h2 : L.Nodup) : L.length ≤ n :=
  apart_len P hp L _ n hf (fun g hg => ⟨(h1 g hg).1.1, mi_two P hp (h1 g hg).1, (h1 g hg).2⟩) (mi_apart P hp (fun g hg => (h1 g hg).1) h2)
theorem fi_len (hp : FX.Prm P) {F : FX.Pol (Fin P)} {parts : List (List Int)} {v : FX.Pol (Fin P)} {i t n : Nat} {fl : List (List Int)} (hF : FX.Dg F n) (hpt : FX.PT P F parts) (h : FI P parts v i t fl) : fl.length ≤ n :=
  apart_len P hp fl F n hF (fun g hg => by
    obtain ⟨j, a, h1, _, _, h4, h5⟩ := h.1 g hg
    exact ⟨h4.1, h5, h4.2.1.1.trans (hpt.1 _ (gl_mem h1)).2.2.2⟩) h.2.2
theorem gc_of {part v l g : List Int} {a : Nat} (h : CM P part l g) (hl : FX.toP P l = FX.toP P v - FX.Pol.const (FX.ci P (a : Int))) : GC P part (FX.toP P v) a g := ⟨h.1, by rw [← hl]; exact h.2.1, h.2.2⟩
end
/-- An own list whose block is not older than a base. -/
def OAB (w : World) (b : Nat) (A : Option Addr) (c : Nat) (l : List Int) : Prop := w.ownsRow b 2 1 (.slice A l.length c) l.length (ints l)
theorem OAB.oa {w : World} {b : Nat} {A : Option Addr} {c : Nat} {l : List Int} (h : OAB w b A c l) : OA w A c l := own_mono h (Nat.zero_le _)
theorem OAB.call {w w' : World} {b : Nat} {A : Option Addr} {c : Nat} {l : List Int} (h : OAB w b A c l) (hb : Below w.heap.size w w') : OAB w' b A c l := own_below h hb
theorem OAB.mono {w : World} {b b' : Nat} {A : Option Addr} {c : Nat} {l : List Int} (h : OAB w b A c l) (hb : b' ≤ b) : OAB w b' A c l := own_mono h hb
/-- Headers that read as lists, none older than a base. -/
def RRB (w : World) (b : Nat) (vs : List Value) (ll : List (List Int)) : Prop := vs.length = ll.length ∧ ∀ i, i < ll.length → ∃ (A : Option Addr) (c : Nat), vs[i]? = some (.slice A (gl ll i).length c) ∧ OAB w b A c (gl ll i)
/-- An own list of lists, none older than a base. -/
def OLB (w : World) (B b : Nat) (A : Option Addr) (c : Nat) (ll : List (List Int)) : Prop := ∃ vs, w.ownsRow B 22 1 (.slice A ll.length c) ll.length vs ∧ RRB w b vs ll
theorem RRB.call {w w' : World} {b : Nat} {vs : List Value} {ll : List (List Int)} (h : RRB w b vs ll) (hb : Below w.heap.size w w') : RRB w' b vs ll := ⟨h.1, fun i hi => by
  obtain ⟨A, c, h1, h2⟩ := h.2 i hi
  exact ⟨A, c, h1, h2.call hb⟩⟩
theorem OLB.call {w w' : World} {B b : Nat} {A : Option Addr} {c : Nat} {ll : List (List Int)} (h : OLB w B b A c ll) (hb : Below w.heap.size w w') : OLB w' B b A c ll := by
  obtain ⟨vs, h1, h2⟩ := h
  exact ⟨vs, own_below h1 hb, h2.call hb⟩
theorem OLB.mono {w : World} {B B' b : Nat} {A : Option Addr} {c : Nat} {ll : List (List Int)} (h : OLB w B b A c ll) (hb : B' ≤ B) : OLB w B' b A c ll := by
  obtain ⟨vs, h1, h2⟩ := h
  exact ⟨vs, own_mono h1 hb, h2⟩
theorem OLB.nil (w : World) (B b : Nat) : OLB w B b none 0 [] := ⟨[], World.ownsRow_nil _ _ _ _, rfl, fun i hi => by simp at hi⟩
/-- One more list behind an append. -/
theorem OLB.push {w w' : World} {B b : Nat} {A A' A1 : Option Addr} {c c' c1 : Nat} {ll : List (List Int)} {l : List Int} {vs : List Value} (ho : w.ownsRow B 22 1 (.slice A ll.length c) ll.length vs) (hr : RRB w b vs ll) (hl : OAB w b A1 c1 l)
    (ho' : w'.ownsRow B 22 1 (.slice A' (ll.length + 1) c') (ll.length + 1) (vs ++ [.slice A1 l.length c1])) (hg : w.grownBy w' (Value.slice A ll.length c).ownBlock) : OLB w' B b A' c' (ll ++ [l]) := by
  have hne : ∀ {A2 : Option Addr} {c2 : Nat} {l2 : List Int}, OAB w b A2 c2 l2 → OAB w' b A2 c2 l2 := fun {A2 c2 l2} h => own_keep h hg (by
    cases hx : (Value.slice A ll.length c).ownBlock with
    | none =>
      by_cases e : (Value.slice A2 l2.length c2).ownBlock = none
      · exact .inr e
      · exact .inl e
    | some g =>
      refine .inl ?_
      rcases ho.2 with ⟨h1, _⟩ | ⟨g', cap, cur, h1, _, hh, _⟩
      · rw [h1] at hx; cases hx
      · rw [h1] at hx
        injection hx with hx
        have hx' : g' = g := hx
        subst hx'
        exact own_block_ne h hh (by decide))
  refine ⟨vs ++ [.slice A1 l.length c1], ?_, ?_, fun i hi => ?_⟩
  · rw [List.length_append]; exact ho'
  · rw [List.length_append, List.length_append, hr.1]; rfl
  · rw [List.length_append] at hi
    have hi' : i < ll.length + 1 := hi
    by_cases e : i = ll.length
    · subst e
      rw [gl_sn_eq]
      refine ⟨A1, c1, ?_, hne hl⟩
      rw [List.getElem?_append_right (by rw [hr.1]; exact Nat.le_refl _), hr.1]
      simp
    · obtain ⟨A2, c2, h1, h2⟩ := hr.2 i (by omega)
      rw [gl_sn_lt (by omega)]
      exact ⟨A2, c2, by rw [List.getElem?_append_left (by rw [hr.1]; omega)]; exact h1, hne h2⟩
/-- What split answers. -/
def SPR (P : Nat) [NeZero P] (f : List Int) (w : World) (e : Ending) (w' : World) : Prop := ∃ (L : List (List Int)) (A : Option Addr) (c : Nat), SPQ P f L ∧ e = .returned (.slice A L.length c) ∧ OLL w' w.heap.size A c L ∧ Below w.heap.size w w'
/-- What split answers; its parts are not older than the base of its argument. -/
def SPB (P : Nat) [NeZero P] (b : Nat) (f : List Int) (w : World) (e : Ending) (w' : World) : Prop := ∃ (L : List (List Int)) (A : Option Addr) (c : Nat), SPQ P f L ∧ e = .returned (.slice A L.length c) ∧ OLB w' w.heap.size b A c L ∧ Below w.heap.size w w'
theorem OLB.lit {w : World} {b : Nat} {A : Option Addr} {c : Nat} {f : List Int} (h : OAB w b A c f) : OLB (w.alloc (.cells #[.slice A f.length c] 22)) w.heap.size b (some ⟨w.heap.size, 0, none⟩) 1 [f] := by
  refine ⟨[.slice A f.length c], World.ownsRow_lit (base := w.heap.size) (e := 22) (size := 1) w #[.slice A f.length c] 1 (Nat.le_refl _) (by simp [maxLen]) rfl, rfl, fun i hi => ?_⟩
  have : i = 0 := by simp at hi; omega
  subst this
  exact ⟨A, c, rfl, h.call ((Below.refl _ _).alloc (Nat.le_refl _) _)⟩
theorem OLL.lit {w : World} {A : Option Addr} {c : Nat} {f : List Int} (h : OA w A c f) : OLL (w.alloc (.cells #[.slice A f.length c] 22)) w.heap.size (some ⟨w.heap.size, 0, none⟩) 1 [f] := by
  refine ⟨[.slice A f.length c], World.ownsRow_lit (base := w.heap.size) (e := 22) (size := 1) w #[.slice A f.length c] 1 (Nat.le_refl _) (by simp [maxLen]) rfl, rfl, fun i hi => ?_⟩
  have : i = 0 := by simp at hi; omega
  subst this
  exact ⟨A, c, rfl, h.call ((Below.refl _ _).alloc (Nat.le_refl _) _)⟩
theorem OLL.at {w : World} {B : Nat} {A : Option Addr} {c : Nat} {ll : List (List Int)} (h : OLL w B A c ll) {i : Nat} (hi : i < ll.length) : ∃ (g : Nat) (A1 : Option Addr) (c1 : Nat), A = some ⟨g, 0, none⟩ ∧ g < w.heap.size ∧ w.cell? ⟨g, i, none⟩ = some (.slice A1 (gl ll i).length c1) ∧ OA w A1 c1 (gl ll i) := by
  obtain ⟨vs, h1, h2, h3⟩ := h
  obtain ⟨A1, c1, h4, h5⟩ := h3 i hi
  obtain ⟨g, h6, h8, h7⟩ := own_cell h1 h4 (by omega)
  exact ⟨g, A1, c1, h6, h8, h7, h5⟩
theorem OLB.at {w : World} {B b : Nat} {A : Option Addr} {c : Nat} {ll : List (List Int)} (h : OLB w B b A c ll) {i : Nat} (hi : i < ll.length) : ∃ (g : Nat) (A1 : Option Addr) (c1 : Nat), A = some ⟨g, 0, none⟩ ∧ g < w.heap.size ∧ w.cell? ⟨g, i, none⟩ = some (.slice A1 (gl ll i).length c1) ∧ OAB w b A1 c1 (gl ll i) := by
  obtain ⟨vs, h1, h2, h3⟩ := h
  obtain ⟨A1, c1, h4, h5⟩ := h3 i hi
  obtain ⟨g, h6, h8, h7⟩ := own_cell h1 h4 (by omega)
  exact ⟨g, A1, c1, h6, h8, h7, h5⟩
theorem OLL.max {w : World} {B : Nat} {A : Option Addr} {c : Nat} {ll : List (List Int)} (h : OLL w B A c ll) : ll.length ≤ maxLen := by
  obtain ⟨vs, h1, _⟩ := h
  rcases h1.2 with ⟨_, h2⟩ | ⟨g, cap, cur, _, _, _, h2, h3, _⟩
  · omega
  · omega
theorem OLB.max {w : World} {B b : Nat} {A : Option Addr} {c : Nat} {ll : List (List Int)} (h : OLB w B b A c ll) : ll.length ≤ maxLen := by
  obtain ⟨vs, h1, _⟩ := h
  rcases h1.2 with ⟨_, h2⟩ | ⟨g, cap, cur, _, _, _, h2, h3, _⟩
  · omega
  · omega
set_option maxRecDepth 20000 in
set_option maxHeartbeats 2000000 in
theorem i_split (P : Nat) [NeZero P] (hP : P ≤ 97) (hp : FX.Prm P) (A : Option Addr) (c : Nat) (f : List Int) (w : World) (h2 : 2 ≤ f.length) (hl : f.length ≤ 9) (hf : FX.Can P f) (hm : gt f (f.length - 1) = 1) (hsq : FX.SqF (FX.toP P f)) (b : Nat) (hB : b ≤ w.heap.size) (hs : OAB w b A c f) :
    Calls Try.prog 52 #[.int .i64 (P : Int), .slice A f.length c] w (SPB P b f w) := by
  have hp2 : 2 ≤ P := hp.1
  have h1 : 0 < P := by omega
  obtain ⟨i1, hi1, hy0, hy1, hy2⟩ := info_parts infoSl
  obtain ⟨n, hn⟩ : ∃ n, f.length = n + 1 := ⟨f.length - 1, by omega⟩
  have hdg := hf.dg P (by omega)
  rw [show f.length - 1 = n by omega] at hdg
  have hk := fun W a => i_kernel P hP hp A n f.length c f W rfl hn (by omega) (by omega) hf a
  have hba := (Below.refl w.heap.size w).alloc (Nat.le_refl _) (.cells #[.slice A f.length c] 22)
  have hol := OLB.lit hs
  have hk1 := hk _ (hs.oa.call hba).is
  have hsi := fun bl => SI.start P hf hm h2 bl
  have hall := fun bl parts a b => SI.all P hp (f := f) (bl := bl) (parts := parts) hdg hsq a b
  have hcom := fun A A' c c' f g W a b x y z t => i_common P hP hp A A' c c' f g W a b x y z t
  have hred := fun A n c l W => i_red (P : Int) A n c l W (by omega) (by omega)
  have hpl : ∀ Q ∈ [f], Q.length ≤ 9 := fun Q hQ => by rw [List.mem_singleton] at hQ; rw [hQ]; exact hl
  have HSI := Lib.hid hsi
  have HALL := Lib.hid hall
  have HDG := Lib.hid hdg
  have HOL := Lib.hid hol
  clear hsi hall hdg hol hk hf hsq hs hm hpl
  generalize hnf : f.length = nf at *
  have HNF := Lib.hid hnf
  have hn8 : n ≤ 8 := by omega
  have HNN := Lib.hid hn
  clear hnf hn
  go_enter Try.func52, Try.ntmps52
  go_wp2_with (go_at_call 76; refine hk1.mono ?_; clear hk1; rintro e w2 ⟨bl, Ab, cb, hkb, rfl, hob, hb2⟩)
  have HOB := Lib.hid (hob.mono hba.size)
  have HO2 := Lib.hid (HOL.out.call hb2)
  have hb02 := bel_call hba hb2
  have HKB := Lib.hid hkb
  have HS0 := Lib.hid (HSI.out bl)
  obtain ⟨Lb, hLb⟩ : ∃ Lb, Lb = bl.length := ⟨_, rfl⟩
  rw [← hLb]
  have HLB := Lib.hid hLb
  clear hob hb2 hba hkb HOL HSI hLb
  go_wp2_with (fail)
  go_loopw [5, 21] (fun u5 u21 wr => ∃ (t Lp cp : Nat) (Ap : Option Addr) (parts : List (List Int)), t ≤ Lb ∧ u21 = .int .i64 (t : Int) ∧ Hid (Lp = parts.length) ∧ u5 = .slice Ap Lp cp ∧ Hid (SI P (FX.toP P f) bl parts t) ∧ Hid (OLB wr w.heap.size b Ap cp parts) ∧ Hid (OLL wr w.heap.size Ab cb bl) ∧ Below w.heap.size w wr) (fun _ u21 _ => Lb - (intOf u21).toNat)
  case atStart => exact ⟨0, 1, 1, some ⟨w.heap.size, 0, none⟩, [f], Nat.zero_le _, rfl, rfl, rfl, HS0, HO2, HOB, hb02⟩
  case round =>
  clear HS0 HO2 HOB hb02
  obtain ⟨w1, rfl⟩ : ∃ w1 : World, w1 = wr := ⟨_, rfl⟩
  obtain ⟨t, Lp, cp, Ap, parts, ht, rfl, HLP, rfl, HSI, HOP, HOB, hb⟩ := hrel
  have hm1 : Lp ≤ 9223372036854775807 := by have := HOP.out.max; have := HLP.out; simp only [maxLen] at *; omega
  have hm2 : Lb ≤ 9223372036854775807 := by have := HOB.out.max; have := HLB.out; simp only [maxLen] at *; omega
  by_cases htl : t < Lb
  · obtain ⟨gb, Av, cv, rfl, _, e1, hov⟩ := HOB.out.at (i := t) (by rw [← HLB.out]; exact htl)
    have HVK := Lib.hid (HKB.out.1 _ (gl_mem (ll := bl) (i := t) (by rw [← HLB.out]; exact htl)))
    have HSTEP : Hid (∀ fl, FI P parts (FX.toP P (gl bl t)) parts.length 0 fl → SI P (FX.toP P f) bl fl (t + 1)) := fun fl hfl => HSI.out.step P hp HVK.out.2.2 hfl
    generalize hvd : gl bl t = v at *
    obtain ⟨nv, hnv⟩ : ∃ nv, nv = v.length := ⟨_, rfl⟩
    rw [← hnv] at e1
    unfold OA at hov
    rw [← hnv] at hov
    have HNV := Lib.hid hnv
    have HOV := Lib.hid hov
    have hvl : nv ≤ 8 := by have := HVK.out.2.1; omega
    clear hvd hov hnv
    have HF0 := Lib.hid (FI.start P parts (FX.toP P v))
    have HOF : Hid (OLB w1 w1.heap.size b none 0 []) := OLB.nil w1 _ _
    have hbr := Below.refl w1.heap.size w1
    go_wp2_with (fail)
    go_loopw [9, 27] (fun u9 u27 wr => ∃ (i Lf cf : Nat) (Af : Option Addr) (fl : List (List Int)), i ≤ Lp ∧ u27 = .int .i64 (i : Int) ∧ Hid (Lf = fl.length) ∧ u9 = .slice Af Lf cf ∧ Hid (FI P parts (FX.toP P v) i 0 fl) ∧ Hid (OLB wr w1.heap.size b Af cf fl) ∧ Below w1.heap.size w1 wr) (fun _ u27 _ => Lp - (intOf u27).toNat)
    case atStart => exact ⟨0, 0, 0, none, [], Nat.zero_le _, rfl, rfl, rfl, HF0, HOF, hbr⟩
    case round =>
    clear HF0 HOF hbr
    obtain ⟨wo, rfl⟩ : ∃ wo : World, wo = wr := ⟨_, rfl⟩
    obtain ⟨i, Lf, cf, Af, fl, hi, rfl, HLF, rfl, HFI, HOF, hb1⟩ := hrel
    by_cases hil : i < Lp
    · obtain ⟨gp, Aq, cq, rfl, hgp, e2w, hoq⟩ := HOP.out.at (i := i) (by rw [← HLP.out]; exact hil)
      have e2 := (hb1.cell (p := ⟨gp, i, none⟩) hgp).trans e2w
      clear e2w
      have HQ := Lib.hid (HSI.out.1.1 _ (gl_mem (ll := parts) (i := i) (by rw [← HLP.out]; exact hil)))
      have hql : (gl parts i).length ≤ 9 := by
        have hF := FX.fin_fp (p := P) hp
        have := HQ.out.2.2.2.dg_le (HQ.out.1.dg P (by have := HQ.out.2.2.1; omega)) HDG.out
        omega
      have HNONE : Hid (∀ t2 fl g, FI P parts (FX.toP P v) i t2 fl → GC P (gl parts i) (FX.toP P v) t2 g → ¬ 2 ≤ g.length → FI P parts (FX.toP P v) i (t2 + 1) fl) := fun t2 fl g a b d => FI.none P a b d
      have HADD : Hid (∀ t2 fl g, t2 < P → FI P parts (FX.toP P v) i t2 fl → GC P (gl parts i) (FX.toP P v) t2 g → 2 ≤ g.length → FI P parts (FX.toP P v) i (t2 + 1) (fl ++ [g])) := fun t2 fl g x a b d => FI.add P hp HSI.out.1 a (by rw [← HLP.out]; exact hil) x b d
      have HLEN : Hid (∀ t2 fl, FI P parts (FX.toP P v) i t2 fl → fl.length ≤ n) := fun t2 fl a => fi_len P hp HDG.out HSI.out.1 a
      generalize gl parts i = Q at *
      obtain ⟨nq, hnq⟩ : ∃ nq, nq = Q.length := ⟨_, rfl⟩
      have HOQ := Lib.hid hoq.oa
      have HNQ := Lib.hid hnq
      rw [← hnq] at e2
      clear hoq hnq
      go_wp2_with (fail)
      go_loopw [9, 32] (fun u9 u32 wr => ∃ (t2 Lf cf : Nat) (Af : Option Addr) (fl : List (List Int)), t2 ≤ P ∧ u32 = .int .i64 (t2 : Int) ∧ Hid (Lf = fl.length) ∧ u9 = .slice Af Lf cf ∧ Hid (FI P parts (FX.toP P v) i t2 fl) ∧ Hid (OLB wr w1.heap.size b Af cf fl) ∧ Below w1.heap.size w1 wr) (fun _ u32 _ => P - (intOf u32).toNat)
      case atStart => exact ⟨0, Lf, cf, Af, fl, Nat.zero_le _, rfl, HLF, rfl, HFI, HOF, hb1⟩
      case round =>
      clear HFI HOF
      obtain ⟨wt, rfl⟩ : ∃ wt : World, wt = wr := ⟨_, rfl⟩
      obtain ⟨t2, Lf, cf, Af, fl, ht2, rfl, HLF, rfl, HFI, HOF, hb3⟩ := hrel
      by_cases ht2P : t2 < P
      · have hovt := own_below HOV.out hb3
        have hoqt := HOQ.out.call hb3
        have hba := (Below.refl wt.heap.size wt).alloc (Nat.le_refl _) (.cells #[.int .i64 (-(t2 : Int))] 2)
        have his : IS (wt.alloc (.cells #[.int .i64 (-(t2 : Int))] 2)) (wt.alloc (.cells #[.int .i64 (-(t2 : Int))] 2)).heap.size (some ⟨wt.heap.size, 0, none⟩) [-(t2 : Int)] := own_isn (l := [-(t2 : Int)]) (own_one wt (.int .i64 (-(t2 : Int))) 2) rfl
        have hsum := i_sumOf Av (some ⟨wt.heap.size, 0, none⟩) nv cv 1 1 97 97 v [-(t2 : Int)] _ HNV.out rfl (by omega) (by omega) (fun k => can_bd P HVK.out.1 hP k) (fun k => by
          cases k with
          | zero => show (-(t2 : Int)).natAbs ≤ 97; omega
          | succ k => simp [gt]) (by omega) ((own_isn hovt HNV.out).call hba) his
        have hsl : (addL v [-(t2 : Int)]).length ≤ 9 := by
          have := addL_le v [-(t2 : Int)]
          have h3 := HNV.out
          simp only [List.length_singleton] at this
          omega
        have htp : FX.toP P (addL v [-(t2 : Int)]) = FX.toP P v - FX.Pol.const (FX.ci P (t2 : Int)) := by
          rw [FX.toP_addL, FX.toP_num, show (-(t2 : Int)) = 0 - (t2 : Int) by omega, FX.ci_sub, FX.ci_0, FX.const_sub, FX.const_zero]; exact FX.rg
        generalize addL v [-(t2 : Int)] = sl at *
        have hrl : Hid (FX.toP P (trimL (sl.map (· % (P : Int)))) = FX.toP P v - FX.Pol.const (FX.ci P (t2 : Int)) ∧ FX.Can P (trimL (sl.map (· % (P : Int)))) ∧ (trimL (sl.map (· % (P : Int)))).length ≤ 10) := ⟨by rw [toP_red]; exact htp, can_red P sl, by have := red_len (P : Int) sl; omega⟩
        obtain ⟨rl, hrle⟩ : ∃ rl, rl = trimL (sl.map (· % (P : Int))) := ⟨_, rfl⟩
        rw [← hrle] at hrl
        have HRE := Lib.hid hrle
        have hsl2 : sl.length ≤ 1000 := by omega
        have hcq := fun A6 c6 W x y => hcom Aq A6 cq c6 Q rl W (Nat.le_trans hql (by omega)) hrl.out.2.2 HQ.out.1 hrl.out.2.1 x y
        have hw1 : IntKind.i64.wrap (-(t2 : Int)) = -(t2 : Int) := IntWalk.i64_in _ (by omega)
        have HSL := Lib.hid (show sl.length = sl.length from rfl)
        rw [← HNQ.out] at hcq
        have hoq2 := hoqt
        unfold OA at hoq2
        rw [← HNQ.out] at hoq2
        clear htp hsl hrle his hovt hoqt hql
        go_wp2_with (first
          | (go_at_call 77; refine hsum.mono ?_; clear hsum; rintro e w5 ⟨A5, c5, rfl, ho5, hb5⟩; have hr6 := hred A5 sl.length c5 sl w5 rfl hsl2 (own_isn ho5 rfl); rw [← HRE.out] at hr6)
          | (go_at_call 24; refine hr6.mono ?_; clear hr6; rintro e w6 ⟨A6, c6, rfl, ho6, hb6⟩; have hb56 := bel_call (bel_call hba hb5) hb6; have hc7 := hcq A6 c6 w6 (by have h := own_below hoq2 hb56; rw [HNQ.out] at h; exact h) (OA.of ho6 rfl)))
        refine hc7.mono ?_
        clear hc7
        rintro e w7 ⟨gg, hgg, A7, c7, rfl, ho7, hb7⟩
        have HGC := Lib.hid (gc_of P hgg hrl.out.1)
        have hb57 := bel_call hb56 hb7
        have HOF7 := Lib.hid (HOF.out.call hb57)
        have hb37 := bel_call hb3 hb57
        have HO7 := Lib.hid (show OAB w7 b A7 c7 gg from own_mono ho7 (Nat.le_trans hB (Nat.le_trans hb.size (Nat.le_trans hb3.size hb56.size))))
        obtain ⟨ng, hng⟩ : ∃ ng, ng = gg.length := ⟨_, rfl⟩
        rw [← hng]
        have HNG := Lib.hid hng
        clear hgg hba hb5 hb6 hb56 hb7 hb57 ho5 ho6 ho7 hoq2 hrl hcq HOF hb3
        by_cases hg1 : 1 < ng
        · have HFN := Lib.hid (HADD.out t2 fl gg ht2P HFI.out HGC.out (by rw [← HNG.out]; exact hg1))
          have hLfn : Lf ≤ 8 := by have := HLEN.out t2 fl HFI.out; have := HLF.out; omega
          have hw1s := hb37.size
          clear hng
          obtain ⟨vs, hov7, hrr⟩ := HOF7.out
          rw [← HLF.out] at hov7
          have hba7 := (Below.refl w7.heap.size w7).alloc (Nat.le_refl _) (.cells #[.slice A7 ng c7] 22)
          have HBA := Lib.hid hba7
          have HRR := Lib.hid hrr
          clear hrr hba7
          go_wp2_with (at_builtin; go_loud (refine wpList_append_src rfl (.tmp 48) (.tmp 50) 50 rfl w1.heap.size 22 i1 (.slice none 0 0) 1 24 Try.underlying50 hi1 hy0 hy1 hy2 rfl (by omega) (.slice Af Lf cf) Lf vs rfl (own_below hov7 HBA.out) (some ⟨w7.heap.size, 0, none⟩) 1 1 [.slice A7 ng c7] rfl rfl (one_src w7 (.slice A7 ng c7) 22) (by intro h; cases h) (by intro u hu; simp at hu; subst hu; rfl) (by simp only [maxLen]; omega) (by omega) (by simp; omega) ?_; intro v8 w8 o8 g8 ha; obtain ⟨A8, c8, rfl, _⟩ := own_slice' o8))
          have hpush : OLB w8 w1.heap.size b A8 c8 (fl ++ [gg]) := OLB.push (by rw [← HLF.out]; exact own_below hov7 HBA.out) (HRR.out.call HBA.out) (HO7.out.call HBA.out) (by rw [← HLF.out, ← HNG.out]; exact o8) (by rw [← HLF.out]; exact g8)
          have HPU := Lib.hid hpush
          have hbx := (bel_call hb37 HBA.out).grown g8 (by simp; omega) (fun g' hg' => (hov7.lt g' hg').1)
          have HL2 : Hid (Lf + 1 = (fl ++ [gg]).length) := by unfold Hid; rw [List.length_append, ← HLF.out]; rfl
          clear g8 ha o8 hov7 hpush
          go_roundw
          case rel => exact ⟨t2 + 1, Lf + 1, c8, A8, fl ++ [gg], by omega, by go_num, HL2, rfl, HFN, HPU, hbx⟩
          case measure => simp [intOf]; omega
        · have HFN := Lib.hid (HNONE.out t2 fl gg HFI.out HGC.out (by rw [← HNG.out]; omega))
          have hg2 : (ng : Int) ≤ 1 := by omega
          clear hng
          go_wp2_with (fail)
          go_roundw
          case rel => exact ⟨t2 + 1, Lf, cf, Af, fl, by omega, by go_num, HLF, rfl, HFN, HOF7, hb37⟩
          case measure => simp [intOf]; omega
      · obtain ⟨P', rfl⟩ : ∃ P', P' = t2 := ⟨_, rfl⟩
        have htP : P' = P := by omega
        have HFN := Lib.hid (FI.next P (by rw [htP] at HFI; exact HFI.out))
        clear htP
        go_wp2_with (fail)
        go_roundw
        case rel => exact ⟨i + 1, Lf, cf, Af, fl, by omega, by go_num, HLF, rfl, HFN, HOF, hb3⟩
        case measure => simp [intOf]; omega
    · obtain rfl : i = Lp := by omega
      have HSN := Lib.hid (HSTEP.out fl (by rw [← HLP.out]; exact HFI.out))
      have HOM := Lib.hid (HOF.out.mono hb.size)
      have HOBN := Lib.hid (HOB.out.call hb1)
      go_wp2_with (fail)
      go_roundw
      case rel => exact ⟨t + 1, Lf, cf, Af, fl, by omega, by go_num, HLF, rfl, HSN, HOM, HOBN, bel_call hb hb1⟩
      case measure => simp [intOf]; omega
  · obtain rfl : t = Lb := by omega
    have hq := HALL.out bl parts HKB.out (by rw [← HLB.out]; exact HSI.out)
    have HQ := Lib.hid hq
    clear hq
    go_wp2_with (fail)
    go_ret
    exact ⟨parts, Ap, cp, HQ.out, by rw [HLP.out]; rfl, HOP.out, hb⟩
end Go.Proofs.Ytifaccppbhbfhaa
