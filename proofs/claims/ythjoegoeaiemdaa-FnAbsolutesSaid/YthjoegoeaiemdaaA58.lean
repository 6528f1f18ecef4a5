/- A region that draws its order and stores twice: the operations that may come up on either side of the first store are quiet on both sides. -/
import Derived.Test.YthjoegoeaiemdaaA57
namespace Go.Proofs.Ythjoegoeaiemdaa
set_option linter.unusedVariables false
set_option linter.unusedSimpArgs false
open Go

section
variable {P : Program} {ops : Array Oper} {md : Region.Mode} {C0 C1 : World → Prop} {T : Nat → Bool} {t : Nat} {ot : Oper}

/-- The class of worlds: before the store t, behind it. -/
def phC (C0 C1 : World → Prop) (t : Nat) (listed : Array Bool) : World → Prop := if listed.getD t false = true then C1 else C0
/-- The store t, carried out in any world of the first class, leaves one of the second. -/
def StOk (P : Program) (ops : Array Oper) (C0 C1 : World → Prop) (ot : Oper) (a : Act) : Prop :=
  Region.wanted ot (yielded ops a.tmps) = true ∧ ∀ w, C0 w → ∃ w', C1 w' ∧ (execOp a.eval ot).run P w = .ok .skip w'
def wpG (P : Program) (md : Region.Mode) (ops : Array Oper) (C0 C1 : World → Prop) (T : Nat → Bool) (t : Nat) (ot : Oper) (L : Array Bool → Act → Prop) : Nat → Array Bool → Act → Prop
  | 0, listed, a => L listed a
  | f + 1, listed, a => Region.ready md ops listed ≠ [] ∧ ∀ i ∈ Region.ready md ops listed,
      (i = t ∧ StOk P ops C0 C1 ot a ∧ wpG P md ops C0 C1 T t ot L f (listed.setIfInBounds i true) a) ∨
      (i ≠ t ∧ T i = false ∧ qOp P ops (phC C0 C1 t listed) i (wpG P md ops C0 C1 T t ot L f (listed.setIfInBounds i true)) a)
theorem phC_ne {listed : Array Bool} {i : Nat} (h : i ≠ t) : phC C0 C1 t (listed.setIfInBounds i true) = phC C0 C1 t listed := by
  unfold phC; rw [getD_set_ne false h]
theorem phC_t {listed : Array Bool} (h : t < listed.size) : phC C0 C1 t (listed.setIfInBounds t true) = C1 := by
  unfold phC; rw [if_pos (by simp [h])]
theorem phC_un {listed : Array Bool} (h : listed.getD t false = false) : phC C0 C1 t listed = C0 := by
  unfold phC; rw [if_neg (by rw [h]; simp)]
theorem wpOp_stOk {Q' : Exit → Act → World → Prop} {K : Act → World → Prop} {a : Act} {w : World} (ht : ops[t]? = some ot) (hd : ot.dst = none) (hs : StOk P ops C0 C1 ot a) (hw : C0 w) (hK : ∀ w', C1 w' → K a w') : wpOp P ops Q' t K a w := by
  obtain ⟨h1, h2⟩ := hs
  obtain ⟨w', hc, hr⟩ := h2 w hw
  unfold wpOp
  simp only [ht, h1, if_true]
  left
  unfold Oper.wp
  rw [hr, Oper.upon_skip, hd]
  exact hK w' hc
theorem wpAny_of_wpG {L : Array Bool → Act → Prop} {Q' : Exit → Act → World → Prop} {g : Nat} (ht : ops[t]? = some ot) (hd : ot.dst = none) (hL : ∀ listed a w, phC C0 C1 t listed w → L listed a → wpAny P md ops Q' g listed a w) :
    ∀ (f : Nat) (listed : Array Bool) (a : Act) (w : World), listed.size = ops.size → phC C0 C1 t listed w → wpG P md ops C0 C1 T t ot L f listed a → wpAny P md ops Q' (f + g) listed a w := by
  intro f
  induction f with
  | zero => intro listed a w _ hw h; rw [Nat.zero_add]; exact hL _ _ _ hw h
  | succ f ih =>
    intro listed a w hsz hw h
    have e : f + 1 + g = (f + g) + 1 := by omega
    rw [e]
    refine ⟨fun h0 => absurd h0 h.1, fun i hi => ?_⟩
    rcases h.2 i hi with ⟨rfl, hst, hn⟩ | ⟨hne, _, hq⟩
    · have hun := un_both (mem_ready.1 hi).1
      rw [phC_un hun] at hw
      have hlt : i < listed.size := by rw [hsz]; exact (Array.getElem?_eq_some_iff.1 ht).1
      exact wpOp_stOk ht hd hst hw (fun w' hw' => ih _ a w' (by simp [hsz]) (by rw [phC_t hlt]; exact hw') hn)
    · exact wpOp_of_qOp hw (fun a' w' hw' hk => ih _ a' w' (by simp [hsz]) (by rw [phC_ne hne]; exact hw') hk) hq
/-- An operation apart from another one does not mind whether that one's value lies there. -/
theorem qOp_put2 {C : World → Prop} {j : Nat} {oi oj : Oper} {v : Value} (hj : ops[j]? = some oj) (hap : oi.apart ops oj = true) (hsj : ∀ cs b, oj.op ≠ .select cs b) {K : Act → Prop} {a : Act}
    (h : qOp P ops C j K (a.put oi.dst v)) : qOp P ops C j (fun a' => (∃ u, a' = a.put oj.dst u) ∧ K (a'.put oi.dst v)) a := by
  obtain ⟨h1, h2, _⟩ := Oper.apart_spec hap
  unfold qOp at *
  simp only [hj] at *
  rw [wanted_put oj a oi.dst v h1] at h
  split
  · rename_i hw
    simp only [hw, if_true] at h
    obtain ⟨u, hu, hn⟩ := h
    refine ⟨u, fun w hw' => ?_, ⟨u, rfl⟩, by rw [← Act.put_comm a v u h2]; exact hn⟩
    have := hu w hw'
    unfold Oper.quietAt at *
    rwa [execOp_put oj hsj a oi.dst v h1] at this
  · rename_i hw
    simp only [hw] at h
    exact ⟨⟨_, rfl⟩, by rw [← Act.put_comm a v undef h2]; exact h⟩
theorem stOk_put {oi : Oper} {v : Value} {a : Act} (hap : oi.apart ops ot = true) (hst : ∀ cs b, ot.op ≠ .select cs b) (h : StOk P ops C0 C1 ot (a.put oi.dst v)) : StOk P ops C0 C1 ot a := by
  obtain ⟨h1, _, _⟩ := Oper.apart_spec hap
  unfold StOk at *
  rw [wanted_put ot a oi.dst v h1, execOp_put ot hst a oi.dst v h1] at h
  exact h
theorem wpG_first {L : Array Bool → Act → Prop} {i n : Nat} {oi : Oper} {v : Value} (hi : ops[i]? = some oi) (ht : ops[t]? = some ot) (hsel : ∀ (j : Nat) (o : Oper) cs b, ops[j]? = some o → o.op ≠ .select cs b)
    (hit : i ≠ t) (hT : T i = false) (hsink : ∀ s, s < ops.size → T s = true → reaches md ops n s i = true) (hdone : ∀ listed a, L listed a → ∀ j ∈ Region.ready md ops listed, T j = true ∧ j ≠ t) :
    ∀ (f : Nat) (listed : Array Bool) (a : Act), Shut md ops listed →
      (∀ j oj, ops[j]? = some oj → j ≠ i → listed.getD j true = false → (∀ e ∈ oj.after, Region.binds md e = true → e.on ≠ i) → oi.apart ops oj = true) →
      i ∈ Region.ready md ops listed → YieldsIn P ops C0 oi v a → (reaches md ops n t i = true ∨ YieldsIn P ops C1 oi v a) →
      wpG P md ops C0 C1 T t ot L f (listed.setIfInBounds i true) (a.put oi.dst v) → wpG P md ops C0 C1 T t ot L (f + 1) listed a := by
  intro f
  induction f with
  | zero =>
    intro listed a hs _ hr hy0 hy1 H
    have hun := un_both (mem_ready.1 hr).1
    have hyP : YieldsIn P ops (phC C0 C1 t listed) oi v a := by
      unfold phC
      split
      · rename_i htl
        rcases hy1 with h | h
        · rw [reaches_listed hs n t htl h] at hun; cases hun
        · exact h
      · exact hy0
    refine ⟨fun h => (by rw [h] at hr; cases hr), fun j hj => ?_⟩
    by_cases hji : j = i
    · subst hji; exact .inr ⟨hit, hT, hyP.qOp hi H⟩
    · have hd := hdone _ _ H j (ready_mono hj hji)
      have hlt : j < ops.size := by
        obtain ⟨_, o, ho, _⟩ := mem_ready.1 hj
        exact (Array.getElem?_eq_some_iff.1 ho).1
      rw [reaches_ready hs hj (hsink j hlt hd.1)] at hun
      cases hun
  | succ f ih =>
    intro listed a hs hfree hr hy0 hy1 H
    have hun := un_both (mem_ready.1 hr).1
    have hyP : YieldsIn P ops (phC C0 C1 t listed) oi v a := by
      unfold phC
      split
      · rename_i htl
        rcases hy1 with h | h
        · rw [reaches_listed hs n t htl h] at hun; cases hun
        · exact h
      · exact hy0
    refine ⟨fun h => (by rw [h] at hr; cases hr), fun j hj => ?_⟩
    by_cases hji : j = i
    · subst hji; exact .inr ⟨hit, hT, hyP.qOp hi H⟩
    · obtain ⟨hjun, oj, hoj, hall⟩ := mem_ready.1 hj
      have hlt : j < ops.size := (Array.getElem?_eq_some_iff.1 hoj).1
      have hnot : ∀ e ∈ oj.after, Region.binds md e = true → e.on ≠ i := fun e he hb heq => by
        have h2 := hall e he hb
        rw [heq, hun] at h2
        cases h2
      have hap := hfree j oj hoj hji hjun hnot
      have hfree' : ∀ k ok, ops[k]? = some ok → k ≠ i → (listed.setIfInBounds j true).getD k true = false → (∀ e ∈ ok.after, Region.binds md e = true → e.on ≠ i) → oi.apart ops ok = true := by
        intro k ok hk hki hun2 hno
        refine hfree k ok hk hki ?_ hno
        by_cases hjk : j = k
        · subst hjk; exact hjun
        · rw [getD_set_ne true hjk] at hun2; exact hun2
      rcases H.2 j (ready_mono hj hji) with ⟨hjt, hst, hn⟩ | ⟨hne, hTj, hq⟩
      · subst hjt
        have : oj = ot := Option.some.inj (hoj.symm.trans ht)
        subst this
        refine .inl ⟨rfl, stOk_put hap (fun cs b => hsel j oj cs b hoj) hst, ih (listed.setIfInBounds j true) a (hs.list hj) hfree' (ready_mono hr (Ne.symm hji)) hy0 hy1 ?_⟩
        rw [Array.setIfInBounds_comm _ _ hji]
        exact hn
      · refine .inr ⟨hne, hTj, ?_⟩
        rw [phC_ne hit] at hq
        have hq2 := qOp_put2 hoj hap (fun cs b => hsel j oj cs b hoj) hq
        obtain ⟨_, _, hx3⟩ := Oper.apart_spec hap
        refine qOp_mono (fun a' h3 => ?_) hq2
        obtain ⟨⟨u, rfl⟩, h4⟩ := h3
        have k0 : YieldsIn P ops C0 oi v (a.put oj.dst u) := hy0.of_same (execOp_put oi (fun cs b => hsel i oi cs b hi) a oj.dst u hx3) (wanted_put oi a oj.dst u hx3)
        refine ih (listed.setIfInBounds j true) _ (hs.list hj) hfree' (ready_mono hr (Ne.symm hji)) k0 (hy1.imp id fun h => h.of_same (execOp_put oi (fun cs b => hsel i oi cs b hi) a oj.dst u hx3) (wanted_put oi a oj.dst u hx3)) ?_
        rw [Array.setIfInBounds_comm _ _ hji]
        exact h4
theorem getD_rep (n t : Nat) : (Array.replicate n false).getD t false = false := by
  rcases Nat.lt_or_ge t n with h | h
  · simp [h]
  · simp [h]
/-- w behind some draws. -/
def Drw (W : World) (w' : World) : Prop := ∃ n, w' = W.drewN n
/-- The walk of operations that look at no memory: each yields its value in whatever world. -/
def wpB (P : Program) (ops : Array Oper) (Lq : Act → Prop) : List Oper → Act → Prop
  | [], a => Lq a
  | o :: rest, a => Region.wanted o (yielded ops a.tmps) = true ∧ ∃ v, (∀ W n, o.quietAt P a (Drw W) (W.drewN n) v) ∧ wpB P ops Lq rest (a.put o.dst v)
theorem yields_any {o : Oper} {v : Value} {a : Act} (hw : Region.wanted o (yielded ops a.tmps) = true) (h : ∀ W n, o.quietAt P a (Drw W) (W.drewN n) v) (W : World) : YieldsIn P ops (Drw W) o v a :=
  .inl ⟨hw, fun w ⟨n, e⟩ => by rw [e]; exact h W n⟩
/-- The order ord may be taken; pre: all of it must come before the store t. -/
def ordG (md : Region.Mode) (ops : Array Oper) (T : Nat → Bool) (t : Nat) (pre : Bool) : List Nat → Array Bool → Bool
  | [], _ => true
  | k :: ks, listed => (Region.ready md ops listed).contains k && (!(k == t) && (!T k && (Region.free md ops listed k && (((List.range ops.size).all fun s => !T s || reaches md ops ops.size s k) && ((!pre || reaches md ops ops.size t k) && ordG md ops T t pre ks (listed.setIfInBounds k true))))))
theorem wpG_lexA {L : Array Bool → Act → Prop} {Lq : Act → Prop} {F : Array Bool} {f : Nat} (ht : ops[t]? = some ot) (hsel : Region.noSelect ops = true)
    (hdone : ∀ listed a, L listed a → ∀ j ∈ Region.ready md ops listed, T j = true ∧ j ≠ t) (hnext : ∀ a, Lq a → Shut md ops F → wpG P md ops C0 C1 T t ot L f F a) :
    ∀ (ord : List Nat) (lo : List Oper) (listed : Array Bool) (a : Act), lo.map some = ord.map (fun i => ops[i]?) → listAll ord listed = F → Shut md ops listed → ordG md ops T t true ord listed = true →
      wpQuiet P ops C0 Lq lo a → wpG P md ops C0 C1 T t ot L (ord.length + f) listed a := by
  intro ord
  induction ord with
  | nil =>
    intro lo listed a hlo hl hs _ h
    have : lo = [] := by simpa using hlo
    subst this
    have : listed = F := hl
    subst this
    rw [List.length_nil, Nat.zero_add]
    exact hnext a h hs
  | cons k ks ih =>
    intro lo listed a hlo hl hs hB h
    cases lo with
    | nil => simp at hlo
    | cons o lo =>
      simp only [List.map_cons, List.cons.injEq] at hlo
      simp only [ordG, Bool.and_eq_true, Bool.not_eq_true', List.contains_iff_mem, beq_eq_false_iff_ne, Bool.not_true, Bool.false_or] at hB
      obtain ⟨hr, hkt, hTk, hf, hsk, hpre, hB'⟩ := hB
      have e0 : ops[k]? = some o := hlo.1.symm
      have hst : qOp P ops C0 k (wpQuiet P ops C0 Lq lo) a := by unfold qOp; simp only [e0]; exact h
      obtain ⟨v, hy, hK⟩ := yieldsIn_of_qOp e0 hst
      have el : (k :: ks).length + f = (ks.length + f) + 1 := by simp; omega
      rw [el]
      refine wpG_first (n := ops.size) e0 ht (Region.noSelect_spec hsel) hkt hTk (fun s hs' hTs => ?_) hdone (ks.length + f) listed a hs (Region.free_spec e0 hf) hr hy (.inl hpre)
        (ih lo _ _ hlo.2 hl (hs.list hr) hB' hK)
      have := List.all_eq_true.1 hsk s (List.mem_range.2 hs')
      rw [hTs] at this
      simpa using this
theorem wpG_lexB {W0 W1 : World} {L : Array Bool → Act → Prop} {Lq : Act → Prop} {F : Array Bool} {f : Nat} (ht : ops[t]? = some ot) (hsel : Region.noSelect ops = true)
    (hdone : ∀ listed a, L listed a → ∀ j ∈ Region.ready md ops listed, T j = true ∧ j ≠ t) (hnext : ∀ a, Lq a → Shut md ops F → wpG P md ops (Drw W0) (Drw W1) T t ot L f F a) :
    ∀ (ord : List Nat) (lo : List Oper) (listed : Array Bool) (a : Act), lo.map some = ord.map (fun i => ops[i]?) → listAll ord listed = F → Shut md ops listed → ordG md ops T t false ord listed = true →
      wpB P ops Lq lo a → wpG P md ops (Drw W0) (Drw W1) T t ot L (ord.length + f) listed a := by
  intro ord
  induction ord with
  | nil =>
    intro lo listed a hlo hl hs _ h
    have : lo = [] := by simpa using hlo
    subst this
    have : listed = F := hl
    subst this
    rw [List.length_nil, Nat.zero_add]
    exact hnext a h hs
  | cons k ks ih =>
    intro lo listed a hlo hl hs hB h
    cases lo with
    | nil => simp at hlo
    | cons o lo =>
      simp only [List.map_cons, List.cons.injEq] at hlo
      simp only [ordG, Bool.and_eq_true, Bool.not_eq_true', List.contains_iff_mem, beq_eq_false_iff_ne] at hB
      obtain ⟨hr, hkt, hTk, hf, hsk, _, hB'⟩ := hB
      have e0 : ops[k]? = some o := hlo.1.symm
      obtain ⟨hw, v, hq, hK⟩ := h
      have el : (k :: ks).length + f = (ks.length + f) + 1 := by simp; omega
      rw [el]
      refine wpG_first (n := ops.size) e0 ht (Region.noSelect_spec hsel) hkt hTk (fun s hs' hTs => ?_) hdone (ks.length + f) listed a hs (Region.free_spec e0 hf) hr (yields_any hw hq W0) (.inr (yields_any hw hq W1))
        (ih lo _ _ hlo.2 hl (hs.list hr) hB' hK)
      have := List.all_eq_true.1 hsk s (List.mem_range.2 hs')
      rw [hTs] at this
      simpa using this
theorem wpAny_one {Q' : Exit → Act → World → Prop} {F : Array Bool} {t1 : Nat} {o1 : Oper} {a : Act} {w : World} (h1 : Region.ready md ops F = [t1]) (h2 : Region.ready md ops (F.setIfInBounds t1 true) = [])
    (e1 : ops[t1]? = some o1) (H : wpList P ops Q' [o1] a w) : wpAny P md ops Q' 1 F a w := by
  refine ⟨fun h => (by rw [h1] at h; cases h), fun i hi => ?_⟩
  rw [h1] at hi
  have hi' : i = t1 := by simpa using hi
  subst hi'
  have hw : wpOp P ops Q' i (wpList P ops Q' []) a w := by unfold wpOp; simp only [e1]; exact H
  exact wpOp_mono (fun a' w' h' => ⟨h2, h'⟩) hw
/-- The region: first A (before the store t), then B (on either side of it), the store t, the address c, the store t2. -/
theorem wp_region_two {id : Nat} {Q : Exit → Act → World → Prop} {a : Act} {w : World} {l : List Oper} (w1 : World) (A B : List Nat) (t c t2 : Nat) (loA loB : List Oper) (ot oc o2 : Oper) (hm : P.follows .mixedOrders = true)
    (hA : loA.map some = A.map (fun i => l.toArray[i]?)) (hBl : loB.map some = B.map (fun i => l.toArray[i]?)) (et : l.toArray[t]? = some ot) (ec : l.toArray[c]? = some oc) (e2 : l.toArray[t2]? = some o2) (hd : ot.dst = none) (hsel : Region.noSelect l.toArray = true)
    (k1 : ordG .any l.toArray (fun s => s == t2) t true A (Array.replicate l.toArray.size false) = true)
    (k2 : ordG .any l.toArray (fun s => s == t2) t false B (listAll A (Array.replicate l.toArray.size false)) = true)
    (k3 : Region.ready .any l.toArray (listAll B (listAll A (Array.replicate l.toArray.size false))) = [t])
    (k4 : ordG .any l.toArray (fun s => s == t2) t false [c] ((listAll B (listAll A (Array.replicate l.toArray.size false))).setIfInBounds t true) = true)
    (k5 : Region.ready .any l.toArray (listAll [c] ((listAll B (listAll A (Array.replicate l.toArray.size false))).setIfInBounds t true)) = [t2])
    (k6 : Region.ready .any l.toArray ((listAll [c] ((listAll B (listAll A (Array.replicate l.toArray.size false))).setIfInBounds t true)).setIfInBounds t2 true) = [])
    (k7 : A.length + (B.length + 3) = l.toArray.size) (hne : t2 ≠ t) (k8 : (listAll B (listAll A (Array.replicate l.toArray.size false))).getD t false = false)
    (h : wpQuiet P l.toArray (Drw w) (fun a1 => wpB P l.toArray (fun a2 => StOk P l.toArray (Drw w) (Drw w1) ot a2 ∧ wpB P l.toArray (fun a3 => ∀ w', Drw w1 w' → wpList P l.toArray Q [o2] a3 w') [oc] a2) loB a1) loA a) :
    (Code.region id l.toArray true).wp P Q a w := by
  refine wp_region_any hm ?_
  have hF : ∀ j ∈ Region.ready .any l.toArray (listAll [c] ((listAll B (listAll A (Array.replicate l.toArray.size false))).setIfInBounds t true)), (j == t2) = true ∧ j ≠ t := by
    intro j hj
    rw [k5] at hj
    simp at hj
    subst hj
    exact ⟨by simp, hne⟩
  have hdone : ∀ listed (a : Act), (listed = listAll [c] ((listAll B (listAll A (Array.replicate l.toArray.size false))).setIfInBounds t true) ∧ ∀ w', Drw w1 w' → wpList P l.toArray Q [o2] a w') → ∀ j ∈ Region.ready .any l.toArray listed, (j == t2) = true ∧ j ≠ t :=
    fun listed a hL j hj => hF j (by rw [← hL.1]; exact hj)
  have key : wpG P .any l.toArray (Drw w) (Drw w1) (fun s => s == t2) t ot (fun listed a => listed = listAll [c] ((listAll B (listAll A (Array.replicate l.toArray.size false))).setIfInBounds t true) ∧ ∀ w', Drw w1 w' → wpList P l.toArray Q [o2] a w') (A.length + (B.length + 2)) (Array.replicate l.toArray.size false) a := by
    refine wpG_lexA et hsel hdone (fun a1 h1 hsA => ?_) A loA _ a hA rfl (shut_none _) k1 h
    refine wpG_lexB et hsel hdone (fun a2 h2 hsB => ?_) B loB _ a1 hBl rfl hsA k2 h1
    refine ⟨fun h => (by rw [k3] at h; cases h), fun j hj => ?_⟩
    have hj' := hj
    rw [k3] at hj'
    have hjt : j = t := by simpa using hj'
    subst hjt
    refine .inl ⟨rfl, h2.1, ?_⟩
    refine wpG_lexB (f := 0) et hsel hdone (fun a3 h3 _ => ⟨rfl, h3⟩) [c] [oc] _ a2 (by rw [List.map_cons, List.map_cons, ec]; rfl) rfl (hsB.list hj) k4 h2.2
  have hlt : t < l.toArray.size := (Array.getElem?_eq_some_iff.1 et).1
  have hszl : ∀ (ord : List Nat) (x : Array Bool), (listAll ord x).size = x.size := by
    intro ord
    induction ord with
    | nil => intro x; rfl
    | cons k ks ih => intro x; show (listAll ks (x.setIfInBounds k true)).size = _; rw [ih]; simp
  have hph : ∀ w', phC (Drw w) (Drw w1) t (listAll [c] ((listAll B (listAll A (Array.replicate l.toArray.size false))).setIfInBounds t true)) w' → Drw w1 w' := by
    intro w' hw'
    unfold phC at hw'
    rw [if_pos ?_] at hw'
    · exact hw'
    · show ((listAll [] (((listAll B (listAll A (Array.replicate l.toArray.size false))).setIfInBounds t true).setIfInBounds c true))).getD t false = true
      refine getD_set_true ?_
      simp [hszl]
      simpa using hlt
  have hfin := wpAny_of_wpG (Q' := Q) (g := 1) et hd (fun listed a' w' hw' hL => by
    have hL1 := hL.1
    subst hL1
    exact wpAny_one k5 k6 e2 (hL.2 w' (hph w' hw'))) (A.length + (B.length + 2)) _ a { w with drawn := w.drawn + 1 } (by simp) (by rw [phC_un (getD_rep _ _)]; exact ⟨1, rfl⟩) key
  have e7 : A.length + (B.length + 2) + 1 = l.toArray.size := by rw [← k7]; omega
  rw [e7] at hfin
  exact hfin
def twoB (l : List Oper) (A B : List Nat) (t c t2 : Nat) : Bool :=
  (A ++ B ++ [t, c, t2]).all (fun i => decide (i < l.length)) && (Region.noSelect l.toArray && (ordG .any l.toArray (fun s => s == t2) t true A (Array.replicate l.toArray.size false) &&
  (ordG .any l.toArray (fun s => s == t2) t false B (listAll A (Array.replicate l.toArray.size false)) &&
  (decide (Region.ready .any l.toArray (listAll B (listAll A (Array.replicate l.toArray.size false))) = [t]) &&
  (ordG .any l.toArray (fun s => s == t2) t false [c] ((listAll B (listAll A (Array.replicate l.toArray.size false))).setIfInBounds t true) &&
  (decide (Region.ready .any l.toArray (listAll [c] ((listAll B (listAll A (Array.replicate l.toArray.size false))).setIfInBounds t true)) = [t2]) &&
  (decide (Region.ready .any l.toArray ((listAll [c] ((listAll B (listAll A (Array.replicate l.toArray.size false))).setIfInBounds t true)).setIfInBounds t2 true) = []) &&
  (decide (A.length + (B.length + 3) = l.toArray.size) && (decide (t2 ≠ t) && decide ((listAll B (listAll A (Array.replicate l.toArray.size false))).getD t false = false))))))))))
theorem wp_region_two' {id : Nat} {Q : Exit → Act → World → Prop} {a : Act} {w : World} {l : List Oper} (w1 : World) (A B : List Nat) (t c t2 : Nat) (hm : P.follows .mixedOrders = true) (hB : twoB l A B t c t2 = true) (hd : (l.getD t default).dst = none)
    (h : wpQuiet P l.toArray (Drw w) (fun a1 => wpB P l.toArray (fun a2 => StOk P l.toArray (Drw w) (Drw w1) (l.getD t default) a2 ∧ wpB P l.toArray (fun a3 => ∀ w', Drw w1 w' → wpList P l.toArray Q [l.getD t2 default] a3 w') [l.getD c default] a2) (B.map fun i => l.getD i default) a1) (A.map fun i => l.getD i default) a) :
    (Code.region id l.toArray true).wp P Q a w := by
  simp only [twoB, Bool.and_eq_true, decide_eq_true_eq, List.all_eq_true] at hB
  obtain ⟨hlt, hsel, k1, k2, k3, k4, k5, k6, k7, k8, k9⟩ := hB
  have ha : ∀ i, i < l.length → l.toArray[i]? = some (l.getD i default) := by
    intro i hi
    simp [hi]
  have hm' : ∀ X : List Nat, (∀ i ∈ X, i < l.length) → (X.map fun i => l.getD i default).map some = X.map (fun i => l.toArray[i]?) := by
    intro X hX
    rw [List.map_map]
    exact List.map_congr_left fun i hi => (ha i (hX i hi)).symm
  exact wp_region_two w1 A B t c t2 _ _ _ _ _ hm (hm' A fun i hi => hlt i (by simp [hi])) (hm' B fun i hi => hlt i (by simp [hi])) (ha t (hlt t (by simp))) (ha c (hlt c (by simp))) (ha t2 (hlt t2 (by simp))) hd hsel k1 k2 k3 k4 k5 k6 k7 k8 k9 h
/-- One operation of the walk that looks at no memory. -/
theorem wpB_step {Lq : Act → Prop} {o : Oper} {rest : List Oper} {a : Act} (v : Value) (hw : Region.wanted o (yielded ops a.tmps) = true) (h : ∀ W n, o.quietAt P a (Drw W) (W.drewN n) v) (hk : wpB P ops Lq rest (a.put o.dst v)) : wpB P ops Lq (o :: rest) a := ⟨hw, v, h, hk⟩
theorem wpB_nil {Lq : Act → Prop} {a : Act} (h : Lq a) : wpB P ops Lq [] a := h
end
end Go.Proofs.Ythjoegoeaiemdaa
