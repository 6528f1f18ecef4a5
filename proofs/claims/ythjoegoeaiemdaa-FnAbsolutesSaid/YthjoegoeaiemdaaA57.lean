/- A region that draws its order: all its operations but two last stores only read and call quietly; the two stores come last. -/
import Derived.Deep.Quiet
import Derived.Tactics
namespace Go.Proofs.Ythjoegoeaiemdaa
set_option linter.unusedVariables false
set_option linter.unusedSimpArgs false
open Go

section
variable {P : Program} {ops : Array Oper} {md : Region.Mode} {C : World → Prop} {T : Nat → Bool}

/-- Whatever order is picked, until only operations of T may come up. -/
def wpT (P : Program) (md : Region.Mode) (ops : Array Oper) (C : World → Prop) (T : Nat → Bool) (L : Array Bool → Act → Prop) : Nat → Array Bool → Act → Prop
  | 0, listed, a => L listed a
  | f + 1, listed, a => Region.ready md ops listed ≠ [] ∧ ∀ i ∈ Region.ready md ops listed, T i = false ∧ qOp P ops C i (wpT P md ops C T L f (listed.setIfInBounds i true)) a
theorem wpAny_of_wpT {L : Array Bool → Act → Prop} {Q' : Exit → Act → World → Prop} {g : Nat} (hL : ∀ listed a w, C w → L listed a → wpAny P md ops Q' g listed a w) :
    ∀ (f : Nat) (listed : Array Bool) (a : Act) (w : World), C w → wpT P md ops C T L f listed a → wpAny P md ops Q' (f + g) listed a w := by
  intro f
  induction f with
  | zero => intro listed a w hw h; rw [Nat.zero_add]; exact hL _ _ _ hw h
  | succ f ih =>
    intro listed a w hw h
    have e : f + 1 + g = (f + g) + 1 := by omega
    rw [e]
    exact ⟨fun h0 => absurd h0 h.1, fun i hi => wpOp_of_qOp hw (fun a' w' hw' hk => ih _ a' w' hw' hk) (h.2 i hi).2⟩
/-- What has come up, has all come up that it waits for. -/
def Shut (md : Region.Mode) (ops : Array Oper) (listed : Array Bool) : Prop :=
  ∀ j oj, ops[j]? = some oj → listed.getD j false = true → ∀ e ∈ oj.after, Region.binds md e = true → listed.getD e.on false = true
theorem un_both {listed : Array Bool} {i : Nat} (h : listed.getD i true = false) : listed.getD i false = false := by
  rcases Nat.lt_or_ge i listed.size with h' | h'
  · simp [h'] at h ⊢; exact h
  · simp [Array.getElem?_eq_none h'] at h
theorem Shut.list {listed : Array Bool} (hs : Shut md ops listed) {i : Nat} (hi : i ∈ Region.ready md ops listed) : Shut md ops (listed.setIfInBounds i true) := by
  obtain ⟨_, oi, hoi, hall⟩ := mem_ready.1 hi
  intro j oj hj hl e he hb
  by_cases hij : i = j
  · subst hij
    have : oj = oi := Option.some.inj (hj.symm.trans hoi)
    subst this
    exact getD_set_true (hall e he hb)
  · rw [getD_set_ne false hij] at hl
    exact getD_set_true (hs j oj hj hl e he hb)
/-- t waits for i, at once or by others. -/
def reaches (md : Region.Mode) (ops : Array Oper) : Nat → Nat → Nat → Bool
  | 0, _, _ => false
  | f + 1, t, i => match ops[t]? with
    | none => false
    | some o => o.after.any fun e => Region.binds md e && (e.on == i || reaches md ops f e.on i)
theorem reaches_spec {f t i : Nat} (h : reaches md ops (f + 1) t i = true) : ∃ o, ops[t]? = some o ∧ ∃ e ∈ o.after, Region.binds md e = true ∧ (e.on = i ∨ reaches md ops f e.on i = true) := by
  unfold reaches at h
  split at h
  · cases h
  · rename_i o ho
    obtain ⟨e, he, hb⟩ := Array.any_eq_true'.1 h
    simp only [Bool.and_eq_true, Bool.or_eq_true, beq_iff_eq] at hb
    exact ⟨o, ho, e, he, hb.1, hb.2⟩
theorem reaches_listed {listed : Array Bool} (hs : Shut md ops listed) {i : Nat} : ∀ f t, listed.getD t false = true → reaches md ops f t i = true → listed.getD i false = true := by
  intro f
  induction f with
  | zero => intro t _ h; simp [reaches] at h
  | succ f ih =>
    intro t ht h
    obtain ⟨o, ho, e, he, hb, h1⟩ := reaches_spec h
    have h2 := hs t o ho ht e he hb
    rcases h1 with h1 | h1
    · rw [← h1]; exact h2
    · exact ih _ h2 h1
theorem reaches_ready {listed : Array Bool} (hs : Shut md ops listed) {i f t : Nat} (ht : t ∈ Region.ready md ops listed) (h : reaches md ops f t i = true) : listed.getD i false = true := by
  cases f with
  | zero => simp [reaches] at h
  | succ f =>
    obtain ⟨o, ho, e, he, hb, h1⟩ := reaches_spec h
    obtain ⟨_, o', ho', hall⟩ := mem_ready.1 ht
    have : o' = o := Option.some.inj (ho'.symm.trans ho)
    subst this
    have h2 := hall e he hb
    rcases h1 with h1 | h1
    · rw [← h1]; exact h2
    · exact reaches_listed hs f _ h2 h1
theorem wpT_first {L : Array Bool → Act → Prop} {i n : Nat} {oi : Oper} {v : Value} (hi : ops[i]? = some oi) (hsel : ∀ (j : Nat) (o : Oper) cs b, ops[j]? = some o → o.op ≠ .select cs b)
    (hT : T i = false) (hsink : ∀ t, t < ops.size → T t = true → reaches md ops n t i = true) (hdone : ∀ listed a, L listed a → ∀ j ∈ Region.ready md ops listed, T j = true) :
    ∀ (f : Nat) (listed : Array Bool) (a : Act), Shut md ops listed →
      (∀ j oj, ops[j]? = some oj → j ≠ i → listed.getD j true = false → (∀ e ∈ oj.after, Region.binds md e = true → e.on ≠ i) → oi.apart ops oj = true) →
      i ∈ Region.ready md ops listed → YieldsIn P ops C oi v a →
      wpT P md ops C T L f (listed.setIfInBounds i true) (a.put oi.dst v) → wpT P md ops C T L (f + 1) listed a := by
  intro f
  induction f with
  | zero =>
    intro listed a hs _ hr hy H
    have hun := un_both (mem_ready.1 hr).1
    refine ⟨fun h => (by rw [h] at hr; cases hr), fun j hj => ?_⟩
    have hTj : T j = false := by
      cases hx : T j with
      | false => rfl
      | true =>
        have hlt : j < ops.size := by
          obtain ⟨_, o, ho, _⟩ := mem_ready.1 hj
          exact (Array.getElem?_eq_some_iff.1 ho).1
        rw [reaches_ready hs hj (hsink j hlt hx)] at hun
        cases hun
    refine ⟨hTj, ?_⟩
    by_cases hji : j = i
    · subst hji; exact hy.qOp hi H
    · have := hdone _ _ H j (ready_mono hj hji)
      rw [hTj] at this; cases this
  | succ f ih =>
    intro listed a hs hfree hr hy H
    have hun := un_both (mem_ready.1 hr).1
    refine ⟨fun h => (by rw [h] at hr; cases hr), fun j hj => ?_⟩
    have hTj : T j = false := by
      cases hx : T j with
      | false => rfl
      | true =>
        have hlt : j < ops.size := by
          obtain ⟨_, o, ho, _⟩ := mem_ready.1 hj
          exact (Array.getElem?_eq_some_iff.1 ho).1
        rw [reaches_ready hs hj (hsink j hlt hx)] at hun
        cases hun
    refine ⟨hTj, ?_⟩
    by_cases hji : j = i
    · subst hji; exact hy.qOp hi H
    · have h1 := (H.2 j (ready_mono hj hji)).2
      obtain ⟨hjun, oj, hoj, hall⟩ := mem_ready.1 hj
      have hnot : ∀ e ∈ oj.after, Region.binds md e = true → e.on ≠ i := fun e he hb heq => by
        have h2 := hall e he hb
        rw [heq, hun] at h2
        cases h2
      have h2 := qOp_put hoj (hfree j oj hoj hji hjun hnot) (fun cs b => hsel i oi cs b hi) (fun cs b => hsel j oj cs b hoj) hy h1
      refine qOp_mono (fun a' h3 => ih (listed.setIfInBounds j true) a' (hs.list hj) (fun k ok hk hki hun2 hno => ?_) (ready_mono hr (Ne.symm hji)) h3.1 ?_) h2
      · refine hfree k ok hk hki ?_ hno
        by_cases hjk : j = k
        · subst hjk; exact hjun
        · rw [getD_set_ne true hjk] at hun2; exact hun2
      · rw [Array.setIfInBounds_comm _ _ hji]
        exact h3.2
/-- The order ord may be taken, operation by operation. -/
def ordB (md : Region.Mode) (ops : Array Oper) (T : Nat → Bool) : List Nat → Array Bool → Bool
  | [], _ => true
  | k :: ks, listed => (Region.ready md ops listed).contains k && (!T k && (Region.free md ops listed k && (((List.range ops.size).all fun t => !T t || reaches md ops ops.size t k) && ordB md ops T ks (listed.setIfInBounds k true))))
def listAll (ord : List Nat) (listed : Array Bool) : Array Bool := ord.foldl (fun l k => l.setIfInBounds k true) listed
theorem wpT_lex {Lq : Act → Prop} {F : Array Bool} (hsel : Region.noSelect ops = true) (hF : ∀ j ∈ Region.ready md ops F, T j = true) :
    ∀ (ord : List Nat) (lo : List Oper) (listed : Array Bool) (a : Act), lo.map some = ord.map (fun i => ops[i]?) → listAll ord listed = F → Shut md ops listed → ordB md ops T ord listed = true →
      wpQuiet P ops C Lq lo a → wpT P md ops C T (fun listed' a' => listed' = F ∧ Lq a') ord.length listed a := by
  intro ord
  induction ord with
  | nil =>
    intro lo listed a hlo hl _ _ h
    have : lo = [] := by simpa using hlo
    subst this
    exact ⟨hl, h⟩
  | cons k ks ih =>
    intro lo listed a hlo hl hs hB h
    cases lo with
    | nil => simp at hlo
    | cons o lo =>
      simp only [List.map_cons, List.cons.injEq] at hlo
      simp only [ordB, Bool.and_eq_true, Bool.not_eq_true', List.contains_iff_mem] at hB
      obtain ⟨hr, hTk, hf, hsk, hB'⟩ := hB
      have h0 : ops[k]? = some o := hlo.1.symm
      have hst : qOp P ops C k (wpQuiet P ops C Lq lo) a := by unfold qOp; simp only [h0]; exact h
      obtain ⟨v, hy, hK⟩ := yieldsIn_of_qOp h0 hst
      refine wpT_first (n := ops.size) h0 (Region.noSelect_spec hsel) hTk (fun t ht hTt => ?_) (fun listed' a' hL j hj => hF j (by rw [← hL.1]; exact hj)) ks.length listed a hs (Region.free_spec h0 hf) hr hy
        (ih lo _ _ hlo.2 hl (hs.list hr) hB' hK)
      have := List.all_eq_true.1 hsk t (List.mem_range.2 ht)
      rw [hTt] at this
      simpa using this
theorem wpAny_two {Q' : Exit → Act → World → Prop} {F : Array Bool} {t1 t2 : Nat} {o1 o2 : Oper} {a : Act} {w : World} (h1 : Region.ready md ops F = [t1]) (h2 : Region.ready md ops (F.setIfInBounds t1 true) = [t2])
    (h3 : Region.ready md ops ((F.setIfInBounds t1 true).setIfInBounds t2 true) = []) (e1 : ops[t1]? = some o1) (e2 : ops[t2]? = some o2) (H : wpList P ops Q' [o1, o2] a w) : wpAny P md ops Q' 2 F a w := by
  refine ⟨fun h => (by rw [h1] at h; cases h), fun i hi => ?_⟩
  rw [h1] at hi
  have hi' : i = t1 := by simpa using hi
  subst hi'
  have hw : wpOp P ops Q' i (wpList P ops Q' [o2]) a w := by unfold wpOp; simp only [e1]; exact H
  refine wpOp_mono (fun a' w' h' => ?_) hw
  refine ⟨fun h => (by rw [h2] at h; cases h), fun j hj => ?_⟩
  rw [h2] at hj
  have hj' : j = t2 := by simpa using hj
  subst hj'
  have hw2 : wpOp P ops Q' j (wpList P ops Q' []) a' w' := by unfold wpOp; simp only [e2]; exact h'
  exact wpOp_mono (fun a'' w'' h'' => ⟨h3, h''⟩) hw2
theorem shut_none (n : Nat) : Shut md ops (Array.replicate n false) := by
  intro j oj _ hl
  rcases Nat.lt_or_ge j n with h | h
  · simp [h] at hl
  · simp [h] at hl
/-- The region: the order ord for all but t1 and t2, which come last. -/
theorem wp_region_tail2 {id : Nat} {Q : Exit → Act → World → Prop} {a : Act} {w : World} {l : List Oper} (ord : List Nat) (t1 t2 : Nat) (lo : List Oper) (o1 o2 : Oper) (hm : P.follows .mixedOrders = true)
    (hlo : lo.map some = ord.map (fun i => l.toArray[i]?)) (e1 : l.toArray[t1]? = some o1) (e2 : l.toArray[t2]? = some o2) (hsel : Region.noSelect l.toArray = true)
    (hB : ordB .any l.toArray (fun t => t == t1 || t == t2) ord (Array.replicate l.toArray.size false) = true)
    (h1 : Region.ready .any l.toArray (listAll ord (Array.replicate l.toArray.size false)) = [t1])
    (h2 : Region.ready .any l.toArray ((listAll ord (Array.replicate l.toArray.size false)).setIfInBounds t1 true) = [t2])
    (h3 : Region.ready .any l.toArray (((listAll ord (Array.replicate l.toArray.size false)).setIfInBounds t1 true).setIfInBounds t2 true) = [])
    (hn : ord.length + 2 = l.toArray.size)
    (h : wpQuiet P l.toArray (fun w' => ∃ n, w' = w.drewN n) (fun a' => ∀ w', (∃ n, w' = w.drewN n) → wpList P l.toArray Q [o1, o2] a' w') lo a) : (Code.region id l.toArray true).wp P Q a w := by
  refine wp_region_any hm ?_
  rw [← hn]
  refine wpAny_of_wpT (C := fun w' => ∃ n, w' = w.drewN n) (T := fun t => t == t1 || t == t2) (L := fun listed' a' => listed' = listAll ord (Array.replicate l.toArray.size false) ∧ ∀ w', (∃ n, w' = w.drewN n) → wpList P l.toArray Q [o1, o2] a' w')
    (fun listed a' w' hw' hL => ?_) _ _ _ _ ⟨1, rfl⟩ ?_
  · rw [hL.1]; exact wpAny_two h1 h2 h3 e1 e2 (hL.2 w' hw')
  · refine wpT_lex hsel (fun j hj => ?_) ord lo _ a hlo (by rw [← hn]) (by rw [hn]; exact shut_none _) (by rw [hn]; exact hB) h
    rw [h1] at hj
    simp at hj
    simp [hj]
/-- The same, where the operation between the two stores is an address: '.., store, address, store'. -/
theorem wp_region_tail3 {id : Nat} {Q : Exit → Act → World → Prop} {a : Act} {w : World} {l : List Oper} (n : Nat) (hm : P.follows .mixedOrders = true) (hlen : l.length = n + 3)
    (hB : (Region.noSelect l.toArray && (ordB .any l.toArray (fun t => t == n || t == n + 2) (List.range n ++ [n + 1]) (Array.replicate l.toArray.size false) &&
      (decide (Region.ready .any l.toArray (listAll (List.range n ++ [n + 1]) (Array.replicate l.toArray.size false)) = [n]) &&
      (decide (Region.ready .any l.toArray ((listAll (List.range n ++ [n + 1]) (Array.replicate l.toArray.size false)).setIfInBounds n true) = [n + 2]) &&
      decide (Region.ready .any l.toArray (((listAll (List.range n ++ [n + 1]) (Array.replicate l.toArray.size false)).setIfInBounds n true).setIfInBounds (n + 2) true) = []))))) = true)
    (h : wpQuiet P l.toArray (fun w' => ∃ n, w' = w.drewN n) (fun a' => ∀ w', (∃ n, w' = w.drewN n) → wpList P l.toArray Q ((l.drop n).take 1 ++ (l.drop (n + 2)).take 1) a' w') (l.take n ++ (l.drop (n + 1)).take 1) a) : (Code.region id l.toArray true).wp P Q a w := by
  simp only [Bool.and_eq_true, decide_eq_true_eq] at hB
  obtain ⟨b1, b2, b3, b4, b5⟩ := hB
  have hd : ∀ k, k < l.length → (l.drop k).take 1 = [l[k]!] := by
    intro k hk
    rw [List.drop_eq_getElem_cons hk, List.take_succ_cons, List.take_zero, getElem!_pos l k hk]
  have ha : ∀ k, k < l.length → l.toArray[k]? = some l[k]! := by
    intro k hk
    simp [hk]
  rw [hd n (by omega), hd (n + 2) (by omega)] at h
  refine wp_region_tail2 (List.range n ++ [n + 1]) n (n + 2) _ _ _ hm ?_ (ha n (by omega)) (ha (n + 2) (by omega)) b1 b2 b3 b4 b5 (by simp; omega) h
  rw [hd (n + 1) (by omega), List.map_append, List.map_append]
  congr 1
  · apply List.ext_getElem
    · simp; omega
    · intro i h1 h2
      simp at h1 h2
      simp [show i < l.length by omega]
  · rw [List.map_cons, List.map_cons, ha (n + 1) (by omega)]; rfl
end
end Go.Proofs.Ythjoegoeaiemdaa
