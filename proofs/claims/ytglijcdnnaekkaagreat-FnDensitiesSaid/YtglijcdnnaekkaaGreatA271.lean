/- Several parts of the proof in one text; each part says what it shows. Nothing is assumed. -/
import Derived.Test.YtglijcdnnaekkaaGreatA251
import Derived.Test.YtglijcdnnaekkaaGreatA162
import Derived.Test.YtglijcdnnaekkaaGreatA163
/- Shares: types in order with their counts, in plain terms. -/
namespace Go.Proofs.YtglijcdnnaekkaaGreat
set_option linter.unusedVariables false
set_option linter.unusedSimpArgs false
open Go.RowKit

theorem cmpT_lt {a b : List Int} : cmpT a b < 0 ↔ b.length < a.length ∨ (a.length = b.length ∧ lexC a b < 0) := by
  unfold cmpT cmpN
  by_cases h1 : b.length < a.length
  · have h1' : (b.length : Int) < (a.length : Int) := by omega
    simp [h1', h1]
  · by_cases h2 : a.length < b.length
    · have h2' : (a.length : Int) < (b.length : Int) := by omega
      have h1' : ¬ (b.length : Int) < (a.length : Int) := by omega
      simp [h1', h2']
      omega
    · have h1' : ¬ (b.length : Int) < (a.length : Int) := by omega
      have h2' : ¬ (a.length : Int) < (b.length : Int) := by omega
      simp [h1', h2']
      omega
theorem cmpT_eq0 {a b : List Int} : cmpT a b = 0 ↔ a = b := by
  constructor
  · intro h
    unfold cmpT cmpN at h
    by_cases h1 : (b.length : Int) < (a.length : Int)
    · simp [h1] at h
    · by_cases h2 : (a.length : Int) < (b.length : Int)
      · simp [h1, h2] at h
      · simp [h1, h2] at h
        exact lexC_eq0 h
  · rintro rfl
    unfold cmpT cmpN
    simp [lexC_self]
theorem cmpT_anti (a b : List Int) : cmpT b a = - cmpT a b := by
  unfold cmpT cmpN
  by_cases h1 : (b.length : Int) < (a.length : Int)
  · have h2 : ¬ (a.length : Int) < (b.length : Int) := by omega
    simp [h1, h2]
  · by_cases h2 : (a.length : Int) < (b.length : Int)
    · simp [h1, h2]
    · simp [h1, h2]
      exact lexC_anti a b
theorem cmpT_trans {a b c : List Int} (h1 : cmpT a b < 0) (h2 : cmpT b c < 0) : cmpT a c < 0 := by
  rw [cmpT_lt] at h1 h2 ⊢
  rcases h1 with h1 | ⟨h1, k1⟩ <;> rcases h2 with h2 | ⟨h2, k2⟩
  · exact .inl (by omega)
  · exact .inl (by omega)
  · exact .inl (by omega)
  · exact .inr ⟨by omega, lexC_trans k1 k2⟩
/-- Where a type stands or would stand. -/
def atS (t : List Int) : List (List Int) → Nat
  | [] => 0
  | r :: ts => if cmpT r t < 0 then atS t ts + 1 else 0
theorem atS_le (t : List Int) : ∀ ts : List (List Int), atS t ts ≤ ts.length
  | [] => Nat.le_refl _
  | r :: ts => by
    unfold atS
    have := atS_le t ts
    split
    · simp; omega
    · simp
theorem gl_zero (r : List Int) (ts : List (List Int)) : gl (r :: ts) 0 = r := rfl
theorem gl_succ (r : List Int) (ts : List (List Int)) (j : Nat) : gl (r :: ts) (j + 1) = gl ts j := by simp [gl]
theorem atS_lt {t : List Int} : ∀ {ts : List (List Int)} {j : Nat}, j < atS t ts → cmpT (gl ts j) t < 0
  | [], _, h => by simp [atS] at h
  | r :: ts, j, h => by
    unfold atS at h
    split at h
    · rename_i h1
      rcases j with _ | j
      · exact h1
      · rw [gl_succ]; exact atS_lt (by omega)
    · omega
theorem atS_at {t : List Int} : ∀ {ts : List (List Int)}, atS t ts < ts.length → ¬ cmpT (gl ts (atS t ts)) t < 0
  | [], h => by simp at h
  | r :: ts, h => by
    unfold atS at h ⊢
    split at h
    · rename_i h1
      rw [if_pos h1, gl_succ]
      exact atS_at (by simp at h; omega)
    · rename_i h1
      rw [if_neg h1]
      exact h1
theorem atS_unique {t : List Int} {ts : List (List Int)} {k : Nat} (hk : k ≤ ts.length) (h1 : ∀ j, j < k → cmpT (gl ts j) t < 0) (h2 : k < ts.length → ¬ cmpT (gl ts k) t < 0) : k = atS t ts := by
  have hle := atS_le t ts
  rcases Nat.lt_trichotomy k (atS t ts) with h | h | h
  · exact absurd (atS_lt h) (h2 (by omega))
  · exact h
  · exact absurd (h1 _ h) (atS_at (by omega))
/-- A type is in its place. -/
def hasS (t : List Int) (ts : List (List Int)) : Bool := decide (atS t ts < ts.length ∧ gl ts (atS t ts) = t)
def shrI (ts : List (List Int)) (t : List Int) : List (List Int) := if hasS t ts = true then ts else ts.take (atS t ts) ++ [t] ++ ts.drop (atS t ts)
/-- The types among the first i, in order. -/
def shO (ts : List (List Int)) : Nat → List (List Int)
  | 0 => []
  | i + 1 => shrI (shO ts i) (gl ts i)
def cntT (ts : List (List Int)) (i : Nat) (x : List Int) : Nat := ((List.range i).filter fun j => decide (gl ts j = x)).length
def ctL (ts : List (List Int)) (i : Nat) (out : List (List Int)) : List Int := out.map fun x => (cntT ts i x : Int)
theorem cntT_succ (ts : List (List Int)) (i : Nat) (x : List Int) : cntT ts (i + 1) x = cntT ts i x + if gl ts i = x then 1 else 0 := by
  unfold cntT
  rw [List.range_succ, List.filter_append, List.length_append]
  by_cases h : gl ts i = x
  · simp [h]
  · simp [h]
theorem cntT_le (ts : List (List Int)) (i : Nat) (x : List Int) : cntT ts i x ≤ i := by
  have := List.length_filter_le (fun j => decide (gl ts j = x)) (List.range i)
  rwa [List.length_range] at this
theorem cntT_zero {ts : List (List Int)} {i : Nat} {x : List Int} (h : ∀ j, j < i → gl ts j ≠ x) : cntT ts i x = 0 := by
  unfold cntT
  rw [List.length_eq_zero_iff, List.filter_eq_nil_iff]
  intro j hj e
  exact h j (List.mem_range.1 hj) (of_decide_eq_true e)
theorem cntT_pos {ts : List (List Int)} {i j : Nat} {x : List Int} (hj : j < i) (h : gl ts j = x) : 0 < cntT ts i x := by
  unfold cntT
  exact List.length_pos_of_mem (List.mem_filter.2 ⟨List.mem_range.2 hj, decide_eq_true h⟩)
theorem shrI_mem {ts : List (List Int)} {t x : List Int} : x ∈ shrI ts t ↔ x ∈ ts ∨ x = t := by
  unfold shrI
  by_cases h : hasS t ts = true
  · rw [if_pos h]
    unfold hasS at h
    have h := of_decide_eq_true h
    constructor
    · exact .inl
    · rintro (h1 | rfl)
      · exact h1
      · rw [← h.2]; exact gl_mem h.1
  · rw [if_neg h]
    rw [List.mem_append, List.mem_append, List.mem_singleton]
    constructor
    · rintro ((h1 | h1) | h1)
      · exact .inl (List.mem_of_mem_take h1)
      · exact .inr h1
      · exact .inl (List.mem_of_mem_drop h1)
    · rintro (h1 | h1)
      · rw [← List.take_append_drop (atS t ts) ts, List.mem_append] at h1
        rcases h1 with h1 | h1
        · exact .inl (.inl h1)
        · exact .inr h1
      · exact .inl (.inr h1)
theorem shO_mem {ts : List (List Int)} {x : List Int} : ∀ {i : Nat}, x ∈ shO ts i ↔ ∃ j, j < i ∧ gl ts j = x
  | 0 => by simp [shO]
  | i + 1 => by
    show x ∈ shrI _ _ ↔ _
    rw [shrI_mem, shO_mem (i := i)]
    constructor
    · rintro (⟨j, hj, e⟩ | rfl)
      · exact ⟨j, by omega, e⟩
      · exact ⟨i, by omega, rfl⟩
    · rintro ⟨j, hj, e⟩
      by_cases h : j = i
      · subst h; exact .inr e.symm
      · exact .inl ⟨j, by omega, e⟩
theorem gl_pair {R : List Int → List Int → Prop} {ts : List (List Int)} (h : ts.Pairwise R) {i j : Nat} (hij : i < j) (hj : j < ts.length) : R (gl ts i) (gl ts j) := by
  have := List.pairwise_iff_getElem.1 h i j (by omega) hj hij
  simpa [gl, List.getElem?_eq_getElem hj, List.getElem?_eq_getElem (show i < ts.length by omega)] using this
theorem cmp_down {ts : List (List Int)} {t : List Int} (h : ts.Pairwise fun a b => cmpT a b < 0) {i j : Nat} (hij : j ≤ i) (hi : i < ts.length) (hc : cmpT (gl ts i) t < 0) : cmpT (gl ts j) t < 0 := by
  rcases Nat.lt_or_ge j i with hlt | hge
  · exact cmpT_trans (gl_pair h hlt hi) hc
  · obtain rfl : j = i := by omega
    exact hc
theorem cmp_up {ts : List (List Int)} {t : List Int} (h : ts.Pairwise fun a b => cmpT a b < 0) {i j : Nat} (hij : i ≤ j) (hj : j < ts.length) (hc : ¬ cmpT (gl ts i) t < 0) : ¬ cmpT (gl ts j) t < 0 := fun h' => hc (cmp_down h hij hj h')
theorem mem_take_gl {ts : List (List Int)} {k : Nat} {x : List Int} (h : x ∈ ts.take k) : ∃ j, j < k ∧ j < ts.length ∧ gl ts j = x := by
  obtain ⟨j, hj, e⟩ := mem_gl.1 h
  rw [List.length_take] at hj
  refine ⟨j, by omega, by omega, ?_⟩
  rw [← e, gl_take (by omega)]
theorem mem_drop_gl {ts : List (List Int)} {k : Nat} {x : List Int} (h : x ∈ ts.drop k) : ∃ j, k ≤ j ∧ j < ts.length ∧ gl ts j = x := by
  obtain ⟨j, hj, e⟩ := mem_gl.1 h
  rw [List.length_drop] at hj
  refine ⟨k + j, by omega, by omega, ?_⟩
  rw [← e, gl_drop]
theorem shrI_strict {ts : List (List Int)} {t : List Int} (h : ts.Pairwise fun a b => cmpT a b < 0) : (shrI ts t).Pairwise fun a b => cmpT a b < 0 := by
  unfold shrI
  by_cases hb : hasS t ts = true
  · rw [if_pos hb]; exact h
  rw [if_neg hb]
  have hno : ¬ (atS t ts < ts.length ∧ gl ts (atS t ts) = t) := fun e => hb (decide_eq_true e)
  have h1 : ∀ x ∈ ts.take (atS t ts), cmpT x t < 0 := fun x hx => by
    obtain ⟨j, hj, _, rfl⟩ := mem_take_gl hx
    exact atS_lt hj
  have h2 : ∀ x ∈ ts.drop (atS t ts), cmpT t x < 0 := fun x hx => by
    obtain ⟨j, hj, hjl, rfl⟩ := mem_drop_gl hx
    have hlt : atS t ts < ts.length := by omega
    have h3 := cmp_up h hj hjl (atS_at hlt)
    have h4 : cmpT (gl ts j) t ≠ 0 := fun e => by
      have e := cmpT_eq0.1 e
      rcases Nat.lt_or_ge (atS t ts) j with hq | hq
      · have h5 := gl_pair h hq hjl
        rw [e] at h5
        exact atS_at hlt h5
      · obtain rfl : j = atS t ts := by omega
        exact hno ⟨hlt, e⟩
    have := cmpT_anti (gl ts j) t
    omega
  rw [List.append_assoc, List.pairwise_append]
  refine ⟨h.sublist (List.take_sublist _ _), ?_, ?_⟩
  · rw [List.singleton_append, List.pairwise_cons]
    exact ⟨fun x hx => h2 x hx, h.sublist (List.drop_sublist _ _)⟩
  · intro a ha b hb
    rw [List.singleton_append, List.mem_cons] at hb
    rcases hb with rfl | hb
    · exact h1 a ha
    · exact cmpT_trans (h1 a ha) (h2 b hb)
theorem shO_strict (ts : List (List Int)) : ∀ i, (shO ts i).Pairwise fun a b => cmpT a b < 0
  | 0 => List.Pairwise.nil
  | i + 1 => shrI_strict (shO_strict ts i)
theorem shrI_len (ts : List (List Int)) (t : List Int) : (shrI ts t).length = if hasS t ts = true then ts.length else ts.length + 1 := by
  unfold shrI
  split
  · rfl
  · have := atS_le t ts
    simp only [List.length_append, List.length_take, List.length_drop, List.length_singleton]
    omega
theorem shO_len (ts : List (List Int)) : ∀ i, (shO ts i).length ≤ i
  | 0 => Nat.le_refl _
  | i + 1 => by
    show (shrI _ _).length ≤ _
    rw [shrI_len]
    have := shO_len ts i
    split <;> omega
theorem shrI_at (ts : List (List Int)) (t : List Int) : atS t ts < (shrI ts t).length ∧ gl (shrI ts t) (atS t ts) = t := by
  have hle := atS_le t ts
  rw [shrI_len]
  unfold shrI
  by_cases hb : hasS t ts = true
  · rw [if_pos hb, if_pos hb]
    exact of_decide_eq_true hb
  · rw [if_neg hb, if_neg hb]
    refine ⟨by omega, ?_⟩
    have hl : (ts.take (atS t ts)).length = atS t ts := by rw [List.length_take]; omega
    rw [List.append_assoc, gl_app, if_neg (by omega), hl, Nat.sub_self]
    rfl
theorem strict_inj {ts : List (List Int)} (h : ts.Pairwise fun a b => cmpT a b < 0) {i j : Nat} (hi : i < ts.length) (hj : j < ts.length) (e : gl ts i = gl ts j) : i = j := by
  rcases Nat.lt_trichotomy i j with q | q | q
  · have := gl_pair h q hj
    rw [e, cmpT_eq0.2 rfl] at this
    omega
  · exact q
  · have := gl_pair h q hi
    rw [e, cmpT_eq0.2 rfl] at this
    omega
theorem ctL_len (ts : List (List Int)) (i : Nat) (out : List (List Int)) : (ctL ts i out).length = out.length := by simp [ctL]
theorem ctL_gt {ts : List (List Int)} {i : Nat} {out : List (List Int)} {k : Nat} (h : k < out.length) : gt (ctL ts i out) k = (cntT ts i (gl out k) : Int) := by
  simp [ctL, gt, gl, List.getElem?_eq_getElem h]
theorem list_ext_gt {a b : List Int} (h : a.length = b.length) (h2 : ∀ k, k < a.length → gt a k = gt b k) : a = b := by
  apply List.ext_getElem h
  intro k hk hk'
  have := h2 k hk
  simpa [gt, List.getElem?_eq_getElem hk, List.getElem?_eq_getElem hk'] using this
theorem gt_set {a : List Int} {k j : Nat} {x : Int} (hk : k < a.length) : gt (a.set k x) j = if j = k then x else gt a j := by
  simp only [gt, List.getD_eq_getElem?_getD, List.getElem?_set]
  by_cases h : k = j
  · subst h; simp [hk]
  · rw [if_neg h, if_neg (fun e => h e.symm)]
/-- One more of a type that is in its place. -/
theorem ctL_more (ts : List (List Int)) (i : Nat) : ctL ts (i + 1) (shO ts (i + 1)) = (ctL ts i (shO ts (i + 1))).set (atS (gl ts i) (shO ts i)) (gt (ctL ts i (shO ts (i + 1))) (atS (gl ts i) (shO ts i)) + 1) := by
  obtain ⟨h1, h2⟩ := shrI_at (shO ts i) (gl ts i)
  change atS (gl ts i) (shO ts i) < (shO ts (i + 1)).length at h1
  change gl (shO ts (i + 1)) _ = _ at h2
  refine list_ext_gt (by simp [ctL_len]) fun k hk => ?_
  rw [ctL_len] at hk
  rw [gt_set (by rw [ctL_len]; exact h1), ctL_gt hk, cntT_succ]
  by_cases e : k = atS (gl ts i) (shO ts i)
  · subst e
    rw [if_pos rfl, ctL_gt h1, h2, if_pos rfl]
    omega
  · rw [if_neg e, ctL_gt hk, if_neg (fun e2 => e (strict_inj (shO_strict ts (i + 1)) hk h1 (by rw [h2, e2])))]
    omega
theorem has_iff {ts : List (List Int)} {i : Nat} : hasS (gl ts i) (shO ts i) = true ↔ gl ts i ∈ shO ts i := by
  unfold hasS
  rw [decide_eq_true_eq]
  constructor
  · intro h; rw [← h.2]; exact gl_mem h.1
  · intro h
    obtain ⟨j, hj, e⟩ := mem_gl.1 h
    have : j = atS (gl ts i) (shO ts i) := atS_unique (by omega) (fun q hq => by rw [← e]; exact gl_pair (shO_strict ts i) hq hj) (fun _ => by rw [e, cmpT_eq0.2 rfl]; omega)
    rw [← this]
    exact ⟨hj, e⟩
/-- A new type has been none of the types so far. -/
theorem ctL_new {ts : List (List Int)} {i : Nat} (h : hasS (gl ts i) (shO ts i) = false) : ctL ts i (shO ts (i + 1)) = (ctL ts i (shO ts i)).take (atS (gl ts i) (shO ts i)) ++ [0] ++ (ctL ts i (shO ts i)).drop (atS (gl ts i) (shO ts i)) := by
  have h0 : cntT ts i (gl ts i) = 0 := cntT_zero fun j hj e => by
    have := has_iff.2 (shO_mem.2 ⟨j, hj, e⟩)
    rw [h] at this
    cases this
  show ctL ts i (shrI _ _) = _
  unfold shrI
  rw [if_neg (by rw [h]; simp)]
  unfold ctL
  rw [List.map_append, List.map_append, List.map_take, List.map_drop, List.map_singleton, h0]
  rfl
/-- The cells of shares. -/
def shC : List Value → List Int → List Value
  | v :: vs, c :: cs => v :: .int .i64 c :: shC vs cs
  | _, _ => []
theorem shC_len : ∀ {vs : List Value} {cs : List Int}, vs.length = cs.length → (shC vs cs).length = vs.length * 2
  | [], [], _ => rfl
  | v :: vs, c :: cs, h => by simp [shC, shC_len (vs := vs) (cs := cs) (by simpa using h)]; omega
  | [], _ :: _, h => by simp at h
  | _ :: _, [], h => by simp at h
theorem shC_at : ∀ {vs : List Value} {cs : List Int} {k : Nat}, vs.length = cs.length → k < vs.length → (shC vs cs)[k * 2]? = some (gv vs k) ∧ (shC vs cs)[k * 2 + 1]? = some (.int .i64 (gt cs k))
  | [], _, _, _, h => by simp at h
  | v :: vs, [], _, h, _ => by simp at h
  | v :: vs, c :: cs, 0, _, _ => ⟨rfl, rfl⟩
  | v :: vs, c :: cs, k + 1, h, hk => by
    have := shC_at (vs := vs) (cs := cs) (k := k) (by simpa using h) (by simpa using hk)
    rw [show (k + 1) * 2 = k * 2 + 1 + 1 by omega]
    refine ⟨?_, ?_⟩
    · show (shC vs cs)[k * 2]? = _
      rw [this.1]; simp [gv]
    · show (shC vs cs)[k * 2 + 1]? = _
      rw [this.2]; simp [gt]
theorem shC_app : ∀ {v1 v2 : List Value} {c1 c2 : List Int}, v1.length = c1.length → shC (v1 ++ v2) (c1 ++ c2) = shC v1 c1 ++ shC v2 c2
  | [], _, [], _, _ => rfl
  | v :: v1, v2, c :: c1, c2, h => by simp [shC, shC_app (v1 := v1) (v2 := v2) (c1 := c1) (c2 := c2) (by simpa using h)]
  | [], _, _ :: _, _, h => by simp at h
  | _ :: _, _, [], _, h => by simp at h
theorem shC_take : ∀ {vs : List Value} {cs : List Int} (k : Nat), (shC vs cs).take (k * 2) = shC (vs.take k) (cs.take k)
  | [], _, k => by simp [shC]
  | v :: vs, [], k => by cases k <;> simp [shC]
  | v :: vs, c :: cs, 0 => by simp [shC]
  | v :: vs, c :: cs, k + 1 => by
    rw [show (k + 1) * 2 = k * 2 + 1 + 1 by omega]
    simp [shC, shC_take (vs := vs) (cs := cs) k]
theorem shC_nil (vs : List Value) : shC vs [] = [] := by cases vs <;> rfl
theorem shC_drop : ∀ {vs : List Value} {cs : List Int} (k : Nat), (shC vs cs).drop (k * 2) = shC (vs.drop k) (cs.drop k)
  | [], _, k => by simp [shC]
  | v :: vs, [], k => by simp [shC_nil]
  | v :: vs, c :: cs, 0 => by simp
  | v :: vs, c :: cs, k + 1 => by
    rw [show (k + 1) * 2 = k * 2 + 1 + 1 by omega]
    simp [shC, shC_drop (vs := vs) (cs := cs) k]
theorem shC_set : ∀ {vs : List Value} {cs : List Int} {k : Nat} {x : Int}, vs.length = cs.length → k < vs.length → (shC vs cs).set (k * 2 + 1) (.int .i64 x) = shC vs (cs.set k x)
  | [], _, _, _, _, h => by simp at h
  | v :: vs, [], _, _, h, _ => by simp at h
  | v :: vs, c :: cs, 0, _, _, _ => rfl
  | v :: vs, c :: cs, k + 1, x, h, hk => by
    rw [show (k + 1) * 2 + 1 = k * 2 + 1 + 1 + 1 by omega]
    simp [shC, shC_set (vs := vs) (cs := cs) (k := k) (x := x) (by simpa using h) (by simpa using hk)]
end Go.Proofs.YtglijcdnnaekkaaGreat
/- Shares: a type's place in a list of shares (slices.BinarySearchFunc). -/
namespace Go.Proofs.YtglijcdnnaekkaaGreat
set_option linter.unusedVariables false
set_option linter.unusedSimpArgs false
open Go.RowKit

set_option maxHeartbeats 1000000 in
theorem i_shCmp (A A' : Option Addr) (n c n' c' : Nat) (cnt : Int) (xs ys : List Int) (w : World) (hn : n = xs.length) (hn' : n' = ys.length) (hl : n ≤ 6) (hl' : n' ≤ 6) (hs : IS w w.heap.size A xs) (hs' : IS w w.heap.size A' ys) :
    Calls Tryz.prog 148 #[.agg #[.slice A n c, .int .i64 cnt], .slice A' n' c'] w (M (.int .i64 (cmpT xs ys)) w) := by
  have B0 := BK.new w 59 #[.slice A n c, .int .i64 cnt]
  obtain ⟨c0, c1, _, _⟩ := B0.two
  have hb0 := (Below.refl w.heap.size w).alloc (Nat.le_refl _) (.cells #[.slice A n c, .int .i64 cnt] 59)
  have hc := i_cmpB A A' n c n' c' xs ys _ hn hn' hl hl' (hs.call hb0) (hs'.call hb0)
  clear hn hn' hs hs' hl hl'
  go_enter Tryz.func148, Tryz.ntmps148
  go_wp2_with (go_at_call 83; refine hc.mono ?_; rintro e w2 ⟨rfl, hb2⟩)
  go_ret
  exact ⟨rfl, bel_call hb0 hb2⟩
theorem half_i64 {i j : Nat} (h : i + j ≤ 2000) : IntKind.i64.wrap ((i : Int) + (j : Int)) = ((i + j : Nat) : Int) := by
  have := IntWalk.i64_in ((i : Int) + (j : Int)) (by omega)
  rw [this]; omega
theorem sh_cell {w : World} {base g n c k : Nat} {vs : List Value} {cs : List Int} {ts : List (List Int)} (ho : w.ownsRow base 59 2 (.slice (some ⟨g, 0, none⟩) n c) n (shC vs cs)) (hr : RowsO w base vs ts) (hn : n = ts.length) (hcs : cs.length = n) (hk : k < n) :
    ∃ Ak ck, w.cell? ⟨g, k * 2, none⟩ = some (.slice Ak (gl ts k).length ck) ∧ w.cell? ⟨g, k * 2 + 1, none⟩ = some (.int .i64 (gt cs k)) ∧ gv vs k = .slice Ak (gl ts k).length ck ∧ IS w w.heap.size Ak (gl ts k) := by
  have hvl : vs.length = n := hr.1.trans hn.symm
  obtain ⟨g', hg, _, _, hc⟩ := own_src ho (by omega)
  have hg : g = g' := by injection hg with h; injection h
  subst hg
  obtain ⟨h1, h2⟩ := shC_at (vs := vs) (cs := cs) (k := k) (by omega) (by omega)
  have ho' := hr.2.1 k (by omega)
  obtain ⟨Ak, ck, hv, _⟩ := own_slice' ho'
  rw [hv] at h1 ho'
  exact ⟨Ak, ck, hc _ _ h1, hc _ _ h2, hv, own_isn ho' rfl⟩
set_option maxRecDepth 20000 in
set_option maxHeartbeats 2000000 in
theorem c_bsf (A A' : Option Addr) (n c base m c' : Nat) (vs : List Value) (cs : List Int) (ts : List (List Int)) (t : List Int) (w : World) (hn : n = ts.length) (hl : n ≤ 1000) (hsrt : ts.Pairwise fun a b => cmpT a b < 0) (hrow : ∀ k, k < n → (gl ts k).length ≤ 6) (hcs : cs.length = n)
    (ho : w.ownsRow base 59 2 (.slice A n c) n (shC vs cs)) (hr : RowsO w base vs ts) (hm : m = t.length) (hm6 : m ≤ 6) (hs : IS w w.heap.size A' t) :
    Calls Tryz.prog 147 #[.slice A n c, .slice A' m c', .func (.func 148) #[] #[]] w (M (.tuple #[.int .i64 ((atS t ts : Nat) : Int), .bool (hasS t ts)]) w) := by
  have HN := Lib.hid hn
  have HM := Lib.hid hm
  have HROW := Lib.hid hrow
  have HCS := Lib.hid hcs
  have hle := atS_le t ts
  rw [← hn] at hle
  have hU : ∀ k, k ≤ n → (∀ j, j < k → cmpT (gl ts j) t < 0) → (∀ q, k ≤ q → q < n → 0 ≤ cmpT (gl ts q) t) → k = atS t ts := fun k hk h1 h2 => atS_unique (by rw [← hn]; exact hk) h1 (fun h => by have := h2 k (Nat.le_refl _) (by rw [hn]; exact h); omega)
  have HU := Lib.hid hU
  have hdn : ∀ i j, j ≤ i → i < n → cmpT (gl ts i) t < 0 → cmpT (gl ts j) t < 0 := fun i j h1 h2 h3 => cmp_down hsrt h1 (by rw [← hn]; exact h2) h3
  have HDN := Lib.hid hdn
  have hhas : hasS t ts = decide (atS t ts < n ∧ gl ts (atS t ts) = t) := by unfold hasS; rw [hn]
  have HHAS := Lib.hid hhas
  clear hn hm hrow hcs hU hdn hhas hsrt
  go_enter Tryz.func147, Tryz.ntmps147
  go_wp2_with (fail)
  go_loopw [9, 10] (fun u9 u10 wr => ∃ i j : Nat, i ≤ j ∧ j ≤ n ∧ u9 = .int .i64 (i : Int) ∧ u10 = .int .i64 (j : Int) ∧ Hid (∀ q, q < i → cmpT (gl ts q) t < 0) ∧ Hid (∀ q, j ≤ q → q < n → 0 ≤ cmpT (gl ts q) t) ∧ Below w.heap.size w wr) (fun u9 u10 _ => (intOf u10).toNat - (intOf u9).toNat)
  case atStart => exact ⟨0, n, Nat.zero_le _, Nat.le_refl _, rfl, rfl, fun q hq => by omega, fun q h1 h2 => by omega, Below.refl _ _⟩
  case round =>
    obtain ⟨ws, rfl⟩ : ∃ ws : World, ws = wr := ⟨_, rfl⟩
    obtain ⟨i, j, hij, hj, rfl, rfl, HL, HG, hb⟩ := hrel
    have ow := own_below ho hb
    have rw' := hr.below hb
    have hsw := hs.call hb
    by_cases hlt : i < j
    · have hh1 : (i + j) / 2 < j := by omega
      have hh2 : i ≤ (i + j) / 2 := by omega
      have hhn : (i + j) / 2 < n := by omega
      obtain ⟨g, rfl, _, _, _⟩ := own_src ow (by omega)
      obtain ⟨Ah, ch, e1, e2, _, ih⟩ := sh_cell ow rw' HN.out HCS.out hhn
      have hrl := HROW.out _ hhn
      have hcall := i_shCmp Ah A' (gl ts ((i + j) / 2)).length ch m c' (gt cs ((i + j) / 2)) (gl ts ((i + j) / 2)) t ws rfl HM.out hrl hm6 ih hsw
      have HL2 := Lib.hid (show cmpT (gl ts ((i + j) / 2)) t < 0 → ∀ q, q < (i + j) / 2 + 1 → cmpT (gl ts q) t < 0 from fun h q hq => HDN.out _ q (by omega) hhn h)
      have HG2 := Lib.hid (show 0 ≤ cmpT (gl ts ((i + j) / 2)) t → ∀ q, (i + j) / 2 ≤ q → q < n → 0 ≤ cmpT (gl ts q) t from fun h q h1 h2 => by
        rcases Nat.lt_or_ge ((i + j) / 2) q with h3 | h3
        · refine Int.not_lt.1 fun h4 => ?_
          have := HDN.out q ((i + j) / 2) h1 h2 h4
          omega
        · obtain rfl : q = (i + j) / 2 := by omega
          exact h)
      generalize (gl ts ((i + j) / 2)).length = Lh at *
      generalize cmpT (gl ts ((i + j) / 2)) t = z at *
      generalize gt cs ((i + j) / 2) = cn at *
      clear ow rw' ih hsw hrl
      by_cases hz : z < 0
      · have H1 := Lib.hid (HL2.out hz)
        go_wp2_with (go_at_call 148; refine hcall.mono ?_; rintro e w2 ⟨rfl, hb2⟩)
        go_roundw
        case rel => exact ⟨(i + j) / 2 + 1, j, by omega, hj, by go_num, rfl, H1.out, HG.out, hb.trans (hb2.mono hb.size)⟩
        case measure => simp [intOf]; omega
      · have hz := Int.not_lt.1 hz
        have H1 := Lib.hid (HG2.out hz)
        go_wp2_with (go_at_call 148; refine hcall.mono ?_; rintro e w2 ⟨rfl, hb2⟩)
        go_roundw
        case rel => exact ⟨i, (i + j) / 2, by omega, by omega, rfl, by go_num, HL.out, H1.out, hb.trans (hb2.mono hb.size)⟩
        case measure => simp [intOf]; omega
    · obtain rfl : i = j := by omega
      have hat := HU.out i hj HL.out HG.out
      have hhs := HHAS.out
      rw [← hat] at hhs
      have HAT := Lib.hid hat
      rcases Nat.lt_or_ge i n with hin | hin
      · obtain ⟨g, rfl, _, _, _⟩ := own_src ow (by omega)
        obtain ⟨Ah, ch, e1, e2, _, ih⟩ := sh_cell ow rw' HN.out HCS.out hin
        have hrl := HROW.out _ hin
        have hcall := i_shCmp Ah A' (gl ts i).length ch m c' (gt cs i) (gl ts i) t ws rfl HM.out hrl hm6 ih hsw
        have hhz : hasS t ts = (cmpT (gl ts i) t == 0) := by
          rw [hhs]
          cases hb' : (cmpT (gl ts i) t == 0)
          · rw [decide_eq_false_iff_not]
            rintro ⟨_, h⟩
            rw [beq_eq_false_iff_ne] at hb'
            exact hb' (cmpT_eq0.2 h)
          · rw [decide_eq_true_eq]
            exact ⟨hin, cmpT_eq0.1 (by rwa [beq_iff_eq] at hb')⟩
        have HHZ := Lib.hid hhz
        generalize (gl ts i).length = Lh at *
        generalize cmpT (gl ts i) t = z at *
        generalize gt cs i = cn at *
        clear ow rw' ih hsw hrl hhs hhz hat
        go_wp2_with (go_at_call 148; refine hcall.mono ?_; rintro e w2 ⟨rfl, hb2⟩)
        go_ret2
        exact ⟨by rw [← HAT.out, HHZ.out]; rfl, hb.trans (hb2.mono hb.size)⟩
      · have hhz : hasS t ts = false := by rw [hhs, decide_eq_false_iff_not]; rintro ⟨h, _⟩; omega
        have HHZ := Lib.hid hhz
        clear ow rw' hsw hhs hhz hat
        go_wp2_with (fail)
        go_ret2
        exact ⟨by rw [← HAT.out, HHZ.out]; rfl, hb⟩
end Go.Proofs.YtglijcdnnaekkaaGreat
