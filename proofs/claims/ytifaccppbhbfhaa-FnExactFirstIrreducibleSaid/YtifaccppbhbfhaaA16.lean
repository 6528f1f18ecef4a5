/- Several parts of the proof in one text; each part says what it shows. Nothing is assumed. -/
import Derived.Test.YtifaccppbhbfhaaA8
import Derived.Maps.AppendAt
/- Slices of slices that a call makes: which rows it owns. -/
namespace Go.Proofs.Ytifaccppbhbfhaa
set_option linter.unusedVariables false
set_option linter.unusedSimpArgs false
open Go.RowKit

def ints (l : List Int) : List Value := l.map (Value.int .i64)
theorem ints_length (l : List Int) : (ints l).length = l.length := by simp [ints]
theorem ints_one (l : List Int) : ∀ u ∈ ints l, u.oneCell' = true := by
  intro u hu
  simp only [ints, List.mem_map] at hu
  obtain ⟨x, _, rfl⟩ := hu
  rfl
theorem ints_at {l : List Int} {k : Nat} (h : k < l.length) : (ints l)[k]? = some (.int .i64 (gt l k)) := by
  simp [ints, gt, List.getElem?_eq_getElem h]
/-- v is a slice of int64 of the call's own that reads as l. -/
def OwnI (w : World) (base : Nat) (v : Value) (l : List Int) : Prop := w.ownsRow base 2 1 v l.length (ints l)
def gv (vs : List Value) (i : Nat) : Value := vs.getD i undef
def gl (ll : List (List Int)) (i : Nat) : List Int := ll.getD i []
/-- The values vs are slices of the call's own, no two share a block, and they read as ll. -/
def RowsO (w : World) (base : Nat) (vs : List Value) (ll : List (List Int)) : Prop :=
  vs.length = ll.length ∧ (∀ i, i < vs.length → OwnI w base (gv vs i) (gl ll i)) ∧ (∀ i j, i < j → j < vs.length → (gv vs i).ownBlock = none ∨ (gv vs i).ownBlock ≠ (gv vs j).ownBlock)
def OwnII (w : World) (base : Nat) (v : Value) (ll : List (List Int)) : Prop := ∃ vs, w.ownsRow base 22 1 v ll.length vs ∧ RowsO w base vs ll
theorem own_slice' {w : World} {base n : Nat} {e : TypeId} {size : Nat} {v : Value} {xs : List Value} (h : w.ownsRow base e size v n xs) : ∃ A cap, v = .slice A n cap ∧ n ≤ cap := by
  rcases h.2 with ⟨rfl, rfl⟩ | ⟨g, cap, cur, rfl, _, _, hc, _⟩
  · exact ⟨none, 0, rfl, Nat.le_refl _⟩
  · exact ⟨_, _, rfl, hc⟩
/-- Where an owned slice lies: its elements by address. -/
theorem own_src {w : World} {base n c : Nat} {e : TypeId} {size : Nat} {A : Option Addr} {xs : List Value} (h : w.ownsRow base e size (.slice A n c) n xs) (h0 : 0 < n) :
    ∃ g, A = some ⟨g, 0, none⟩ ∧ base ≤ g ∧ g < w.heap.size ∧ ∀ j u, xs[j]? = some u → w.cell? ⟨g, j, none⟩ = some u := by
  rcases h.2 with ⟨_, h1⟩ | ⟨g, cap, cur, hv, hb, hh, _⟩
  · omega
  · have hA : A = some ⟨g, 0, none⟩ := by injection hv
    subst hA
    refine ⟨g, rfl, hb, (h.lt g rfl).2, fun j u hj => ?_⟩
    have := h.cells (g := g) rfl j u hj
    rw [Go.WideShapes.add_plain] at this
    simpa using this
theorem OwnI.is {w : World} {base n c : Nat} {A : Option Addr} {l : List Int} (h : OwnI w base (.slice A n c) l) (hn : n = l.length) : IS w w.heap.size A l := by
  intro hp
  subst hn
  obtain ⟨g, rfl, _, hlt, hc⟩ := own_src h hp
  exact ⟨g, 0, rfl, hlt, fun k hk => by rw [Nat.zero_add]; exact hc k _ (ints_at hk)⟩
theorem grown_of_below {w w' : World} (hb : Below w.heap.size w w') : w.grownBy w' none := ⟨hb.os, hb.tape, hb.output, hb.size, fun k hk _ => hb.block k hk⟩
theorem own_below {w w' : World} {base n : Nat} {e : TypeId} {size : Nat} {v : Value} {xs : List Value} (h : w.ownsRow base e size v n xs) (hb : Below w.heap.size w w') : w'.ownsRow base e size v n xs :=
  h.kept (grown_of_below hb) (by cases v.ownBlock <;> simp)
theorem own_mono {w : World} {base base' n : Nat} {e : TypeId} {size : Nat} {v : Value} {xs : List Value} (h : w.ownsRow base e size v n xs) (hb : base' ≤ base) : w.ownsRow base' e size v n xs := by
  refine ⟨h.1, ?_⟩
  rcases h.2 with h1 | ⟨g, cap, cur, hv, hg, r⟩
  · exact .inl h1
  · exact .inr ⟨g, cap, cur, hv, by omega, r⟩
/-- Two owned rows of different element types lie in different blocks. -/
theorem own_ne {w : World} {b b' n n' : Nat} {e e' : TypeId} {s s' : Nat} {v v' : Value} {xs xs' : List Value} (h : w.ownsRow b e s v n xs) (h' : w.ownsRow b' e' s' v' n' xs') (hne : e ≠ e') : v.ownBlock = none ∨ v.ownBlock ≠ v'.ownBlock := by
  rcases h.2 with ⟨rfl, _⟩ | ⟨g, cap, cur, rfl, _, hh, _⟩
  · exact .inl rfl
  · refine .inr fun he => ?_
    rcases h'.2 with ⟨rfl, _⟩ | ⟨g', cap', cur', rfl, _, hh', _⟩
    · simp [Value.ownBlock] at he
    · have : g = g' := by simpa [Value.ownBlock] using he
      subst this
      rw [hh] at hh'
      simp at hh'
      exact hne hh'.2
/-- What lies in the blocks from s1 to below w's end is as it was. -/
def Mid (s1 : Nat) (w wr : World) : Prop := w.heap.size ≤ wr.heap.size ∧ ∀ b, s1 ≤ b → b < w.heap.size → wr.heap[b]? = w.heap[b]?
theorem own_mid {w wr : World} {s1 n : Nat} {e : TypeId} {size : Nat} {v : Value} {xs : List Value} (h : w.ownsRow s1 e size v n xs) (hm : Mid s1 w wr) : wr.ownsRow s1 e size v n xs := by
  refine ⟨h.1, ?_⟩
  rcases h.2 with h1 | ⟨g, cap, cur, rfl, hg, hh, r⟩
  · exact .inl h1
  · exact .inr ⟨g, cap, cur, rfl, hg, by rw [hm.2 g hg (h.lt g rfl).2]; exact hh, r⟩
theorem Mid.grown {s1 : Nat} {w wr w' : World} {row : Option Nat} (hm : Mid s1 w wr) (hg : wr.grownBy w' row) (hr : ∀ g, row = some g → g < s1 ∨ w.heap.size ≤ g) : Mid s1 w w' :=
  ⟨Nat.le_trans hm.1 hg.size, fun b h1 h2 => (hg.block b (Nat.lt_of_lt_of_le h2 hm.1) (fun e => by have := hr b e.symm; omega)).trans (hm.2 b h1 h2)⟩
theorem Mid.alloc {s1 : Nat} {w wr : World} (hm : Mid s1 w wr) (o : Obj) : Mid s1 w (wr.alloc o) := hm.grown (World.grownBy_alloc _ _ none) (by simp)
theorem Mid.refl (s1 : Nat) (w : World) : Mid s1 w w := ⟨Nat.le_refl _, fun _ _ _ => rfl⟩
theorem RowsO.kept {w w' : World} {base : Nat} {vs : List Value} {ll : List (List Int)} {row : Option Nat} (h : RowsO w base vs ll) (hg : w.grownBy w' row) (hne : ∀ i, i < vs.length → (gv vs i).ownBlock = none ∨ (gv vs i).ownBlock ≠ row) : RowsO w' base vs ll :=
  ⟨h.1, fun i hi => (h.2.1 i hi).kept hg (hne i hi), h.2.2⟩
theorem RowsO.below {w w' : World} {base : Nat} {vs : List Value} {ll : List (List Int)} (h : RowsO w base vs ll) (hb : Below w.heap.size w w') : RowsO w' base vs ll :=
  h.kept (grown_of_below hb) (fun i _ => by cases (gv vs i).ownBlock <;> simp)
theorem RowsO.mid {w wr : World} {s1 : Nat} {vs : List Value} {ll : List (List Int)} (h : RowsO w s1 vs ll) (hm : Mid s1 w wr) : RowsO wr s1 vs ll :=
  ⟨h.1, fun i hi => own_mid (h.2.1 i hi) hm, h.2.2⟩
theorem RowsO.mono {w : World} {base base' : Nat} {vs : List Value} {ll : List (List Int)} (h : RowsO w base vs ll) (hb : base' ≤ base) : RowsO w base' vs ll :=
  ⟨h.1, fun i hi => own_mono (h.2.1 i hi) hb, h.2.2⟩
theorem OwnII.below {w w' : World} {base : Nat} {v : Value} {ll : List (List Int)} (h : OwnII w base v ll) (hb : Below w.heap.size w w') : OwnII w' base v ll := by
  obtain ⟨vs, h1, h2⟩ := h
  exact ⟨vs, own_below h1 hb, h2.below hb⟩
theorem OwnII.mono {w : World} {base base' : Nat} {v : Value} {ll : List (List Int)} (h : OwnII w base v ll) (hb : base' ≤ base) : OwnII w base' v ll := by
  obtain ⟨vs, h1, h2⟩ := h
  exact ⟨vs, own_mono h1 hb, h2.mono hb⟩
theorem gv_snoc_lt {vs : List Value} {x : Value} {i : Nat} (h : i < vs.length) : gv (vs ++ [x]) i = gv vs i := by simp [gv, List.getElem?_append_left h]
theorem gv_snoc {vs : List Value} {x : Value} : gv (vs ++ [x]) vs.length = x := by simp [gv]
theorem gl_snoc_lt {ll : List (List Int)} {x : List Int} {i : Nat} (h : i < ll.length) : gl (ll ++ [x]) i = gl ll i := by simp [gl, List.getElem?_append_left h]
theorem gl_snoc {ll : List (List Int)} {x : List Int} : gl (ll ++ [x]) ll.length = x := by simp [gl]
theorem gv_at {vs : List Value} {i : Nat} (h : i < vs.length) : vs[i]? = some (gv vs i) := by simp [gv, List.getElem?_eq_getElem h]
/-- One row more: r was made behind all rows of vs. -/
theorem RowsO.snoc {w : World} {base : Nat} {vs : List Value} {ll : List (List Int)} {r : Value} {l : List Int} (h : RowsO w base vs ll) (hr : OwnI w base r l) (hne : ∀ i, i < vs.length → (gv vs i).ownBlock = none ∨ (gv vs i).ownBlock ≠ r.ownBlock) : RowsO w base (vs ++ [r]) (ll ++ [l]) := by
  obtain ⟨h1, h2, h3⟩ := h
  refine ⟨by simp [h1], fun i hi => ?_, fun i j hij hj => ?_⟩
  · simp at hi
    rcases Nat.lt_or_ge i vs.length with hlt | hge
    · rw [gv_snoc_lt hlt, gl_snoc_lt (by omega)]; exact h2 i hlt
    · obtain rfl : i = vs.length := by omega
      rw [gv_snoc, h1, gl_snoc]; exact hr
  · simp at hj
    rcases Nat.lt_or_ge j vs.length with hlt | hge
    · rw [gv_snoc_lt hlt, gv_snoc_lt (by omega)]; exact h3 i j hij hlt
    · obtain rfl : j = vs.length := by omega
      rw [gv_snoc, gv_snoc_lt hij]; exact hne i hij
/-- append from a source that may be nil. -/
theorem run_append_src {P : Program} {w : World} (base : Nat) (t ty e : TypeId) (i : TypeInfo) (z : Value) (size bytes : Nat) (ht : P.underlying t = some (.slice e)) (hi : P.info? e = some i) (hz : i.zero = some z)
    (hsize : i.size = size) (hby : i.bytes = bytes) (hzs : z.cells.size = size) (hsz : 0 < size)
    (v : Value) (n : Nat) (xs : List Value) (hown : w.ownsRow base e size v n xs)
    (A : Option Addr) (m c : Nat) (news : List Value) (hl : news.length = m * size) (hsrc : ∀ ad, A = some ad → ∀ j u, news[j]? = some u → w.cell? (ad.add j) = some u) (hnil : A = none → m = 0 ∧ c = 0) (h1 : ∀ u ∈ news, u.oneCell' = true)
    (h63 : n + m ≤ maxLen) (hbytes : (n + m) * bytes ≤ 140737488355328) (hbase : base ≤ w.heap.size) :
    ∃ v' w', (Builtin.append_ #[t, t] ty #[v, .slice A m c]).run P w = .ok v' w' ∧ w'.ownsRow base e size v' (n + m) (xs ++ news) ∧ w.grownBy w' v.ownBlock ∧ (v'.ownBlock = v.ownBlock ∨ v'.ownBlock = some w.heap.size) := by
  rcases A with _ | ad
  · obtain ⟨rfl, rfl⟩ := hnil rfl
    have hn : news = [] := List.eq_nil_of_length_eq_zero (by simpa using hl)
    subst hn
    exact ⟨v, w, run_append_owned_none (P := P) w base t ty e i size ht hi v n xs hown, by simpa using hown, World.grownBy.refl w _, .inl rfl⟩
  · obtain ⟨v', w', a1, a2, a3, _, a5⟩ := run_append_own_at (P := P) w base t ty e i z size bytes ht hi hz hsize hby hzs hsz v n xs hown ad m c news hl (hsrc ad rfl) h1 h63 hbytes hbase
    exact ⟨v', w', a1, a2, a3, a5⟩
theorem wpList_append_src {P : Program} {w : World} {ops : Array Oper} {rest : List Oper} {o : Oper} {a : Act} {Q : Exit → Act → World → Prop} (hgd : o.guard = none) (s x : Operand) (t : TypeId)
    (ho : o.op = .call { callee := .builtin .append, args := #[s, x], argTypes := #[t, t] })
    (base : Nat) (e : TypeId) (i : TypeInfo) (z : Value) (size bytes : Nat) (ht : P.underlying t = some (.slice e)) (hi : P.info? e = some i) (hz : i.zero = some z)
    (hsize : i.size = size) (hby : i.bytes = bytes) (hzs : z.cells.size = size) (hsz : 0 < size)
    (v : Value) (n : Nat) (xs : List Value) (hs : a.eval s = v) (hown : w.ownsRow base e size v n xs)
    (A : Option Addr) (m c : Nat) (news : List Value) (hx : a.eval x = .slice A m c) (hl : news.length = m * size) (hsrc : ∀ ad, A = some ad → ∀ j u, news[j]? = some u → w.cell? (ad.add j) = some u) (hnil : A = none → m = 0 ∧ c = 0) (h1 : ∀ u ∈ news, u.oneCell' = true)
    (h63 : n + m ≤ maxLen) (hbytes : (n + m) * bytes ≤ 140737488355328) (hbase : base ≤ w.heap.size)
    (h : ∀ v' w', w'.ownsRow base e size v' (n + m) (xs ++ news) → w.grownBy w' v.ownBlock → (v'.ownBlock = v.ownBlock ∨ v'.ownBlock = some w.heap.size) → wpList P ops Q rest (a.put o.dst v') w') : wpList P ops Q (o :: rest) a w := by
  refine wpList_plain hgd fun K hK => ?_
  obtain ⟨v', w', hrun, h2, h3, h4⟩ := run_append_src (P := P) (w := w) base t o.type e i z size bytes ht hi hz hsize hby hzs hsz v n xs hown A m c news hl hsrc hnil h1 h63 hbytes hbase
  unfold Oper.wp execOp
  simp only [ho, resolve, invoke, builtin, Sem.run_bind, Sem.run_pure, Result.andThen_ok, List.map_toArray, List.map_cons, List.map_nil, hs, hx, hrun]
  exact hK _ _ (h v' w' h2 h3 h4)
theorem infoSl : (Try.prog.info? 22).map (fun i => (i.zero, i.size, i.bytes)) = some (some (.slice none 0 0), 1, 24) := by kernel_rfl
end Go.Proofs.Ytifaccppbhbfhaa
/- Contracts: the lists of all types of a number of points. -/
namespace Go.Proofs.Ytifaccppbhbfhaa
set_option linter.unusedVariables false
set_option linter.unusedSimpArgs false
open Go.RowKit

/-- All types of n points with numbers of at least k. -/
def tyL (k n : Nat) : List (List Int) :=
  if n = 0 then [[]] else if h : 1 ≤ k ∧ k ≤ n then (tyL k (n - k)).map (fun l => (k : Int) :: l) ++ tyL (k + 1) n else []
termination_by (n, n + 1 - k)
decreasing_by
  · apply Prod.Lex.left; omega
  · apply Prod.Lex.right; omega
theorem tyL_zero (k : Nat) : tyL k 0 = [[]] := by rw [tyL]; simp
theorem tyL_step {k n : Nat} (h0 : 1 ≤ k) (h1 : k ≤ n) : tyL k n = (tyL k (n - k)).map (fun l => (k : Int) :: l) ++ tyL (k + 1) n := by
  rw [tyL, if_neg (by omega), dif_pos ⟨h0, h1⟩]
theorem tyL_end {k n : Nat} (h0 : 0 < n) (h1 : n < k) : tyL k n = [] := by rw [tyL, if_neg (by omega), dif_neg (by omega)]
theorem tyL_len : ∀ N n k : Nat, n + (n + 1 - k) ≤ N → 1 ≤ k → (tyL k n).length ≤ 2 ^ (n + 1 - k) := by
  intro N
  induction N with
  | zero =>
    intro n k h h1
    obtain rfl : n = 0 := by omega
    rw [tyL_zero]
    exact Nat.one_le_two_pow
  | succ N ih =>
    intro n k h h1
    rcases Nat.eq_zero_or_pos n with h0 | h0
    · subst h0; rw [tyL_zero]; exact Nat.one_le_two_pow
    · rcases Nat.lt_or_ge n k with h2 | h2
      · rw [tyL_end h0 h2]; simp
      · rw [tyL_step h1 h2]
        simp only [List.length_append, List.length_map]
        have a1 := ih (n - k) k (by omega) h1
        have a2 := ih n (k + 1) (by omega) (by omega)
        have a3 : 2 ^ (n - k + 1 - k) ≤ 2 ^ (n - k) := Nat.pow_le_pow_right (by omega) (by omega)
        have a4 : n + 1 - (k + 1) = n - k := by omega
        have a5 : n + 1 - k = (n - k) + 1 := by omega
        rw [a4] at a2
        rw [a5, Nat.pow_succ]
        omega
theorem tyL_le {n k : Nat} (h : n ≤ 6) (h1 : 1 ≤ k) : (tyL k n).length ≤ 64 := by
  have a := tyL_len _ n k (Nat.le_refl _) h1
  have b : 2 ^ (n + 1 - k) ≤ 2 ^ 6 := Nat.pow_le_pow_right (by omega) (by omega)
  omega
theorem tyL_row : ∀ N n k : Nat, n + (n + 1 - k) ≤ N → 1 ≤ k → ∀ l ∈ tyL k n, l.length ≤ n := by
  intro N
  induction N with
  | zero =>
    intro n k h h1 l hl
    obtain rfl : n = 0 := by omega
    rw [tyL_zero] at hl
    simp at hl; subst hl; simp
  | succ N ih =>
    intro n k h h1 l hl
    rcases Nat.eq_zero_or_pos n with h0 | h0
    · subst h0; rw [tyL_zero] at hl; simp at hl; subst hl; simp
    · rcases Nat.lt_or_ge n k with h2 | h2
      · rw [tyL_end h0 h2] at hl; simp at hl
      · rw [tyL_step h1 h2] at hl
        simp only [List.mem_append, List.mem_map] at hl
        rcases hl with ⟨l', hl', rfl⟩ | hl
        · have := ih (n - k) k (by omega) h1 l' hl'
          simp; omega
        · exact ih n (k + 1) (by omega) (by omega) l hl
theorem gl_mem {ll : List (List Int)} {i : Nat} (h : i < ll.length) : gl ll i ∈ ll := by
  unfold gl; rw [List.getD_eq_getElem?_getD, List.getElem?_eq_getElem h]; exact List.getElem_mem h
theorem take_map_succ {ll : List (List Int)} {i : Nat} (k : Int) (h : i < ll.length) : (ll.take (i + 1)).map (fun l => k :: l) = (ll.take i).map (fun l => k :: l) ++ [k :: gl ll i] := by
  rw [List.take_succ_eq_append_getElem h, List.map_append]
  simp [gl, List.getElem?_eq_getElem h]
theorem ints_cons (k : Int) (l : List Int) : [Value.int .i64 k] ++ ints l = ints (k :: l) := rfl
theorem own_nil (w : World) (base : Nat) : OwnII w base (.slice none 0 0) [] := ⟨[], World.ownsRow_nil _ _ _ _, rfl, fun i hi => by simp at hi, fun i j _ hj => by simp at hj⟩
theorem own_lit_nil (w : World) (base : Nat) (hb : base ≤ w.heap.size) : OwnII (w.alloc (.cells #[] 22)) base (.slice (some ⟨w.heap.size, 0, none⟩) 0 0) [] :=
  ⟨[], World.ownsRow_lit w #[] 0 hb (by simp [maxLen]) rfl, rfl, fun i hi => by simp at hi, fun i j _ hj => by simp at hj⟩
/-- An inner row that a call has just made, in front of which stand older rows. -/
theorem fresh_ne {w : World} {base : Nat} {vs : List Value} {ll : List (List Int)} (h : RowsO w base vs ll) {r : Value} (hr : ∀ g, r.ownBlock = some g → w.heap.size ≤ g) : ∀ i, i < vs.length → (gv vs i).ownBlock = none ∨ (gv vs i).ownBlock ≠ r.ownBlock := by
  intro i hi
  cases hv : (gv vs i).ownBlock with
  | none => exact .inl rfl
  | some g =>
    refine .inr fun e => ?_
    have h1 := hr g e.symm
    have h2 := ((h.2.1 i hi).lt g hv).2
    omega
theorem own_hsrc {w : World} {base n c : Nat} {e : TypeId} {size : Nat} {A : Option Addr} {xs : List Value} (h : w.ownsRow base e size (.slice A n c) n xs) : ∀ ad, A = some ad → ∀ j u, xs[j]? = some u → w.cell? (ad.add j) = some u := by
  intro ad hA j u hj
  subst hA
  rcases h.2 with ⟨h0, _⟩ | ⟨g, cap, cur, hv, _⟩
  · cases h0
  · have : ad = ⟨g, 0, none⟩ := by injection hv with h1; injection h1
    subst this
    exact h.cells (g := g) rfl j u hj
theorem own_hnil {w : World} {base n c : Nat} {e : TypeId} {size : Nat} {A : Option Addr} {xs : List Value} (h : w.ownsRow base e size (.slice A n c) n xs) : A = none → n = 0 ∧ c = 0 := by
  intro hA
  subst hA
  rcases h.2 with ⟨h0, _⟩ | ⟨g, cap, cur, hv, _⟩
  · injection h0 with _ h1 h2; exact ⟨h1, h2⟩
  · cases hv
theorem own_one (w : World) (x : Value) (e : TypeId) : (w.alloc (.cells #[x] e)).ownsRow w.heap.size e 1 (.slice (some ⟨w.heap.size, 0, none⟩) 1 1) 1 [x] :=
  World.ownsRow_lit w #[x] 1 (Nat.le_refl _) (by simp [maxLen]) rfl
theorem one_src (w : World) (x : Value) (e : TypeId) : ∀ ad, some (⟨w.heap.size, 0, none⟩ : Addr) = some ad → ∀ j u, [x][j]? = some u → (w.alloc (.cells #[x] e)).cell? (ad.add j) = some u :=
  own_hsrc (own_one w x e)
theorem new_below {w w1 : World} {o : Obj} {n c : Nat} (hg : (w.alloc o).grownBy w1 (Value.slice (some ⟨w.heap.size, 0, none⟩) n c).ownBlock) : Below w.heap.size w w1 :=
  ((Below.refl _ _).alloc (Nat.le_refl _) _).grown hg (by simp) (fun k hk => by simp [Value.ownBlock] at hk; omega)
/-- The state of the inner loop. -/
def TyIn (w w2 : World) (s1 : Nat) (kk : Nat) (acc restl : List (List Int)) (i : Nat) (u5 : Value) (wr : World) : Prop :=
  OwnII wr w.heap.size u5 (acc ++ (restl.take i).map (fun l => (kk : Int) :: l)) ∧ Mid s1 w2 wr ∧ (∀ g, u5.ownBlock = some g → g < s1 ∨ w2.heap.size ≤ g) ∧ Below w.heap.size w wr
/-- A round of the inner loop: the new row in w1, the outer slice in w3. -/
theorem TyIn.round {w w2 wr w1 w3 : World} {s1 kk i : Nat} {acc restl : List (List Int)} {u5 r v2 : Value} {o1 o2 : Obj} {vs : List Value} {row : Option Nat} (hi : i < restl.length)
    (ho : wr.ownsRow w.heap.size 22 1 u5 (acc ++ (restl.take i).map (fun l => (kk : Int) :: l)).length vs) (hrows : RowsO wr w.heap.size vs (acc ++ (restl.take i).map (fun l => (kk : Int) :: l)))
    (hm : Mid s1 w2 wr) (h5 : ∀ g, u5.ownBlock = some g → g < s1 ∨ w2.heap.size ≤ g) (hb : Below w.heap.size w wr)
    (hr : w1.ownsRow wr.heap.size 2 1 r (1 + (gl restl i).length) ([Value.int .i64 (kk : Int)] ++ ints (gl restl i))) (hg1 : (wr.alloc o1).grownBy w1 row) (hrow : row = some wr.heap.size)
    (ho2 : w3.ownsRow w.heap.size 22 1 v2 ((acc ++ (restl.take i).map (fun l => (kk : Int) :: l)).length + 1) (vs ++ [r])) (hg2 : (w1.alloc o2).grownBy w3 u5.ownBlock) (hat : v2.ownBlock = u5.ownBlock ∨ v2.ownBlock = some (w1.alloc o2).heap.size) :
    TyIn w w2 s1 kk acc restl (i + 1) v2 w3 := by
  subst hrow
  have hsz : w.heap.size ≤ wr.heap.size := hb.size
  have hb1 : Below wr.heap.size wr w1 := ((Below.refl _ _).alloc (Nat.le_refl _) _).grown hg1 (by simp) (fun k hk => by injection hk with hk; omega)
  have hb1' : Below wr.heap.size wr (w1.alloc o2) := hb1.alloc hb1.size _
  have hoA := own_below ho hb1'
  have hrA := hrows.below hb1'
  have hr' : OwnI w1 wr.heap.size r ((kk : Int) :: gl restl i) := by
    unfold OwnI
    rw [← ints_cons]
    have e : ((kk : Int) :: gl restl i).length = 1 + (gl restl i).length := by simp; omega
    rw [e]; exact hr
  have hrB : OwnI (w1.alloc o2) wr.heap.size r ((kk : Int) :: gl restl i) := World.ownsRow.alloc hr' o2
  have hsn := hrA.snoc (own_mono hrB hsz) (fresh_ne hrows (fun g hg => (hr.lt g hg).1))
  have hr3 := hsn.kept hg2 (fun j hj => own_ne (hsn.2.1 j hj) hoA (by decide))
  have hst : acc ++ (restl.take (i + 1)).map (fun l => (kk : Int) :: l) = acc ++ (restl.take i).map (fun l => (kk : Int) :: l) ++ [(kk : Int) :: gl restl i] := by
    rw [take_map_succ _ hi, ← List.append_assoc]
  have hm3 : Mid s1 w2 w3 := by
    refine Mid.grown (Mid.alloc (Mid.grown (hm.alloc o1) hg1 (fun g hg => ?_)) o2) hg2 (fun g hg => h5 g hg)
    injection hg with hg; subst hg; exact .inr hm.1
  have hb3 : Below w.heap.size w w3 := (hb.trans (hb1'.mono hsz)).grown hg2 (by have := hb1'.size; omega) (fun k hk => (ho.lt k hk).1)
  unfold TyIn
  rw [hst]
  refine ⟨⟨vs ++ [r], ?_, hr3⟩, hm3, fun g hg => ?_, hb3⟩
  · rw [List.length_append]
    exact ho2
  · rcases hat with h | h
    · rw [h] at hg; exact h5 g hg
    · rw [h] at hg
      injection hg with hg
      have := hb1'.size
      have := hm.1
      omega
def ctV (n : Int) : Int := if inB n 1 6 then ((tyL 1 n.toNat).length : Nat) else 0
def ctC (n : Int) : Int := if inB n 1 6 then 0 else 2
end Go.Proofs.Ytifaccppbhbfhaa
