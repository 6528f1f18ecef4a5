/- Slices of slices that a call makes: which rows it owns. -/
import Derived.Test.YtcbjfdeigpdbdaaA4
import Derived.Maps.AppendAt
namespace Go.Proofs.Ytcbjfdeigpdbdaa
set_option linter.unusedVariables false
set_option linter.unusedSimpArgs false
open Go.RowKit

def ints (l : List Int) : List Value := l.map (Value.int .i64)
theorem ints_length (l : List Int) : (ints l).length = l.length := by simp [ints]
theorem ints_one (l : List Int) : ∀ u ∈ ints l, u.oneCell' = true := by
  intro u hu
  simp only [ints, List.mem_map] at hu
  obtain ⟨x, _, rfl⟩ := hu
  rfl
theorem ints_at {l : List Int} {k : Nat} (h : k < l.length) : (ints l)[k]? = some (.int .i64 (gt l k)) := by
  simp [ints, gt, List.getElem?_eq_getElem h]
/-- v is a slice of int64 of the call's own that reads as l. -/
def OwnI (w : World) (base : Nat) (v : Value) (l : List Int) : Prop := w.ownsRow base 2 1 v l.length (ints l)
def gv (vs : List Value) (i : Nat) : Value := vs.getD i undef
def gl (ll : List (List Int)) (i : Nat) : List Int := ll.getD i []
/-- The values vs are slices of the call's own, no two share a block, and they read as ll. -/
def RowsO (w : World) (base : Nat) (vs : List Value) (ll : List (List Int)) : Prop :=
  vs.length = ll.length ∧ (∀ i, i < vs.length → OwnI w base (gv vs i) (gl ll i)) ∧ (∀ i j, i < j → j < vs.length → (gv vs i).ownBlock = none ∨ (gv vs i).ownBlock ≠ (gv vs j).ownBlock)
def OwnII (w : World) (base : Nat) (v : Value) (ll : List (List Int)) : Prop := ∃ vs, w.ownsRow base 22 1 v ll.length vs ∧ RowsO w base vs ll
theorem own_slice' {w : World} {base n : Nat} {e : TypeId} {size : Nat} {v : Value} {xs : List Value} (h : w.ownsRow base e size v n xs) : ∃ A cap, v = .slice A n cap ∧ n ≤ cap := by
  rcases h.2 with ⟨rfl, rfl⟩ | ⟨g, cap, cur, rfl, _, _, hc, _⟩
  · exact ⟨none, 0, rfl, Nat.le_refl _⟩
  · exact ⟨_, _, rfl, hc⟩
/-- Where an owned slice lies: its elements by address. -/
theorem own_src {w : World} {base n c : Nat} {e : TypeId} {size : Nat} {A : Option Addr} {xs : List Value} (h : w.ownsRow base e size (.slice A n c) n xs) (h0 : 0 < n) :
    ∃ g, A = some ⟨g, 0, none⟩ ∧ base ≤ g ∧ g < w.heap.size ∧ ∀ j u, xs[j]? = some u → w.cell? ⟨g, j, none⟩ = some u := by
  rcases h.2 with ⟨_, h1⟩ | ⟨g, cap, cur, hv, hb, hh, _⟩
  · omega
  · have hA : A = some ⟨g, 0, none⟩ := by injection hv
    subst hA
    refine ⟨g, rfl, hb, (h.lt g rfl).2, fun j u hj => ?_⟩
    have := h.cells (g := g) rfl j u hj
    rw [Go.WideShapes.add_plain] at this
    simpa using this
theorem OwnI.is {w : World} {base n c : Nat} {A : Option Addr} {l : List Int} (h : OwnI w base (.slice A n c) l) (hn : n = l.length) : IS w w.heap.size A l := by
  intro hp
  subst hn
  obtain ⟨g, rfl, _, hlt, hc⟩ := own_src h hp
  exact ⟨g, 0, rfl, hlt, fun k hk => by rw [Nat.zero_add]; exact hc k _ (ints_at hk)⟩
theorem grown_of_below {w w' : World} (hb : Below w.heap.size w w') : w.grownBy w' none := ⟨hb.os, hb.tape, hb.output, hb.size, fun k hk _ => hb.block k hk⟩
theorem own_below {w w' : World} {base n : Nat} {e : TypeId} {size : Nat} {v : Value} {xs : List Value} (h : w.ownsRow base e size v n xs) (hb : Below w.heap.size w w') : w'.ownsRow base e size v n xs :=
  h.kept (grown_of_below hb) (by cases v.ownBlock <;> simp)
theorem own_mono {w : World} {base base' n : Nat} {e : TypeId} {size : Nat} {v : Value} {xs : List Value} (h : w.ownsRow base e size v n xs) (hb : base' ≤ base) : w.ownsRow base' e size v n xs := by
  refine ⟨h.1, ?_⟩
  rcases h.2 with h1 | ⟨g, cap, cur, hv, hg, r⟩
  · exact .inl h1
  · exact .inr ⟨g, cap, cur, hv, by omega, r⟩
/-- Two owned rows of different element types lie in different blocks. -/
theorem own_ne {w : World} {b b' n n' : Nat} {e e' : TypeId} {s s' : Nat} {v v' : Value} {xs xs' : List Value} (h : w.ownsRow b e s v n xs) (h' : w.ownsRow b' e' s' v' n' xs') (hne : e ≠ e') : v.ownBlock = none ∨ v.ownBlock ≠ v'.ownBlock := by
  rcases h.2 with ⟨rfl, _⟩ | ⟨g, cap, cur, rfl, _, hh, _⟩
  · exact .inl rfl
  · refine .inr fun he => ?_
    rcases h'.2 with ⟨rfl, _⟩ | ⟨g', cap', cur', rfl, _, hh', _⟩
    · simp [Value.ownBlock] at he
    · have : g = g' := by simpa [Value.ownBlock] using he
      subst this
      rw [hh] at hh'
      simp at hh'
      exact hne hh'.2
/-- What lies in the blocks from s1 to below w's end is as it was. -/
def Mid (s1 : Nat) (w wr : World) : Prop := w.heap.size ≤ wr.heap.size ∧ ∀ b, s1 ≤ b → b < w.heap.size → wr.heap[b]? = w.heap[b]?
theorem own_mid {w wr : World} {s1 n : Nat} {e : TypeId} {size : Nat} {v : Value} {xs : List Value} (h : w.ownsRow s1 e size v n xs) (hm : Mid s1 w wr) : wr.ownsRow s1 e size v n xs := by
  refine ⟨h.1, ?_⟩
  rcases h.2 with h1 | ⟨g, cap, cur, rfl, hg, hh, r⟩
  · exact .inl h1
  · exact .inr ⟨g, cap, cur, rfl, hg, by rw [hm.2 g hg (h.lt g rfl).2]; exact hh, r⟩
theorem Mid.grown {s1 : Nat} {w wr w' : World} {row : Option Nat} (hm : Mid s1 w wr) (hg : wr.grownBy w' row) (hr : ∀ g, row = some g → g < s1 ∨ w.heap.size ≤ g) : Mid s1 w w' :=
  ⟨Nat.le_trans hm.1 hg.size, fun b h1 h2 => (hg.block b (Nat.lt_of_lt_of_le h2 hm.1) (fun e => by have := hr b e.symm; omega)).trans (hm.2 b h1 h2)⟩
theorem Mid.alloc {s1 : Nat} {w wr : World} (hm : Mid s1 w wr) (o : Obj) : Mid s1 w (wr.alloc o) := hm.grown (World.grownBy_alloc _ _ none) (by simp)
theorem Mid.refl (s1 : Nat) (w : World) : Mid s1 w w := ⟨Nat.le_refl _, fun _ _ _ => rfl⟩
theorem RowsO.kept {w w' : World} {base : Nat} {vs : List Value} {ll : List (List Int)} {row : Option Nat} (h : RowsO w base vs ll) (hg : w.grownBy w' row) (hne : ∀ i, i < vs.length → (gv vs i).ownBlock = none ∨ (gv vs i).ownBlock ≠ row) : RowsO w' base vs ll :=
  ⟨h.1, fun i hi => (h.2.1 i hi).kept hg (hne i hi), h.2.2⟩
theorem RowsO.below {w w' : World} {base : Nat} {vs : List Value} {ll : List (List Int)} (h : RowsO w base vs ll) (hb : Below w.heap.size w w') : RowsO w' base vs ll :=
  h.kept (grown_of_below hb) (fun i _ => by cases (gv vs i).ownBlock <;> simp)
theorem RowsO.mid {w wr : World} {s1 : Nat} {vs : List Value} {ll : List (List Int)} (h : RowsO w s1 vs ll) (hm : Mid s1 w wr) : RowsO wr s1 vs ll :=
  ⟨h.1, fun i hi => own_mid (h.2.1 i hi) hm, h.2.2⟩
theorem RowsO.mono {w : World} {base base' : Nat} {vs : List Value} {ll : List (List Int)} (h : RowsO w base vs ll) (hb : base' ≤ base) : RowsO w base' vs ll :=
  ⟨h.1, fun i hi => own_mono (h.2.1 i hi) hb, h.2.2⟩
theorem OwnII.below {w w' : World} {base : Nat} {v : Value} {ll : List (List Int)} (h : OwnII w base v ll) (hb : Below w.heap.size w w') : OwnII w' base v ll := by
  obtain ⟨vs, h1, h2⟩ := h
  exact ⟨vs, own_below h1 hb, h2.below hb⟩
theorem OwnII.mono {w : World} {base base' : Nat} {v : Value} {ll : List (List Int)} (h : OwnII w base v ll) (hb : base' ≤ base) : OwnII w base' v ll := by
  obtain ⟨vs, h1, h2⟩ := h
  exact ⟨vs, own_mono h1 hb, h2.mono hb⟩
theorem gv_snoc_lt {vs : List Value} {x : Value} {i : Nat} (h : i < vs.length) : gv (vs ++ [x]) i = gv vs i := by simp [gv, List.getElem?_append_left h]
theorem gv_snoc {vs : List Value} {x : Value} : gv (vs ++ [x]) vs.length = x := by simp [gv]
theorem gl_snoc_lt {ll : List (List Int)} {x : List Int} {i : Nat} (h : i < ll.length) : gl (ll ++ [x]) i = gl ll i := by simp [gl, List.getElem?_append_left h]
theorem gl_snoc {ll : List (List Int)} {x : List Int} : gl (ll ++ [x]) ll.length = x := by simp [gl]
theorem gv_at {vs : List Value} {i : Nat} (h : i < vs.length) : vs[i]? = some (gv vs i) := by simp [gv, List.getElem?_eq_getElem h]
/-- One row more: r was made behind all rows of vs. -/
theorem RowsO.snoc {w : World} {base : Nat} {vs : List Value} {ll : List (List Int)} {r : Value} {l : List Int} (h : RowsO w base vs ll) (hr : OwnI w base r l) (hne : ∀ i, i < vs.length → (gv vs i).ownBlock = none ∨ (gv vs i).ownBlock ≠ r.ownBlock) : RowsO w base (vs ++ [r]) (ll ++ [l]) := by
  obtain ⟨h1, h2, h3⟩ := h
  refine ⟨by simp [h1], fun i hi => ?_, fun i j hij hj => ?_⟩
  · simp at hi
    rcases Nat.lt_or_ge i vs.length with hlt | hge
    · rw [gv_snoc_lt hlt, gl_snoc_lt (by omega)]; exact h2 i hlt
    · obtain rfl : i = vs.length := by omega
      rw [gv_snoc, h1, gl_snoc]; exact hr
  · simp at hj
    rcases Nat.lt_or_ge j vs.length with hlt | hge
    · rw [gv_snoc_lt hlt, gv_snoc_lt (by omega)]; exact h3 i j hij hlt
    · obtain rfl : j = vs.length := by omega
      rw [gv_snoc, gv_snoc_lt hij]; exact hne i hij
/-- append from a source that may be nil. -/
theorem run_append_src {P : Program} {w : World} (base : Nat) (t ty e : TypeId) (i : TypeInfo) (z : Value) (size bytes : Nat) (ht : P.underlying t = some (.slice e)) (hi : P.info? e = some i) (hz : i.zero = some z)
    (hsize : i.size = size) (hby : i.bytes = bytes) (hzs : z.cells.size = size) (hsz : 0 < size)
    (v : Value) (n : Nat) (xs : List Value) (hown : w.ownsRow base e size v n xs)
    (A : Option Addr) (m c : Nat) (news : List Value) (hl : news.length = m * size) (hsrc : ∀ ad, A = some ad → ∀ j u, news[j]? = some u → w.cell? (ad.add j) = some u) (hnil : A = none → m = 0 ∧ c = 0) (h1 : ∀ u ∈ news, u.oneCell' = true)
    (h63 : n + m ≤ maxLen) (hbytes : (n + m) * bytes ≤ 140737488355328) (hbase : base ≤ w.heap.size) :
    ∃ v' w', (Builtin.append_ #[t, t] ty #[v, .slice A m c]).run P w = .ok v' w' ∧ w'.ownsRow base e size v' (n + m) (xs ++ news) ∧ w.grownBy w' v.ownBlock ∧ (v'.ownBlock = v.ownBlock ∨ v'.ownBlock = some w.heap.size) := by
  rcases A with _ | ad
  · obtain ⟨rfl, rfl⟩ := hnil rfl
    have hn : news = [] := List.eq_nil_of_length_eq_zero (by simpa using hl)
    subst hn
    exact ⟨v, w, run_append_owned_none (P := P) w base t ty e i size ht hi v n xs hown, by simpa using hown, World.grownBy.refl w _, .inl rfl⟩
  · obtain ⟨v', w', a1, a2, a3, _, a5⟩ := run_append_own_at (P := P) w base t ty e i z size bytes ht hi hz hsize hby hzs hsz v n xs hown ad m c news hl (hsrc ad rfl) h1 h63 hbytes hbase
    exact ⟨v', w', a1, a2, a3, a5⟩
theorem wpList_append_src {P : Program} {w : World} {ops : Array Oper} {rest : List Oper} {o : Oper} {a : Act} {Q : Exit → Act → World → Prop} (hgd : o.guard = none) (s x : Operand) (t : TypeId)
    (ho : o.op = .call { callee := .builtin .append, args := #[s, x], argTypes := #[t, t] })
    (base : Nat) (e : TypeId) (i : TypeInfo) (z : Value) (size bytes : Nat) (ht : P.underlying t = some (.slice e)) (hi : P.info? e = some i) (hz : i.zero = some z)
    (hsize : i.size = size) (hby : i.bytes = bytes) (hzs : z.cells.size = size) (hsz : 0 < size)
    (v : Value) (n : Nat) (xs : List Value) (hs : a.eval s = v) (hown : w.ownsRow base e size v n xs)
    (A : Option Addr) (m c : Nat) (news : List Value) (hx : a.eval x = .slice A m c) (hl : news.length = m * size) (hsrc : ∀ ad, A = some ad → ∀ j u, news[j]? = some u → w.cell? (ad.add j) = some u) (hnil : A = none → m = 0 ∧ c = 0) (h1 : ∀ u ∈ news, u.oneCell' = true)
    (h63 : n + m ≤ maxLen) (hbytes : (n + m) * bytes ≤ 140737488355328) (hbase : base ≤ w.heap.size)
    (h : ∀ v' w', w'.ownsRow base e size v' (n + m) (xs ++ news) → w.grownBy w' v.ownBlock → (v'.ownBlock = v.ownBlock ∨ v'.ownBlock = some w.heap.size) → wpList P ops Q rest (a.put o.dst v') w') : wpList P ops Q (o :: rest) a w := by
  refine wpList_plain hgd fun K hK => ?_
  obtain ⟨v', w', hrun, h2, h3, h4⟩ := run_append_src (P := P) (w := w) base t o.type e i z size bytes ht hi hz hsize hby hzs hsz v n xs hown A m c news hl hsrc hnil h1 h63 hbytes hbase
  unfold Oper.wp execOp
  simp only [ho, resolve, invoke, builtin, Sem.run_bind, Sem.run_pure, Result.andThen_ok, List.map_toArray, List.map_cons, List.map_nil, hs, hx, hrun]
  exact hK _ _ (h v' w' h2 h3 h4)
theorem infoSl : (Try.prog.info? 22).map (fun i => (i.zero, i.size, i.bytes)) = some (some (.slice none 0 0), 1, 24) := by kernel_rfl
end Go.Proofs.Ytcbjfdeigpdbdaa
