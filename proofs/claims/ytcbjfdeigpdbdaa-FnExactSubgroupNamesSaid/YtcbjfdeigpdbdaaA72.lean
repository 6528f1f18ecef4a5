/- append of one element to a slice that begins in the midst of a block of the call's own: a queue. -/
import Derived.Test.YtcbjfdeigpdbdaaA71
import Derived.Test.YtcbjfdeigpdbdaaA17
namespace Go.Proofs.Ytcbjfdeigpdbdaa
set_option linter.unusedVariables false
set_option linter.unusedSimpArgs false
open Go.RowKit

/-- v is a slice of one-cell elements in a block of the call's own, from some place on; it holds xs. -/
def QRow (w : World) (base : Nat) (e : TypeId) (v : Value) (n : Nat) (xs : List Value) : Prop :=
  xs.length = n ∧ ∃ g off cap cur, v = .slice (some ⟨g, off, none⟩) n cap ∧ base ≤ g ∧ w.heap[g]? = some (.cells cur e (0, 0)) ∧ n ≤ cap ∧ cap ≤ maxLen ∧ off + cap ≤ cur.size ∧ (cur.toList.drop off).take n = xs
theorem QRow.lt {w : World} {base n : Nat} {e : TypeId} {v : Value} {xs : List Value} (h : QRow w base e v n xs) : ∀ g, v.ownBlock = some g → base ≤ g ∧ g < w.heap.size := by
  obtain ⟨_, g, off, cap, cur, rfl, hb, hg, _⟩ := h
  intro g' hg'
  have : g = g' := by simpa [Value.ownBlock] using hg'
  subst this
  refine ⟨hb, ?_⟩
  rcases Nat.lt_or_ge g w.heap.size with h | h
  · exact h
  · rw [Array.getElem?_eq_none h] at hg; cases hg
theorem QRow.of_own {w : World} {base n cap : Nat} {e : TypeId} {A : Addr} {xs : List Value} (h : w.ownsRow base e 1 (.slice (some A) n cap) n xs) : QRow w base e (.slice (some A) n cap) n xs := by
  obtain ⟨h1, h2⟩ := h
  rcases h2 with ⟨h0, _⟩ | ⟨g, cap', cur, hv, hb, hg, hn, hc, hsz, ht⟩
  · cases h0
  · cases hv
    exact ⟨by omega, g, 0, cap, cur, rfl, hb, hg, hn, hc, by omega, by simpa using ht⟩
theorem QRow.kept {w w' : World} {base n : Nat} {e : TypeId} {v : Value} {xs : List Value} {row : Option Nat} (h : QRow w base e v n xs) (hg : w.grownBy w' row) (hne : v.ownBlock = none ∨ v.ownBlock ≠ row) : QRow w' base e v n xs := by
  have hlt := h.lt
  obtain ⟨h1, g, off, cap, cur, rfl, hb, hh, r⟩ := h
  have hl := hlt g rfl
  refine ⟨h1, g, off, cap, cur, rfl, hb, ?_, r⟩
  rw [hg.block g hl.2 (fun e => ?_)]
  · exact hh
  · rcases hne with h0 | h0
    · simp [Value.ownBlock] at h0
    · exact h0 (by simp [Value.ownBlock, e])
theorem QRow.below {w w' : World} {base n : Nat} {e : TypeId} {v : Value} {xs : List Value} (h : QRow w base e v n xs) (hb : Below w.heap.size w w') : QRow w' base e v n xs :=
  h.kept (grown_of_below hb) (by cases v.ownBlock <;> simp)
theorem QRow.drewN {w : World} {base n : Nat} {e : TypeId} {v : Value} {xs : List Value} (h : QRow w base e v n xs) (k : Nat) : QRow (w.drewN k) base e v n xs := h
theorem QRow.cells {w : World} {base n g off cap : Nat} {e : TypeId} {xs : List Value} (h : QRow w base e (.slice (some ⟨g, off, none⟩) n cap) n xs) : ∀ j u, xs[j]? = some u → w.cell? ⟨g, off + j, none⟩ = some u := by
  obtain ⟨h1, g', off', cap', cur, hv, hb, hg, hn, hc, hsz, ht⟩ := h
  cases hv
  intro j u hj
  have hjn : j < n := by
    rw [← h1]
    rcases Nat.lt_or_ge j xs.length with h | h
    · exact h
    · rw [List.getElem?_eq_none h] at hj; cases hj
  rw [← ht, List.getElem?_take, if_pos hjn, List.getElem?_drop] at hj
  rw [World.cell?, hg]
  simpa using hj
/-- The first is taken away. -/
theorem QRow.tail {w : World} {base n g off cap : Nat} {e : TypeId} {x : Value} {xs : List Value} (h : QRow w base e (.slice (some ⟨g, off, none⟩) (n + 1) cap) (n + 1) (x :: xs)) (hc : cap ≠ 1) :
    QRow w base e (.slice (some ⟨g, off + 1, none⟩) n (cap - 1)) n xs := by
  obtain ⟨h1, g', off', cap', cur, hv, hb, hg, hn, hcm, hsz, ht⟩ := h
  cases hv
  refine ⟨by simpa using h1, g, off + 1, cap - 1, cur, rfl, hb, hg, by omega, by omega, by omega, ?_⟩
  have : (cur.toList.drop (off + 1)) = (cur.toList.drop off).tail := by simp
  rw [this]
  cases hd : cur.toList.drop off with
  | nil => rw [hd] at ht; simp at ht
  | cons y ys => rw [hd, List.take_succ_cons] at ht; injection ht
theorem QRow.tail0 {w : World} {base g off : Nat} {e : TypeId} {x : Value} {xs : List Value} (h : QRow w base e (.slice (some ⟨g, off, none⟩) 1 1) 1 (x :: xs)) :
    QRow w base e (.slice (some ⟨g, off, none⟩) 0 0) 0 xs := by
  obtain ⟨h1, g', off', cap', cur, hv, hb, hg, hn, hcm, hsz, ht⟩ := h
  cases hv
  have hx : xs = [] := List.eq_nil_of_length_eq_zero (by simpa using h1)
  subst hx
  exact ⟨rfl, g, off, 0, cur, rfl, hb, hg, by omega, by omega, by omega, by simp⟩
theorem run_append_mid {P : Program} {w : World} (base : Nat) (t ty e : TypeId) (i : TypeInfo) (z : Value) (bytes : Nat) (ht : P.underlying t = some (.slice e)) (hi : P.info? e = some i) (hz : i.zero = some z)
    (hsize : i.size = 1) (hby : i.bytes = bytes) (hzs : z.cells.size = 1)
    (v : Value) (n : Nat) (xs : List Value) (hown : QRow w base e v n xs)
    (a : Addr) (c : Nat) (x : Value) (hnews : ∀ j u, [x][j]? = some u → w.cell? (a.add j) = some u) (h1 : x.oneCell' = true)
    (h63 : n + 1 ≤ maxLen) (hbytes : (n + 1) * bytes ≤ 140737488355328) (hbase : base ≤ w.heap.size) :
    ∃ v' w', (Builtin.append_ #[t, t] ty #[v, .slice (some a) 1 c]).run P w = .ok v' w' ∧ QRow w' base e v' (n + 1) (xs ++ [x]) ∧ w.grownBy w' v.ownBlock ∧ (v'.ownBlock = v.ownBlock ∨ v'.ownBlock = some w.heap.size) := by
  subst hby
  have hcell := fun g off cap (hv : v = .slice (some ⟨g, off, none⟩) n cap) => QRow.cells (g := g) (off := off) (cap := cap) (hv ▸ hown)
  obtain ⟨hlen, g, off, cap, cur, rfl, hbg, hg, hnc, hcm, hcs, htake⟩ := hown
  have hcell := hcell g off cap rfl
  have hl1 : ∀ u ∈ [x], u.oneCell' = true := by simpa using h1
  by_cases hroom : n + 1 ≤ cap
  · have hf := run_firstCells_some (P := P) w i.size 1 a 1 c [x] (by simp [hsize]) hnews
    rw [hsize] at hf
    have hst := run_storeCells_at P g (off + n) e [x] 0 cur w hg (by simp; omega) hl1
    simp only [Nat.add_zero] at hst
    refine ⟨.slice (some ⟨g, off, none⟩) (n + 1) cap, w.setRow g (cur.toList.take (off + n) ++ [x] ++ cur.toList.drop (off + n + 1)).toArray, ?_, ⟨by simp [hlen], g, off, cap, (cur.toList.take (off + n) ++ [x] ++ cur.toList.drop (off + n + 1)).toArray, rfl, hbg, setRow_heap w g cur _ e _ hg, hroom, hcm, ?_, ?_⟩, ⟨rfl, rfl, rfl, by simp, fun k _ hk => setRow_other w g k _ (fun e => hk (by simp [Value.ownBlock, e]))⟩, .inl rfl⟩
    · simp [Builtin.append_, run_underlying ht, sizeOf, typeInfo, hi, Builtin.lenOf, hroom, hf, hsize, Addr.add_mid] at hst ⊢
      rw [hst]
      rfl
    · simp only [List.size_toArray, List.length_append, List.length_take, List.length_drop, Array.length_toList]
      simp; omega
    · have e1 : off + n ≤ cur.toList.length := by simp; omega
      simp only [List.append_assoc]
      rw [List.drop_append_of_le_length (by simp; omega), List.drop_take]
      rw [show off + n - off = n by omega, htake]
      rw [show n + 1 = (xs ++ [x]).length by simp [hlen], ← List.append_assoc]
      exact List.take_left
  · have hr := run_append_grow (P := P) w t ty e i z ht hi hz ⟨g, off, none⟩ n cap xs (by rw [hlen, hsize, Nat.mul_one]) (fun j u hj => by rw [Addr.add_mid]; exact hcell j u hj) a 1 c [x] (by simp [hsize]) hnews (by omega) (by simp only [maxLen] at h63; omega) (growslice_fits (by omega) hbytes)
    have hge := grownCap_ge w (n + 1) cap e
    have hcm' : grownCap w (n + 1) cap e ≤ maxLen := grownCap_le_maxLen w (n + 1) cap e h63
    refine ⟨_, _, hr, ⟨by simp [hlen], w.heap.size, 0, _, _, rfl, hbase, heap_alloc_new w.drew _, hge, hcm', ?_, ?_⟩, ⟨rfl, rfl, rfl, by simp, fun k hk _ => heap_alloc_old w.drew _ hk⟩, .inr rfl⟩
    · simp only [Array.size_append, List.size_toArray, size_zeroCells, hzs, hlen]
      simp; omega
    · simp only [Array.toList_append, List.append_assoc, List.drop_zero]
      rw [← List.append_assoc, show n + 1 = (xs ++ [x]).length by simp [hlen]]
      exact List.take_left
theorem wpList_append_mid {P : Program} {w : World} {ops : Array Oper} {rest : List Oper} {o : Oper} {a : Act} {Q : Exit → Act → World → Prop} (hgd : o.guard = none) (s x : Operand) (t : TypeId)
    (ho : o.op = .call { callee := .builtin .append, args := #[s, x], argTypes := #[t, t] })
    (base : Nat) (e : TypeId) (i : TypeInfo) (z : Value) (bytes : Nat) (ht : P.underlying t = some (.slice e)) (hi : P.info? e = some i) (hz : i.zero = some z)
    (hsize : i.size = 1) (hby : i.bytes = bytes) (hzs : z.cells.size = 1)
    (v : Value) (n : Nat) (xs : List Value) (hs : a.eval s = v) (hown : QRow w base e v n xs)
    (ad : Addr) (c : Nat) (u : Value) (hx : a.eval x = .slice (some ad) 1 c) (hnews : ∀ j y, [u][j]? = some y → w.cell? (ad.add j) = some y) (h1 : u.oneCell' = true)
    (h63 : n + 1 ≤ maxLen) (hbytes : (n + 1) * bytes ≤ 140737488355328) (hbase : base ≤ w.heap.size)
    (h : ∀ v' w', QRow w' base e v' (n + 1) (xs ++ [u]) → w.grownBy w' v.ownBlock → (v'.ownBlock = v.ownBlock ∨ v'.ownBlock = some w.heap.size) → wpList P ops Q rest (a.put o.dst v') w') : wpList P ops Q (o :: rest) a w := by
  refine wpList_plain hgd fun K hK => ?_
  obtain ⟨v', w', hrun, h2, h3, h4⟩ := run_append_mid (P := P) (w := w) base t o.type e i z bytes ht hi hz hsize hby hzs v n xs hown ad c u hnews h1 h63 hbytes hbase
  unfold Oper.wp execOp
  simp only [ho, resolve, invoke, builtin, Sem.run_bind, Sem.run_pure, Result.andThen_ok, List.map_toArray, List.map_cons, List.map_nil, hs, hx, hrun]
  exact hK _ _ (h v' w' h2 h3 h4)
end Go.Proofs.Ytcbjfdeigpdbdaa
