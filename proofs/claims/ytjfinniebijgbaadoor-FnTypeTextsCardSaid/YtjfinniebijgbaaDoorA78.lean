/- Several parts of the proof in one text; each part says what it shows. Nothing is assumed. -/
import Derived.Test.YtjfinniebijgbaaDoorA74
/- Contracts: what generators reach, as the program does it. -/
namespace Go.Proofs.YtjfinniebijgbaaDoor
set_option linter.unusedVariables false
set_option linter.unusedSimpArgs false
open Go.RowKit

theorem infoBool : (Tryd.prog.info? 4).map (fun i => (i.zero, i.size, i.bytes)) = some (some (.bool false), 1, 1) := by kernel_rfl
theorem BK.kept {w w' : World} {g : Nat} {t : TypeId} {cs : Array Value} {row : Option Nat} (h : BK w g t cs) (hg : w.grownBy w' row) (hne : some g ≠ row) : BK w' g t cs := (hg.block g h.lt hne).trans h
/-- Block g holds the flags sn. -/
def BB (w : World) (g : Nat) (sn : List Bool) : Prop := ∃ cs : Array Value, BK w g 4 cs ∧ cs.size = sn.length ∧ ∀ j, j < sn.length → cs[j]? = some (.bool (sn.getD j false))
theorem BB.lt {w : World} {g : Nat} {sn : List Bool} (h : BB w g sn) : g < w.heap.size := by
  obtain ⟨cs, h1, _⟩ := h
  exact h1.lt
theorem BB.cell {w : World} {g : Nat} {sn : List Bool} (h : BB w g sn) {j : Nat} (hj : j < sn.length) : w.cell? ⟨g, j, none⟩ = some (.bool (sn.getD j false)) ∧ w.frozen? ⟨g, j, none⟩ = false := by
  obtain ⟨cs, h1, _, h3⟩ := h
  exact ⟨(h1.cell j).trans (h3 j hj), h1.frozen j⟩
theorem BB.drewN {w : World} {g : Nat} {sn : List Bool} (h : BB w g sn) (n : Nat) : BB (w.drewN n) g sn := h
theorem BB.kept {w w' : World} {g : Nat} {sn : List Bool} {row : Option Nat} (h : BB w g sn) (hg : w.grownBy w' row) (hne : some g ≠ row) : BB w' g sn := by
  have hl := h.lt
  obtain ⟨cs, h1, h2, h3⟩ := h
  exact ⟨cs, (hg.block g hl hne).trans h1, h2, h3⟩
theorem BB.below {w w' : World} {g : Nat} {sn : List Bool} (h : BB w g sn) (hb : Below w.heap.size w w') : BB w' g sn := h.kept (grown_of_below hb) (by simp)
theorem BB.alloc {w : World} {g : Nat} {sn : List Bool} (h : BB w g sn) (o : Obj) : BB (w.alloc o) g sn := h.kept (World.grownBy_alloc w o none) (by simp)
theorem BB.set {w : World} {g r : Nat} {sn : List Bool} (h : BB w g sn) (hr : r < sn.length) : BB (w.setCell ⟨g, r, none⟩ (.bool true)) g (sn.set r true) := by
  obtain ⟨cs, h1, h2, h3⟩ := h
  refine ⟨_, h1.set r (.bool true), by simp [h2], fun j hj => ?_⟩
  simp at hj
  rw [Array.getElem?_setIfInBounds]
  by_cases hx : r = j
  · subst hx
    rw [if_pos rfl, if_pos (by omega), getD_set_self hr]
  · rw [if_neg hx, getD_set_ne hx]
    exact h3 j hj
theorem BB.new (w : World) (n : Nat) : BB (w.alloc (.cells (madeCells (.bool false : Value).cells n) 4)) w.heap.size (List.replicate n false) := by
  refine ⟨_, BK.new _ _ _, by simp [madeCells, Value.cells], fun j hj => ?_⟩
  simp at hj
  simp [madeCells, Value.cells, hj, List.getElem?_replicate, Nat.mod_one]
theorem BB.new1 (w : World) (n : Nat) (h : 0 < n) : BB (w.alloc (.cells ((madeCells #[.bool false] n).setIfInBounds 0 (.bool true)) 4)) w.heap.size ((List.replicate n false).set 0 true) := by
  refine ⟨_, BK.new _ _ _, by simp [madeCells], fun j hj => ?_⟩
  simp at hj
  rw [Array.getElem?_setIfInBounds]
  by_cases hx : 0 = j
  · subst hx
    rw [if_pos rfl, if_pos (by simp [madeCells]; omega), getD_set_self (by simp; omega)]
  · rw [if_neg hx, getD_set_ne hx]
    simp [madeCells, hj, List.getElem?_replicate, Nat.mod_one]
theorem own_ne_bb {w : World} {base n g : Nat} {e : TypeId} {s : Nat} {v : Value} {xs : List Value} {sn : List Bool} (h : w.ownsRow base e s v n xs) (hb : BB w g sn) (hne : e ≠ 4) : v.ownBlock ≠ some g := by
  obtain ⟨cs, h1, _⟩ := hb
  rcases h.2 with ⟨rfl, _⟩ | ⟨g', cap, cur, rfl, _, hh, _⟩
  · simp [Value.ownBlock]
  · intro he
    have : g' = g := by simpa [Value.ownBlock] using he
    subst this
    have h1' : w.heap[g']? = some (.cells cs 4 (0, 0)) := h1
    rw [hh] at h1'
    simp at h1'
    exact hne h1'.2
theorem own_dr {w : World} {base n : Nat} {e : TypeId} {size : Nat} {v : Value} {xs : List Value} (h : w.ownsRow base e size v n xs) (k : Nat) : (w.drewN k).ownsRow base e size v n xs := h
theorem grownBy_setC (w : World) (a : Addr) (u : Value) : w.grownBy (w.setCell a u) (some a.block) := ⟨rfl, rfl, rfl, by simp, fun k _ hk => Below.heap_setCell w a u k (fun e => hk (by rw [e]))⟩
theorem RowsO.drewN {w : World} {base : Nat} {vs : List Value} {ll : List (List Int)} (h : RowsO w base vs ll) (n : Nat) : RowsO (w.drewN n) base vs ll := h
theorem one_src_set (w : World) (q : Nat) (a : Addr) (v x : Value) (e : TypeId) : ∀ ad, some (⟨w.heap.size, 0, none⟩ : Addr) = some ad → ∀ j u, [x][j]? = some u → (((w.drewN q).setCell a v).alloc (.cells #[x] e)).cell? (ad.add j) = some u := by
  have h := one_src ((w.drewN q).setCell a v) x e
  have hz : ((w.drewN q).setCell a v).heap.size = w.heap.size := by simp
  rw [hz] at h
  exact h
/-- One more member: b in the row v1 (made in w1), seen at r; w4 is the world behind the append. -/
theorem gen_more {base gs r : Nat} {wr w1 w4 : World} {vs : List Value} {ms : List (List Int)} {u5 v1 : Value} {b : List Int} {sn : List Bool} {o : Obj}
    (hg4 : ((w1.setCell ⟨gs, r, none⟩ (.bool true)).alloc o).grownBy w4 u5.ownBlock)
    (ho : wr.ownsRow base 22 1 u5 ms.length vs) (hrows : RowsO wr base vs ms) (hB : BB wr gs sn) (hbase : base ≤ wr.heap.size)
    (ho1 : w1.ownsRow wr.heap.size 2 1 v1 b.length (ints b)) (hb1 : Below wr.heap.size wr w1) (hr : r < sn.length) :
    RowsO w4 base (vs ++ [v1]) (ms ++ [b]) ∧ BB w4 gs (sn.set r true) := by
  have hB1 := hB.below hb1
  have hsn := (hrows.below hb1).snoc (own_mono ho1 hbase) (fresh_ne hrows (fun g hg => (ho1.lt g hg).1))
  have hsn2 := (hsn.kept (grownBy_setC w1 ⟨gs, r, none⟩ (.bool true)) (fun i hi => .inr (own_ne_bb (hsn.2.1 i hi) hB1 (by decide)))).kept (World.grownBy_alloc _ o none) (fun i _ => by cases (gv (vs ++ [v1]) i).ownBlock <;> simp)
  have hou : ((w1.setCell ⟨gs, r, none⟩ (.bool true)).alloc o).ownsRow base 22 1 u5 ms.length vs :=
    World.ownsRow.alloc (ownsRow_setCell_other (own_below ho hb1) (own_ne_bb (own_below ho hb1) hB1 (by decide)) _) o
  refine ⟨hsn2.kept hg4 (fun i hi => own_ne (hsn2.2.1 i hi) hou (by decide)), ?_⟩
  exact ((hB1.set hr).alloc o).kept hg4 (Ne.symm (own_ne_bb hou ((hB1.set hr).alloc o) (by decide)))
def RG (n : Nat) (gens : List (List Int)) : List (List Int) × List Bool := bfs gens (fact n + 1) 0 [idL n] ((List.replicate (fact n) false).set 0 true)
theorem bfs_go {gens : List (List Int)} {f k : Nat} {ms : List (List Int)} {sn : List Bool} (h : k < ms.length) : bfs gens (f + 1) k ms sn = bfs gens f (k + 1) (stepG (gl ms k) gens ms sn).1 (stepG (gl ms k) gens ms sn).2 := by rw [bfs, if_pos h]
theorem bfs_end {gens : List (List Int)} {f k : Nat} {ms : List (List Int)} {sn : List Bool} (h : ¬ k < ms.length) : bfs gens f k ms sn = (ms, sn) := by
  cases f with
  | zero => rfl
  | succ f => rw [bfs, if_neg h]
theorem step_seen {m : List Int} {gens ms : List (List Int)} {sn : List Bool} {i : Nat} (hi : i < gens.length) (h : sn.getD (rk (prodL (gl gens i) m)) false = true) : stepG m (gens.drop i) ms sn = stepG m (gens.drop (i + 1)) ms sn := by
  rw [List.drop_eq_getElem_cons hi]
  have : gens[i] = gl gens i := by simp [gl, List.getElem?_eq_getElem hi]
  rw [this, stepG, if_pos h]
theorem step_new {m : List Int} {gens ms : List (List Int)} {sn : List Bool} {i : Nat} (hi : i < gens.length) (h : sn.getD (rk (prodL (gl gens i) m)) false = false) :
    stepG m (gens.drop i) ms sn = stepG m (gens.drop (i + 1)) (ms ++ [prodL (gl gens i) m]) (sn.set (rk (prodL (gl gens i) m)) true) := by
  rw [List.drop_eq_getElem_cons hi]
  have : gens[i] = gl gens i := by simp [gl, List.getElem?_eq_getElem hi]
  rw [this, stepG, if_neg (by rw [h]; simp)]
theorem step_done {m : List Int} {gens ms : List (List Int)} {sn : List Bool} : stepG m (gens.drop gens.length) ms sn = (ms, sn) := by rw [List.drop_length]; rfl
/-- What was reached holds the invariant. -/
theorem step_gi {n : Nat} {m : List Int} (hm : InR n m) : ∀ {gens ms : List (List Int)} {sn : List Bool}, (∀ g ∈ gens, InR n g) → GI n ms sn → GI n (stepG m gens ms sn).1 (stepG m gens ms sn).2
  | [], _, _, _, h => h
  | g :: gens, ms, sn, hg, h => by
    unfold stepG
    split
    · exact step_gi hm (fun x hx => hg x (by simp [hx])) h
    · rename_i hs
      exact step_gi hm (fun x hx => hg x (by simp [hx])) (h.more ((hg g (by simp)).prod hm) (by simpa using hs))
theorem bfs_gi {n : Nat} {gens : List (List Int)} (hg : ∀ g ∈ gens, InR n g) : ∀ (f k : Nat) {ms : List (List Int)} {sn : List Bool}, GI n ms sn → GI n (bfs gens f k ms sn).1 (bfs gens f k ms sn).2
  | 0, _, _, _, h => h
  | f + 1, k, ms, sn, h => by
    unfold bfs
    split
    · rename_i hk
      exact bfs_gi hg f (k + 1) (step_gi (h.2.2.1 k hk) hg h)
    · exact h
theorem RG_gi {n : Nat} {gens : List (List Int)} (hg : ∀ g ∈ gens, InR n g) : GI n (RG n gens).1 (RG n gens).2 := bfs_gi hg _ _ (GI.start (fact_pos n))
/-- The ranks of what generators reach. -/
def RK (n : Nat) (gens : List (List Int)) : List Int := lsL (RG n gens).2
theorem RK_eq {n : Nat} {gens : List (List Int)} (hg : ∀ g ∈ gens, InR n g) : rkC (RG n gens).1 = RK n gens := ranks_listed (RG_gi hg).2.2.2
end Go.Proofs.YtjfinniebijgbaaDoor
/- Contracts: impl.generate. -/
namespace Go.Proofs.YtjfinniebijgbaaDoor
set_option linter.unusedVariables false
set_option linter.unusedSimpArgs false
open Go.RowKit

end Go.Proofs.YtjfinniebijgbaaDoor
/- Contracts: spec.l22Listed, spec.l22Generate. -/
namespace Go.Proofs.YtjfinniebijgbaaDoor
set_option linter.unusedVariables false
set_option linter.unusedSimpArgs false
open Go.RowKit

def lsK (sn : List Bool) (k : Nat) : List Int := ((List.range k).filter fun r => sn.getD r false).map fun r : Nat => (r : Int)
theorem lsK_all (sn : List Bool) : lsK sn sn.length = lsL sn := rfl
theorem lsK_yes {sn : List Bool} {k : Nat} (h : sn.getD k false = true) : lsK sn (k + 1) = lsK sn k ++ [(k : Int)] := by
  unfold lsK
  rw [List.range_succ, List.filter_append, List.map_append]
  simp [h] at *
  simp [h]
theorem lsK_no {sn : List Bool} {k : Nat} (h : sn.getD k false = false) : lsK sn (k + 1) = lsK sn k := by
  unfold lsK
  rw [List.range_succ, List.filter_append, List.map_append]
  simp [h] at *
  simp [h]
theorem lsK_len (sn : List Bool) (k : Nat) : (lsK sn k).length ≤ k := by
  unfold lsK
  rw [List.length_map]
  exact Nat.le_trans (List.length_filter_le _ _) (by simp)
/-- How many of the flags of block g are true. -/
noncomputable def cntW (w : World) (g n : Nat) : Nat := open Classical in (List.range n).countP fun j => decide (w.cell? ⟨g, j, none⟩ = some (.bool true))
theorem trues_range : ∀ (sn : List Bool), trues sn = (List.range sn.length).countP fun j => sn.getD j false
  | [] => rfl
  | b :: sn => by
    have h := trues_range sn
    unfold trues at h ⊢
    rw [List.countP_cons, h, List.length_cons, List.range_succ_eq_map, List.countP_cons, List.countP_map]
    simp [Function.comp_def]
theorem cntW_bb {w : World} {g : Nat} {sn : List Bool} (h : BB w g sn) : cntW w g sn.length = trues sn := by
  unfold cntW
  rw [trues_range]
  refine List.countP_congr fun j hj => ?_
  simp at hj
  rw [(h.cell hj).1]
  cases sn.getD j false <;> simp
end Go.Proofs.YtjfinniebijgbaaDoor
/- Contracts: spec.l22Generate. -/
namespace Go.Proofs.YtjfinniebijgbaaDoor
set_option linter.unusedVariables false
set_option linter.unusedSimpArgs false
open Go.RowKit

theorem q_ne {w : World} {b b' n n' : Nat} {e e' : TypeId} {s' : Nat} {v v' : Value} {xs xs' : List Value} (h : QRow w b e v n xs) (h' : w.ownsRow b' e' s' v' n' xs') (hne : e' ≠ e) : v'.ownBlock = none ∨ v'.ownBlock ≠ v.ownBlock := by
  obtain ⟨_, g, off, cap, cur, rfl, _, hh, _⟩ := h
  rcases h'.2 with ⟨rfl, _⟩ | ⟨g', cap', cur', rfl, _, hh', _⟩
  · exact .inl rfl
  · refine .inr fun he => ?_
    have : g' = g := by simpa [Value.ownBlock] using he
    subst this
    rw [hh] at hh'
    simp at hh'
    exact hne hh'.2.symm
theorem q_ne_bb {w : World} {base n g : Nat} {e : TypeId} {v : Value} {xs : List Value} {sn : List Bool} (h : QRow w base e v n xs) (hb : BB w g sn) (hne : e ≠ 4) : v.ownBlock ≠ some g := by
  obtain ⟨cs, h1, _⟩ := hb
  obtain ⟨_, g', off, cap, cur, rfl, _, hh, _⟩ := h
  intro he
  have : g' = g := by simpa [Value.ownBlock] using he
  subst this
  have h1' : w.heap[g']? = some (.cells cs 4 (0, 0)) := h1
  rw [hh] at h1'
  simp at h1'
  exact hne h1'.2
theorem QRow.mono {w : World} {base base' n : Nat} {e : TypeId} {v : Value} {xs : List Value} (h : QRow w base e v n xs) (hb : base' ≤ base) : QRow w base' e v n xs := by
  obtain ⟨h1, g, off, cap, cur, h2, h3, r⟩ := h
  exact ⟨h1, g, off, cap, cur, h2, by omega, r⟩
theorem RowsO.tail {w : World} {base : Nat} {v : Value} {vs : List Value} {a : List Int} {ll : List (List Int)} (h : RowsO w base (v :: vs) (a :: ll)) : OwnI w base v a ∧ RowsO w base vs ll := by
  obtain ⟨h1, h2, h3⟩ := h
  refine ⟨h2 0 (by simp), by simpa using h1, fun i hi => h2 (i + 1) (by simp; omega), fun i j hij hj => h3 (i + 1) (j + 1) (by omega) (by simp; omega)⟩
theorem QRow.form {w : World} {base n : Nat} {e : TypeId} {v : Value} {xs : List Value} (h : QRow w base e v n xs) : ∃ g off cap, v = .slice (some ⟨g, off, none⟩) n cap ∧ n ≤ cap ∧ cap ≤ maxLen := by
  obtain ⟨_, g, off, cap, cur, h2, _, _, h3, h4, _⟩ := h
  exact ⟨g, off, cap, h2, h3, h4⟩
def slen : Value → Nat
  | .slice _ n _ => n
  | _ => 0
theorem genq_more {base gs r N : Nat} {wr w1 w4 : World} {vs : List Value} {T1 : List (List Int)} {u5 v1 av : Value} {b m : List Int} {sn : List Bool} {o : Obj}
    (hg4 : ((w1.setCell ⟨gs, r, none⟩ (.bool true)).alloc o).grownBy w4 u5.ownBlock)
    (ho : QRow wr base 22 u5 N vs) (hrows : RowsO wr base vs T1) (hm : OwnI wr base av m) (hB : BB wr gs sn) (hbase : base ≤ wr.heap.size)
    (ho1 : w1.ownsRow wr.heap.size 2 1 v1 b.length (ints b)) (hb1 : Below wr.heap.size wr w1) (hr : r < sn.length) :
    RowsO w4 base (vs ++ [v1]) (T1 ++ [b]) ∧ OwnI w4 base av m ∧ BB w4 gs (sn.set r true) := by
  have hB1 := hB.below hb1
  have hsn := (hrows.below hb1).snoc (own_mono ho1 hbase) (fresh_ne hrows (fun g hg => (ho1.lt g hg).1))
  have hsn2 := (hsn.kept (grownBy_setC w1 ⟨gs, r, none⟩ (.bool true)) (fun i hi => .inr (own_ne_bb (hsn.2.1 i hi) hB1 (by decide)))).kept (World.grownBy_alloc _ o none) (fun i _ => by cases (gv (vs ++ [v1]) i).ownBlock <;> simp)
  have hm2 := World.ownsRow.alloc (ownsRow_setCell_other (own_below hm hb1) (a := ⟨gs, r, none⟩) (own_ne_bb (own_below hm hb1) hB1 (by decide)) (.bool true)) o
  have hq1 := (ho.below hb1).kept (grownBy_setC w1 ⟨gs, r, none⟩ (.bool true)) (.inr (q_ne_bb (ho.below hb1) hB1 (by decide)))
  have hou := hq1.kept (World.grownBy_alloc _ o none) (by cases u5.ownBlock <;> simp)
  refine ⟨hsn2.kept hg4 (fun i hi => q_ne hou (hsn2.2.1 i hi) (by decide)), World.ownsRow.kept hm2 hg4 (q_ne hou hm2 (by decide)), ?_⟩
  exact ((hB1.set hr).alloc o).kept hg4 (Ne.symm (q_ne_bb hou ((hB1.set hr).alloc o) (by decide)))
theorem trues_le_set {sn : List Bool} {r : Nat} (h : r < sn.length) (h0 : sn.getD r false = false) : trues (sn.set r true) = trues sn + 1 := trues_set sn r h h0
end Go.Proofs.YtjfinniebijgbaaDoor
