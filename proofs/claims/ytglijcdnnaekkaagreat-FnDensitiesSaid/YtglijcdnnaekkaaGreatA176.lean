/- Several parts of the proof in one text; each part says what it shows. Nothing is assumed. -/
import Derived.Test.YtglijcdnnaekkaaGreatA174
/- Groups that a law opens, sizes, copies; the law of OrbitsOf. -/
namespace Go.Proofs.YtglijcdnnaekkaaGreat
set_option linter.unusedVariables false
set_option linter.unusedSimpArgs false
open Go.ChangeShapes Go.WideShapes Go.ChangeAt Go.RowKit

theorem open_isc {H : Type} {enc : TypeId × Value → H} {P : Program} {w : World} {fuel : Nat} {t e : TypeId} {v : Value} {y : DataW H × List MemPlace} (ht : P.underlying t = some (.slice e)) (he : P.underlying e = some (.int .i64)) (hc : P.cellsOf e = 1)
    (hf : DataW.trod enc P w 0 (fun _ => true) true fuel t [v] = some y) (hlt : ∀ x ∈ y.2, x.block < w.heap.size) :
    ∃ A n c xs, v = .slice A n c ∧ n = xs.length ∧ n ≤ c ∧ c ≤ maxLen ∧ R64 xs ∧ IS w w.heap.size A xs := by
  rcases open_ints ht he hc hf with ⟨hcs, hx⟩ | ⟨a, n, c, zs, hcs, _, hl, hm, hz, hx, hcell, hwz⟩
  · simp at hcs
    subst hcs
    exact ⟨none, 0, 0, [], rfl, rfl, Nat.le_refl _, by simp [maxLen], fun x hx => by simp at hx, fun h => by simp at h⟩
  · simp at hcs
    subst hcs
    simp at hz
    subst hx
    refine ⟨some a, n, c, zs.take n, rfl, by simp; omega, hl, hm, fun x hx => ?_, fun h => ?_⟩
    · exact wf64 (hwz x (List.mem_of_mem_take hx))
    · simp at h
      obtain ⟨b, off, rfl, hcc⟩ := Go.ints_at hcell (by omega)
      refine ⟨b, off, rfl, ?_, fun k hk => ?_⟩
      · have := hlt (.cell b off) (MemPlace.mem_row.2 ⟨0, by omega, by simp⟩)
        exact this
      · simp at hk
        rw [hcc k (by omega)]
        simp [gt, hk]
        rw [List.getElem?_eq_getElem (by omega)]; rfl
theorem open_grp {H : Type} {enc : TypeId × Value → H} {P : Program} {w : World} {B : Nat} {t ti ts : TypeId} {f0 f1 : Field} {v : Value} {d : DataW H} {p : List MemPlace} (hs : P.underlying t = some (.struct #[f0, f1])) (hone : Go.Deep.oneCellFields P #[f0, f1] = true) (hC : P.cellsOf t = 2)
    (h0 : f0.type = ti) (h1 : f1.type = ts) (hi : P.underlying ti = some (.int .i64)) (hts : P.underlying ts = some (.slice ti)) (hc : P.cellsOf ti = 1)
    (hv : Value.okWide P w .any B t v) (h : DataW.Trod enc P w 0 (fun _ => true) true t v d p) (hlt : ∀ x ∈ p, x.block < w.heap.size) :
    ∃ q A n c xs, v = .agg #[.int .i64 q, .slice A n c] ∧ n = xs.length ∧ n ≤ c ∧ c ≤ maxLen ∧ R64 xs ∧ IS w w.heap.size A xs := by
  obtain ⟨v0, v1, y0, y1, m, rfl, rfl, rfl, hy0, hy1⟩ := Joins.open_agg2 hs hone hC hv h
  subst h0
  subst h1
  obtain ⟨q, eq, _, _⟩ := DataW.trod_int hi hy0
  simp at eq
  subst eq
  obtain ⟨A, n, c, xs, rfl, h2⟩ := open_isc hts hi hc hy1 (fun x hx => hlt x (by simp [hx]))
  exact ⟨q, A, n, c, xs, rfl, h2⟩
set_option maxHeartbeats 1000000 in
theorem l_szGYes (p : Int) (A : Option Addr) (n c : Nat) (w : World) (hn : n ≤ 1048576) : Calls Tryz.prog 50 #[.agg #[.int .i64 p, .slice A n c], .int .i64 1048576] w (M (.int .i64 (1048576 - n)) w) := by
  have h := fun W => l_szYes A n c 1048576 W (by omega) hn
  have e : ((1048576 - n : Nat) : Int) = 1048576 - (n : Int) := by omega
  rw [e] at h
  obtain ⟨c0, c1, _, _⟩ := (BK.new w 76 #[.int .i64 p, .slice A n c]).two
  have hb0 := (Below.refl w.heap.size w).alloc (Nat.le_refl _) (.cells #[.int .i64 p, .slice A n c] 76)
  clear e
  have hn0 : ¬ (1048576 : Int) - n < 0 := by omega
  go_enter Tryz.func50, Tryz.ntmps50
  go_wp2_with (go_at_call 113; refine (h _).mono ?_; rintro e w' ⟨rfl, nq, rfl⟩)
  go_ret
  exact ⟨rfl, below_drewN hb0 _⟩
set_option maxHeartbeats 1000000 in
theorem l_szGNo (p : Int) (A : Option Addr) (n c : Nat) (w : World) (hm : n ≤ maxLen) (hn : 1048576 < n) : Calls Tryz.prog 50 #[.agg #[.int .i64 p, .slice A n c], .int .i64 1048576] w (M (.int .i64 (-1)) w) := by
  have h := fun W => l_szNo A n c 1048576 W (by omega) hm hn
  obtain ⟨c0, c1, _, _⟩ := (BK.new w 76 #[.int .i64 p, .slice A n c]).two
  have hb0 := (Below.refl w.heap.size w).alloc (Nat.le_refl _) (.cells #[.int .i64 p, .slice A n c] 76)
  go_enter Tryz.func50, Tryz.ntmps50
  go_wp2_with (go_at_call 113; refine (h _).mono ?_; rintro e w' ⟨rfl, nq, rfl⟩)
  go_ret
  exact ⟨rfl, below_drewN hb0 _⟩
set_option maxRecDepth 10000 in
set_option maxHeartbeats 1000000 in
theorem l_toGroup (p : Int) (A : Option Addr) (L c : Nat) (l : List Int) (w : World) (hL : L = l.length) (hl : L ≤ 1048576) (hs : IS w w.heap.size A l) :
    Calls Tryz.prog 51 #[.agg #[.int .i64 p, .slice A L c]] w (fun e w' => ∃ g, e = .returned (.agg #[.int .i64 p, .slice (some ⟨g, 0, none⟩) L L]) ∧ w'.ownsRow w.heap.size 2 1 (.slice (some ⟨g, 0, none⟩) L L) L (ints l) ∧ Below w.heap.size w w') := by
  have hto := fun W h => l_toInt64S A L c l W hL hl h
  have hns := fun (W : World) B g (h : NS W B g l) => h.own' hL hl
  have B0 := ((BK.new w 76 #[.int .i64 p, .slice A L c]).alloc (.cells #[.int .i64 0, .slice none 0 0] 26)).alloc (.cells #[.int .i64 0, .slice none 0 0] 26)
  obtain ⟨c0, c1, _, _⟩ := B0.two
  have hb0 : Below w.heap.size w (((w.alloc (.cells #[.int .i64 p, .slice A L c] 76)).alloc (.cells #[.int .i64 0, .slice none 0 0] 26)).alloc (.cells #[.int .i64 p, .slice none 0 0] 26)) := (((Below.refl w.heap.size w).alloc (Nat.le_refl _) _).alloc (by simp) _).alloc (by simp; omega) _
  have hs0 := hs.call hb0
  have B2 := BK.new ((w.alloc (.cells #[.int .i64 p, .slice A L c] 76)).alloc (.cells #[.int .i64 0, .slice none 0 0] 26)) 26 #[.int .i64 p, .slice none 0 0]
  have B1 := (BK.new (w.alloc (.cells #[.int .i64 p, .slice A L c] 76)) 26 #[.int .i64 0, .slice none 0 0]).alloc (.cells #[.int .i64 p, .slice none 0 0] 26)
  have e2 : ((w.alloc (.cells #[.int .i64 p, .slice A L c] 76)).alloc (.cells #[.int .i64 0, .slice none 0 0] 26)).heap.size = w.heap.size + 1 + 1 := by simp
  have e1 : (w.alloc (.cells #[.int .i64 p, .slice A L c] 76)).heap.size = w.heap.size + 1 := by simp
  have hto := hto _ hs0
  rw [e2] at B2
  rw [e1] at B1
  have hz : (((w.alloc (.cells #[.int .i64 p, .slice A L c] 76)).alloc (.cells #[.int .i64 0, .slice none 0 0] 26)).alloc (.cells #[.int .i64 p, .slice none 0 0] 26)).heap.size = w.heap.size + 1 + 1 + 1 := by simp
  have HZ := Lib.hid hz
  have HNS := Lib.hid hns
  clear e1 e2 hz hns hL hs hs0
  go_enter Tryz.func51, Tryz.ntmps51
  go_wp2_with (go_at_call 114; refine hto.mono ?_; rintro e w4 ⟨g, rfl, hN, hb4⟩; have h3 := B2.below hb4 (by rw [HZ.out]; omega); have h2 := B1.below hb4 (by rw [HZ.out]; omega); obtain ⟨f0, f1, fz0, fz1⟩ := h3.two; obtain ⟨f2, f3, fz2, fz3⟩ := h2.two)
  have hz4 := hb4.size
  rw [HZ.out] at hz4
  have ho4 := HNS.out _ _ _ hN
  have hg4 := hN.1
  rw [HZ.out] at hg4
  have hb5 := bel_call hb0 hb4
  clear B0 B1 B2 c0 c1 hto hb0 hb4 HZ HNS hN
  have h5 := ((h2.far (p := ⟨w.heap.size + 1 + 1, 1, none⟩) (by simp) (.slice (some ⟨g, 0, none⟩) L L)).set 0 (.int .i64 p)).set 1 (.slice (some ⟨g, 0, none⟩) L L)
  have hb6 := ((hb5.setCell (p := ⟨w.heap.size + 1 + 1, 1, none⟩) (by simp; omega) (.slice (some ⟨g, 0, none⟩) L L)).setCell (p := ⟨w.heap.size + 1, 0, none⟩) (by simp) (.int .i64 p)).setCell (p := ⟨w.heap.size + 1, 1, none⟩) (by simp) (.slice (some ⟨g, 0, none⟩) L L)
  have ho6 := ownsRow_setCell_below (ownsRow_setCell_below (ownsRow_setCell_below ho4 (a := ⟨w.heap.size + 1 + 1, 1, none⟩) (by simp) (.slice (some ⟨g, 0, none⟩) L L)) (a := ⟨w.heap.size + 1, 0, none⟩) (by simp; try omega) (.int .i64 p)) (a := ⟨w.heap.size + 1, 1, none⟩) (by simp; try omega) (.slice (some ⟨g, 0, none⟩) L L)
  generalize (((w4.setCell ⟨w.heap.size + 1 + 1, 1, none⟩ (.slice (some ⟨g, 0, none⟩) L L)).setCell ⟨w.heap.size + 1, 0, none⟩ (.int .i64 p)).setCell ⟨w.heap.size + 1, 1, none⟩ (.slice (some ⟨g, 0, none⟩) L L)) = w5 at *
  obtain ⟨d0, d1, _, _⟩ := BK.two (x := .int .i64 p) (y := .slice (some ⟨g, 0, none⟩) L L) (by simpa using h5)
  (try simp only [Exit.inBlock, Exit.then])
  refine bodyPost_ret (v := .agg #[.int .i64 p, .slice (some ⟨g, 0, none⟩) L L]) (by simp [results, Tryz.results51, go_sem, d0, d1]; try rfl) rfl ?_
  exact ⟨_, rfl, own_mono ho6 (by simp; omega), hb6⟩
end Go.Proofs.YtglijcdnnaekkaaGreat
/- The law of OrbitsOf. -/
namespace Go.Proofs.YtglijcdnnaekkaaGreat
set_option linter.unusedVariables false
set_option linter.unusedSimpArgs false
open Go.RowKit

theorem tot_small {ll : List (List Int)} {b : Nat} (h : ∀ k, k < ll.length → (gl ll k).length ≤ b) : ∀ k, k ≤ ll.length → tot ll k ≤ b * k
  | 0, _ => by rw [tot_zero]; omega
  | k + 1, hk => by
    have h1 := tot_small h k (by omega)
    have h2 := h k (by omega)
    rw [tot_succ (by omega), Nat.mul_succ]
    omega
theorem obL_row {n : Nat} {l : List Int} (hk : InK n l) : ∀ a ∈ obL n l n, a.length ≤ n := fun a ha => by
  unfold obL at ha
  rw [List.mem_map] at ha
  obtain ⟨p, hp, rfl⟩ := ha
  have h1 := List.mem_range.1 (List.mem_filter.1 hp).1
  exact orL_len hk h1
theorem ooL_small (p : Int) (l : List Int) : (ooL p l).length ≤ 6 ∧ ∀ k, k < (ooL p l).length → (gl (ooL p l) k).length ≤ 6 := by
  unfold ooL
  cases hg : grpB p l
  · exact ⟨by simp, fun k h => by simp at h⟩
  · obtain ⟨n, rfl, h1, h2, h3, h4, h5⟩ := grpB_t hg
    rw [Int.toNat_natCast]
    have h6 := obL_le n l n
    refine ⟨by simp; omega, fun k h => ?_⟩
    simp only [if_true] at h ⊢
    have := obL_row h5 _ (gl_mem h)
    omega
/-- A table whose blocks lie from lo up to hi. -/
structure TB (w : World) (lo hi : Nat) (A : Option Addr) (m c : Nat) (vs : List Value) (ll : List (List Int)) : Prop where
  own : w.ownsRow lo 24 1 (.slice A m c) m vs
  rows : RowsO w lo vs ll
  b1 : ∀ g, (Value.slice A m c).ownBlock = some g → g < hi
  b2 : ∀ i g, i < vs.length → (gv vs i).ownBlock = some g → g < hi
section
variable {w w' : World} {lo hi m c : Nat} {A : Option Addr} {vs : List Value} {ll : List (List Int)}
theorem TB.mk' (h1 : w.ownsRow lo 24 1 (.slice A m c) m vs) (h2 : RowsO w lo vs ll) : TB w lo w.heap.size A m c vs ll :=
  ⟨h1, h2, fun g hg => (h1.lt g hg).2, fun i g hi hg => (World.ownsRow.lt (h2.2.1 i hi) g hg).2⟩
theorem TB.ii (h : TB w lo hi A m c vs ll) : II w w.heap.size A ll := OwnII.ii h.own h.rows
theorem TB.below (h : TB w lo hi A m c vs ll) (hb : Below w.heap.size w w') : TB w' lo hi A m c vs ll := ⟨own_below h.own hb, h.rows.below hb, h.b1, h.b2⟩
theorem TB.dr (h : TB w lo hi A m c vs ll) (n : Nat) : TB (w.drewN n) lo hi A m c vs ll := ⟨own_dr h.own n, h.rows.drewN n, h.b1, h.b2⟩
theorem TB.grown {row : Option Nat} (h : TB w lo hi A m c vs ll) (hg : w.grownBy w' row) (hr : ∀ g, row = some g → g < lo ∨ hi ≤ g) : TB w' lo hi A m c vs ll := by
  refine ⟨h.own.kept hg ?_, h.rows.kept hg fun i hi' => ?_, h.b1, h.b2⟩
  · cases hb : (Value.slice A m c).ownBlock with
    | none => exact .inl rfl
    | some g => exact .inr fun e => by have h1 := h.own.lt g hb; have h2 := h.b1 g hb; have := hr g e.symm; omega
  · cases hb : (gv vs i).ownBlock with
    | none => exact .inl rfl
    | some g => exact .inr fun e => by have h1 := World.ownsRow.lt (h.rows.2.1 i hi') g hb; have h2 := h.b2 i g hi' hb; have := hr g e.symm; omega
theorem TB.kb {S : Nat → Prop} (h : TB w lo hi A m c vs ll) (hk : KB S w w') (hr : ∀ g, S g → g < lo ∨ hi ≤ g) : TB w' lo hi A m c vs ll :=
  ⟨hk.own h.own (fun g hg hS => by have h1 := h.own.lt g hg; have h2 := h.b1 g hg; have := hr g hS; omega), hk.rows h.rows (fun i g hi' hg hS => by have h1 := World.ownsRow.lt (h.rows.2.1 i hi') g hg; have h2 := h.b2 i g hi' hg; have := hr g hS; omega), h.b1, h.b2⟩
theorem TB.rb (h : TB w lo hi A m c vs ll) : ∀ g, RB vs g → lo ≤ g ∧ g < hi := fun g ⟨i, hi', hg⟩ => ⟨(World.ownsRow.lt (h.rows.2.1 i hi') g hg).1, h.b2 i g hi' hg⟩
end
theorem below_of_kb {S : Nat → Prop} {w w' w0 : World} {B : Nat} (hb : Below B w0 w) (hk : KB S w w') (hS : ∀ g, S g → B ≤ g) (hB : B ≤ w.heap.size) : Below B w0 w' := hb.trans (hk.below hS hB)
end Go.Proofs.YtglijcdnnaekkaaGreat
