/- Several parts of the proof in one text; each part says what it shows. Nothing is assumed. -/
import Derived.Test.YtglijcdnnaekkaaGreatA74
/- Contracts: what generators reach, as the program does it. -/
namespace Go.Proofs.YtglijcdnnaekkaaGreat
set_option linter.unusedVariables false
set_option linter.unusedSimpArgs false
open Go.RowKit

theorem infoBool : (Tryz.prog.info? 4).map (fun i => (i.zero, i.size, i.bytes)) = some (some (.bool false), 1, 1) := by kernel_rfl
theorem BK.kept {w w' : World} {g : Nat} {t : TypeId} {cs : Array Value} {row : Option Nat} (h : BK w g t cs) (hg : w.grownBy w' row) (hne : some g ≠ row) : BK w' g t cs := (hg.block g h.lt hne).trans h
/-- Block g holds the flags sn. -/
def BB (w : World) (g : Nat) (sn : List Bool) : Prop := ∃ cs : Array Value, BK w g 4 cs ∧ cs.size = sn.length ∧ ∀ j, j < sn.length → cs[j]? = some (.bool (sn.getD j false))
theorem BB.lt {w : World} {g : Nat} {sn : List Bool} (h : BB w g sn) : g < w.heap.size := by
  obtain ⟨cs, h1, _⟩ := h
  exact h1.lt
theorem BB.cell {w : World} {g : Nat} {sn : List Bool} (h : BB w g sn) {j : Nat} (hj : j < sn.length) : w.cell? ⟨g, j, none⟩ = some (.bool (sn.getD j false)) ∧ w.frozen? ⟨g, j, none⟩ = false := by
  obtain ⟨cs, h1, _, h3⟩ := h
  exact ⟨(h1.cell j).trans (h3 j hj), h1.frozen j⟩
theorem BB.drewN {w : World} {g : Nat} {sn : List Bool} (h : BB w g sn) (n : Nat) : BB (w.drewN n) g sn := h
theorem BB.kept {w w' : World} {g : Nat} {sn : List Bool} {row : Option Nat} (h : BB w g sn) (hg : w.grownBy w' row) (hne : some g ≠ row) : BB w' g sn := by
  have hl := h.lt
  obtain ⟨cs, h1, h2, h3⟩ := h
  exact ⟨cs, (hg.block g hl hne).trans h1, h2, h3⟩
theorem BB.below {w w' : World} {g : Nat} {sn : List Bool} (h : BB w g sn) (hb : Below w.heap.size w w') : BB w' g sn := h.kept (grown_of_below hb) (by simp)
theorem BB.alloc {w : World} {g : Nat} {sn : List Bool} (h : BB w g sn) (o : Obj) : BB (w.alloc o) g sn := h.kept (World.grownBy_alloc w o none) (by simp)
theorem BB.set {w : World} {g r : Nat} {sn : List Bool} (h : BB w g sn) (hr : r < sn.length) : BB (w.setCell ⟨g, r, none⟩ (.bool true)) g (sn.set r true) := by
  obtain ⟨cs, h1, h2, h3⟩ := h
  refine ⟨_, h1.set r (.bool true), by simp [h2], fun j hj => ?_⟩
  simp at hj
  rw [Array.getElem?_setIfInBounds]
  by_cases hx : r = j
  · subst hx
    rw [if_pos rfl, if_pos (by omega), getD_set_self hr]
  · rw [if_neg hx, getD_set_ne hx]
    exact h3 j hj
theorem BB.new (w : World) (n : Nat) : BB (w.alloc (.cells (madeCells (.bool false : Value).cells n) 4)) w.heap.size (List.replicate n false) := by
  refine ⟨_, BK.new _ _ _, by simp [madeCells, Value.cells], fun j hj => ?_⟩
  simp at hj
  simp [madeCells, Value.cells, hj, List.getElem?_replicate, Nat.mod_one]
theorem BB.new1 (w : World) (n : Nat) (h : 0 < n) : BB (w.alloc (.cells ((madeCells #[.bool false] n).setIfInBounds 0 (.bool true)) 4)) w.heap.size ((List.replicate n false).set 0 true) := by
  refine ⟨_, BK.new _ _ _, by simp [madeCells], fun j hj => ?_⟩
  simp at hj
  rw [Array.getElem?_setIfInBounds]
  by_cases hx : 0 = j
  · subst hx
    rw [if_pos rfl, if_pos (by simp [madeCells]; omega), getD_set_self (by simp; omega)]
  · rw [if_neg hx, getD_set_ne hx]
    simp [madeCells, hj, List.getElem?_replicate, Nat.mod_one]
theorem own_ne_bb {w : World} {base n g : Nat} {e : TypeId} {s : Nat} {v : Value} {xs : List Value} {sn : List Bool} (h : w.ownsRow base e s v n xs) (hb : BB w g sn) (hne : e ≠ 4) : v.ownBlock ≠ some g := by
  obtain ⟨cs, h1, _⟩ := hb
  rcases h.2 with ⟨rfl, _⟩ | ⟨g', cap, cur, rfl, _, hh, _⟩
  · simp [Value.ownBlock]
  · intro he
    have : g' = g := by simpa [Value.ownBlock] using he
    subst this
    have h1' : w.heap[g']? = some (.cells cs 4 (0, 0)) := h1
    rw [hh] at h1'
    simp at h1'
    exact hne h1'.2
theorem own_dr {w : World} {base n : Nat} {e : TypeId} {size : Nat} {v : Value} {xs : List Value} (h : w.ownsRow base e size v n xs) (k : Nat) : (w.drewN k).ownsRow base e size v n xs := h
theorem grownBy_setC (w : World) (a : Addr) (u : Value) : w.grownBy (w.setCell a u) (some a.block) := ⟨rfl, rfl, rfl, by simp, fun k _ hk => Below.heap_setCell w a u k (fun e => hk (by rw [e]))⟩
theorem RowsO.drewN {w : World} {base : Nat} {vs : List Value} {ll : List (List Int)} (h : RowsO w base vs ll) (n : Nat) : RowsO (w.drewN n) base vs ll := h
theorem one_src_set (w : World) (q : Nat) (a : Addr) (v x : Value) (e : TypeId) : ∀ ad, some (⟨w.heap.size, 0, none⟩ : Addr) = some ad → ∀ j u, [x][j]? = some u → (((w.drewN q).setCell a v).alloc (.cells #[x] e)).cell? (ad.add j) = some u := by
  have h := one_src ((w.drewN q).setCell a v) x e
  have hz : ((w.drewN q).setCell a v).heap.size = w.heap.size := by simp
  rw [hz] at h
  exact h
/-- One more member: b in the row v1 (made in w1), seen at r; w4 is the world behind the append. -/
theorem gen_more {base gs r : Nat} {wr w1 w4 : World} {vs : List Value} {ms : List (List Int)} {u5 v1 : Value} {b : List Int} {sn : List Bool} {o : Obj}
    (hg4 : ((w1.setCell ⟨gs, r, none⟩ (.bool true)).alloc o).grownBy w4 u5.ownBlock)
    (ho : wr.ownsRow base 24 1 u5 ms.length vs) (hrows : RowsO wr base vs ms) (hB : BB wr gs sn) (hbase : base ≤ wr.heap.size)
    (ho1 : w1.ownsRow wr.heap.size 2 1 v1 b.length (ints b)) (hb1 : Below wr.heap.size wr w1) (hr : r < sn.length) :
    RowsO w4 base (vs ++ [v1]) (ms ++ [b]) ∧ BB w4 gs (sn.set r true) := by
  have hB1 := hB.below hb1
  have hsn := (hrows.below hb1).snoc (own_mono ho1 hbase) (fresh_ne hrows (fun g hg => (ho1.lt g hg).1))
  have hsn2 := (hsn.kept (grownBy_setC w1 ⟨gs, r, none⟩ (.bool true)) (fun i hi => .inr (own_ne_bb (hsn.2.1 i hi) hB1 (by decide)))).kept (World.grownBy_alloc _ o none) (fun i _ => by cases (gv (vs ++ [v1]) i).ownBlock <;> simp)
  have hou : ((w1.setCell ⟨gs, r, none⟩ (.bool true)).alloc o).ownsRow base 24 1 u5 ms.length vs :=
    World.ownsRow.alloc (ownsRow_setCell_other (own_below ho hb1) (own_ne_bb (own_below ho hb1) hB1 (by decide)) _) o
  refine ⟨hsn2.kept hg4 (fun i hi => own_ne (hsn2.2.1 i hi) hou (by decide)), ?_⟩
  exact ((hB1.set hr).alloc o).kept hg4 (Ne.symm (own_ne_bb hou ((hB1.set hr).alloc o) (by decide)))
def RG (n : Nat) (gens : List (List Int)) : List (List Int) × List Bool := bfs gens (fact n + 1) 0 [idL n] ((List.replicate (fact n) false).set 0 true)
theorem bfs_go {gens : List (List Int)} {f k : Nat} {ms : List (List Int)} {sn : List Bool} (h : k < ms.length) : bfs gens (f + 1) k ms sn = bfs gens f (k + 1) (stepG (gl ms k) gens ms sn).1 (stepG (gl ms k) gens ms sn).2 := by rw [bfs, if_pos h]
theorem bfs_end {gens : List (List Int)} {f k : Nat} {ms : List (List Int)} {sn : List Bool} (h : ¬ k < ms.length) : bfs gens f k ms sn = (ms, sn) := by
  cases f with
  | zero => rfl
  | succ f => rw [bfs, if_neg h]
theorem step_seen {m : List Int} {gens ms : List (List Int)} {sn : List Bool} {i : Nat} (hi : i < gens.length) (h : sn.getD (rk (prodL (gl gens i) m)) false = true) : stepG m (gens.drop i) ms sn = stepG m (gens.drop (i + 1)) ms sn := by
  rw [List.drop_eq_getElem_cons hi]
  have : gens[i] = gl gens i := by simp [gl, List.getElem?_eq_getElem hi]
  rw [this, stepG, if_pos h]
theorem step_new {m : List Int} {gens ms : List (List Int)} {sn : List Bool} {i : Nat} (hi : i < gens.length) (h : sn.getD (rk (prodL (gl gens i) m)) false = false) :
    stepG m (gens.drop i) ms sn = stepG m (gens.drop (i + 1)) (ms ++ [prodL (gl gens i) m]) (sn.set (rk (prodL (gl gens i) m)) true) := by
  rw [List.drop_eq_getElem_cons hi]
  have : gens[i] = gl gens i := by simp [gl, List.getElem?_eq_getElem hi]
  rw [this, stepG, if_neg (by rw [h]; simp)]
theorem step_done {m : List Int} {gens ms : List (List Int)} {sn : List Bool} : stepG m (gens.drop gens.length) ms sn = (ms, sn) := by rw [List.drop_length]; rfl
/-- What was reached holds the invariant. -/
theorem step_gi {n : Nat} {m : List Int} (hm : InR n m) : ∀ {gens ms : List (List Int)} {sn : List Bool}, (∀ g ∈ gens, InR n g) → GI n ms sn → GI n (stepG m gens ms sn).1 (stepG m gens ms sn).2
  | [], _, _, _, h => h
  | g :: gens, ms, sn, hg, h => by
    unfold stepG
    split
    · exact step_gi hm (fun x hx => hg x (by simp [hx])) h
    · rename_i hs
      exact step_gi hm (fun x hx => hg x (by simp [hx])) (h.more ((hg g (by simp)).prod hm) (by simpa using hs))
theorem bfs_gi {n : Nat} {gens : List (List Int)} (hg : ∀ g ∈ gens, InR n g) : ∀ (f k : Nat) {ms : List (List Int)} {sn : List Bool}, GI n ms sn → GI n (bfs gens f k ms sn).1 (bfs gens f k ms sn).2
  | 0, _, _, _, h => h
  | f + 1, k, ms, sn, h => by
    unfold bfs
    split
    · rename_i hk
      exact bfs_gi hg f (k + 1) (step_gi (h.2.2.1 k hk) hg h)
    · exact h
theorem RG_gi {n : Nat} {gens : List (List Int)} (hg : ∀ g ∈ gens, InR n g) : GI n (RG n gens).1 (RG n gens).2 := bfs_gi hg _ _ (GI.start (fact_pos n))
/-- The ranks of what generators reach. -/
def RK (n : Nat) (gens : List (List Int)) : List Int := lsL (RG n gens).2
theorem RK_eq {n : Nat} {gens : List (List Int)} (hg : ∀ g ∈ gens, InR n g) : rkC (RG n gens).1 = RK n gens := ranks_listed (RG_gi hg).2.2.2
end Go.Proofs.YtglijcdnnaekkaaGreat
/- Contracts: impl.generate. -/
namespace Go.Proofs.YtglijcdnnaekkaaGreat
set_option linter.unusedVariables false
set_option linter.unusedSimpArgs false
open Go.RowKit

set_option maxRecDepth 10000 in
set_option maxHeartbeats 4000000 in
theorem i_generate (n : Nat) (A : Option Addr) (G c : Nat) (gens : List (List Int)) (w : World) (hn1 : 1 ≤ n) (hn6 : n ≤ 6) (hG : G = gens.length) (hGl : G ≤ 1048576) (hs : II w w.heap.size A gens) (hin : ∀ g ∈ gens, InR n g) :
    Calls Tryz.prog 196 #[.int .i64 n, .slice A G c] w (GR w.heap.size n (RK n gens) w) := by
  have hfl := fact_le hn6
  have hRG := RG_gi hin
  have hRK := RK_eq hin
  have hroot : bfs gens (fact n + 1) 0 [idL n] ((List.replicate (fact n) false).set 0 true) = ((RG n gens).1, (RG n gens).2) := rfl
  have hgi0 : GI n [idL n] ((List.replicate (fact n) false).set 0 true) := GI.start (fact_pos n)
  generalize hms : (RG n gens).1 = MS at *
  generalize hsn : (RG n gens).2 = SN at *
  generalize hF : fact n = F at *
  have HFH := Lib.hid hF
  have hmk := fun W => run_make_row' (P := Tryz.prog) 128 4 (.bool false) 1 Tryz.underlying128 infoBool rfl .i64 .i64 F (by omega) (by omega) W
  have HIN := Lib.hid (fun i (hi : i < gens.length) => hin (gl gens i) (gl_mem hi))
  have HG := Lib.hid hG
  have HRG := Lib.hid hRG
  have HRK := Lib.hid hRK
  have HROOT := Lib.hid hroot
  have HGI0 := Lib.hid hgi0
  clear hms hsn hF hin hG hRG hRK hroot hgi0
  obtain ⟨F1, F2⟩ := hfl
  obtain ⟨i0, hi, hz0, hz1, hz2⟩ := info_parts infoI64
  obtain ⟨i1, hi1, hy0, hy1, hy2⟩ := info_parts infoSl
  go_enter Tryz.func196, Tryz.ntmps196
  go_wp2_with (first
    | (go_at_call 144; refine (i_one n _ (by omega)).mono ?_; rintro e w1 ⟨v1, rfl, ho1, hb1⟩; obtain ⟨Av, cv, rfl, _⟩ := own_slice' ho1)
    | (go_at_call 77; refine (i_factorial n _ (by omega) (by omega)).mono ?_; rw [Int.toNat_natCast, HFH.out]; rintro e w2 ⟨rfl, nq, rfl⟩; obtain ⟨wx, hwx⟩ : ∃ wx, wx = (w1.alloc (Obj.cells #[.slice Av n cv] 24)).drewN nq := ⟨_, rfl⟩; have hbb : BB (wx.alloc (.cells (madeCells #[.bool false] F) 4)) wx.heap.size (List.replicate F false) := BB.new wx F; obtain ⟨hc0, hf0⟩ := hbb.cell (j := 0) (by simp; omega); rw [show (List.replicate F false).getD 0 false = false from by simp [List.getElem?_replicate]; split <;> rfl] at hc0; rw [← hwx]; have HWX := Lib.hid hwx; clear hwx))
  have hbb1 : BB (wx.alloc (.cells ((madeCells #[.bool false] F).setIfInBounds 0 (.bool true)) 4)) wx.heap.size ((List.replicate F false).set 0 true) := BB.new1 wx F (by omega)
  have hrow0 : RowsO (wx.alloc (.cells ((madeCells #[.bool false] F).setIfInBounds 0 (.bool true)) 4)) (w.heap.size + 1) [.slice Av n cv] [idL n] := by
    refine ⟨rfl, fun i hi => ?_, fun i j h1 h2 => by simp at h2; omega⟩
    simp at hi
    subst hi
    unfold OwnI
    have e1 : gl [idL n] 0 = idL n := rfl
    have e2 : gv [Value.slice Av n cv] 0 = .slice Av n cv := rfl
    rw [e1, e2, idL_len, HWX.out]
    have h := World.ownsRow.alloc (own_dr (World.ownsRow.alloc ho1 (Obj.cells #[.slice Av n cv] 24)) nq) (.cells ((madeCells #[.bool false] F).setIfInBounds 0 (.bool true)) 4)
    simpa using h
  have hown0 : (wx.alloc (.cells ((madeCells #[.bool false] F).setIfInBounds 0 (.bool true)) 4)).ownsRow (w.heap.size + 1) 24 1 (.slice (some ⟨w1.heap.size, 0, none⟩) 1 1) 1 [.slice Av n cv] := by
    rw [HWX.out]
    have h := World.ownsRow.alloc (own_dr (own_one w1 (.slice Av n cv) 24) nq) (.cells ((madeCells #[.bool false] F).setIfInBounds 0 (.bool true)) 4)
    exact own_mono h (by have := hb1.size; simpa using this)
  have hbx : BK wx w.heap.size 26 #[.int .i64 0, .slice none 0 0] := by
    rw [HWX.out]
    exact (((BK.new w 26 #[.int .i64 0, .slice none 0 0]).below hb1 (by simp)).alloc _).drewN nq
  have hb0 : Below w.heap.size w (wx.alloc (.cells ((madeCells #[.bool false] F).setIfInBounds 0 (.bool true)) 4)) := by
    rw [HWX.out]
    have hz := hb1.size
    simp at hz
    have h1 := bel_call ((Below.refl w.heap.size w).alloc (Nat.le_refl _) (.cells #[.int .i64 0, .slice none 0 0] 26)) hb1
    exact (below_drewN (h1.alloc (by omega) _) nq).alloc (by simp; omega) _
  have hbx0 := hbx.alloc (.cells ((madeCells #[.bool false] F).setIfInBounds 0 (.bool true)) 4)
  have hgs : w.heap.size + 1 ≤ wx.heap.size := by rw [HWX.out]; have := hb1.size; simp at this ⊢; omega
  generalize wx.alloc (.cells ((madeCells #[.bool false] F).setIfInBounds 0 (.bool true)) 4) = w0 at *
  generalize wx.heap.size = gs at *
  clear hbb hc0 hf0 hbx hmk ho1 hb1
  go_loopw [5, 7] (fun u5 u7 wr => ∃ (k M : Nat) (ms : List (List Int)) (sn : List Bool) (vs : List Value), 0 < M ∧ k ≤ M ∧ M ≤ F ∧ u7 = .int .i64 k ∧ wr.ownsRow (w.heap.size + 1) 24 1 u5 M vs ∧ RowsO wr (w.heap.size + 1) vs ms ∧ BB wr gs sn ∧ BK wr w.heap.size 26 #[.int .i64 0, .slice none 0 0] ∧ Below w.heap.size w wr ∧ Hid (M = ms.length ∧ GI n ms sn ∧ bfs gens (F + 1 - k) k ms sn = (MS, SN))) (fun _ u7 _ => F + 1 - (intOf u7).toNat)
  case atStart => exact ⟨0, 1, [idL n], _, _, by omega, by omega, by omega, rfl, hown0, hrow0, hbb1, hbx0, hb0, rfl, HGI0.out, HROOT.out⟩
  case round =>
    clear hbb1 hrow0 hown0 hb0 hbx0
    obtain ⟨ws, rfl⟩ : ∃ ws : World, ws = wr := ⟨_, rfl⟩
    obtain ⟨k, M, ms, sn, vs, hm0, hk, hM, rfl, hown, hrows, hbb, hbx, hb, HI⟩ := hrel
    obtain ⟨A5, c5, rfl, _⟩ := own_slice' hown
    by_cases hlt : k < M
    · have hkm : k < ms.length := by rw [← HI.out.1]; exact hlt
      have hR2 : bfs gens (F + 1 - (k + 1)) (k + 1) (stepG (gl ms k) gens ms sn).1 (stepG (gl ms k) gens ms sn).2 = (MS, SN) := by
        have h3 := HI.out.2.2
        rw [show F + 1 - k = (F + 1 - (k + 1)) + 1 by omega, bfs_go hkm] at h3
        exact h3
      have hmR : InR n (gl ms k) := HI.out.2.1.2.2.1 k hkm
      generalize hm : gl ms k = m at *
      have hST : stepG m (gens.drop 0) ms sn = stepG m gens ms sn := by rw [List.drop_zero]
      generalize hst : stepG m gens ms sn = ST at *
      have HR2 := Lib.hid hR2
      have HMR := Lib.hid hmR
      have HI2 : Hid (M = ms.length ∧ GI n ms sn ∧ gl ms k = m ∧ stepG m (gens.drop 0) ms sn = ST) := ⟨HI.out.1, HI.out.2.1, hm, hST⟩
      clear hR2 hmR hm hST hst HI hkm
      go_wp2_with (fail)
      go_loopw [5, 27] (fun u5 u27 wr => ∃ (i M : Nat) (ms : List (List Int)) (sn : List Bool) (vs : List Value), k < M ∧ M ≤ F ∧ i ≤ G ∧ u27 = .int .i64 i ∧ wr.ownsRow (w.heap.size + 1) 24 1 u5 M vs ∧ RowsO wr (w.heap.size + 1) vs ms ∧ BB wr gs sn ∧ BK wr w.heap.size 26 #[.int .i64 0, .slice none 0 0] ∧ Below w.heap.size w wr ∧ Hid (M = ms.length ∧ GI n ms sn ∧ gl ms k = m ∧ stepG m (gens.drop i) ms sn = ST)) (fun _ u27 _ => G - (intOf u27).toNat)
      case atStart => exact ⟨0, M, ms, sn, vs, hlt, hM, Nat.zero_le _, rfl, hown, hrows, hbb, hbx, hb, HI2.out⟩
      case round =>
        clear hown hrows hbb hbx hb HI2 hlt hM hm0 hk
        obtain ⟨wt, rfl⟩ : ∃ wt : World, wt = wr := ⟨_, rfl⟩
        obtain ⟨i, M, ms, sn, vs, hkM, hM, hiG, rfl, hown, hrows, hbb, hbx, hb, HI⟩ := hrel
        obtain ⟨A6, c6, rfl, _⟩ := own_slice' hown
        by_cases hil : i < G
        · have hi' : i < gens.length := by rw [← HG.out]; exact hil
          obtain ⟨hml, hgi, hgm, hst⟩ := HI.out
          have hg1 := HIN.out i hi'
          obtain ⟨b1, o1, rfl, hb1, hc1⟩ := hs.at hi'
          obtain ⟨Ag, cg, e1, hcg1, hcg2, isg⟩ := hc1 i hi'
          have e1 := (hb.cell (p := ⟨b1, o1 + i, none⟩) hb1).trans e1
          have isg := isg.below hb
          rw [hg1.1] at e1 hcg1
          have hkv : k < vs.length := by rw [hrows.1, ← hml]; exact hkM
          obtain ⟨g6, rfl, _, hg6, hc6⟩ := own_src hown (by omega)
          have hrow := hrows.2.1 k hkv
          rw [hgm] at hrow
          obtain ⟨Am, cm, hvm, _⟩ := own_slice' hrow
          have e2 := hc6 k _ (gv_at hkv)
          have hmR := HMR.out
          unfold OwnI at hrow
          rw [hvm] at e2 hrow
          rw [hmR.1] at e2 hrow
          have ism : IS wt wt.heap.size Am m := own_isn hrow hmR.1.symm
          have hbR := hg1.prod hmR
          have hseen := step_seen (m := m) (ms := ms) (sn := sn) hi'
          have hnew := step_new (m := m) (ms := ms) (sn := sn) hi'
          have hgmore := hgi.more hbR
          generalize hb' : prodL (gl gens i) m = b at *
          have hrb : rk b < sn.length := by rw [hgi.1, ← hbR.1]; exact rk_lt b
          generalize hrk : rk b = r at *
          have hrF : r < F := by have h1 := hgi.1; have h2 := HFH.out; omega
          have hbase : w.heap.size + 1 ≤ wt.heap.size := by have := hbb.lt; omega
          have hne6 : (Value.slice (some ⟨g6, 0, none⟩) M c6).ownBlock ≠ some gs := own_ne_bb hown hbb (by decide)
          have HB := Lib.hid hb'
          have HRB := Lib.hid hrk
          have HML := Lib.hid hml
          have HGM := Lib.hid hgm
          have HST := Lib.hid hst
          have HGI := Lib.hid hgi
          have HSE := Lib.hid hseen
          have HNE := Lib.hid hnew
          have HGE := Lib.hid hgmore
          have hsz := hb.size
          clear hb' hrk hml hgm hst hgi hvm hc6 hc1 HI hseen hnew hgmore
          by_cases hsee : sn.getD r false = true
          · go_wp2_with (first
              | (go_at_call 123; refine (i_prod Ag Am n cg n cm (gl gens i) m _ w.heap.size wt.heap.size hg1.1.symm hmR.1.symm (by omega) (by omega) hsz (Nat.le_refl _) isg ism hmR.2).mono ?_; rw [HB.out]; rintro e w2 ⟨v2, rfl, ho2, hb2⟩; obtain ⟨Ab, cb, rfl, hcb⟩ := own_slice' ho2; obtain ⟨e3, fz3⟩ := (hbb.below hb2).cell hrb; rw [hsee] at e3)
              | (go_at_call 173; refine (i_rank Ab n cb b _ w2.heap.size hbR.1.symm hn6 hcb (own_cap ho2).2 (by exact own_isn ho2 hbR.1.symm)).mono ?_; rw [HRB.out]; rintro e w3 ⟨rfl, q3, rfl⟩))
            go_roundw
            case rel =>
              refine ⟨i + 1, M, ms, sn, vs, hkM, hM, by omega, by go_num, own_dr (own_below hown hb2) _, (hrows.below hb2).drewN _, (hbb.below hb2).drewN _, (hbx.below hb2 (by omega)).drewN _, below_drewN (hb.trans (hb2.mono hsz)) _, HML.out, HGI.out, HGM.out, ?_⟩
              rw [← HSE.out hsee]; exact HST.out
            case measure => simp [intOf]; omega
          · have hsee : sn.getD r false = false := by simpa using hsee
            go_wp2_with (first
              | (go_at_call 123; refine (i_prod Ag Am n cg n cm (gl gens i) m _ w.heap.size wt.heap.size hg1.1.symm hmR.1.symm (by omega) (by omega) hsz (Nat.le_refl _) isg ism hmR.2).mono ?_; rw [HB.out]; rintro e w2 ⟨v2, rfl, ho2, hb2⟩; obtain ⟨Ab, cb, rfl, hcb⟩ := own_slice' ho2; obtain ⟨e3, fz3⟩ := (hbb.below hb2).cell hrb; rw [hsee] at e3)
              | (go_at_call 173; refine (i_rank Ab n cb b _ w2.heap.size hbR.1.symm hn6 hcb (own_cap ho2).2 (by exact own_isn ho2 hbR.1.symm)).mono ?_; rw [HRB.out]; rintro e w3 ⟨rfl, q3, rfl⟩)
              | (at_builtin; refine wpList_append_src rfl (.tmp 47) (.tmp 49) 29 rfl (w.heap.size + 1) 24 i1 (.slice none 0 0) 1 24 Tryz.underlying29 hi1 hy0 hy1 hy2 rfl (by omega) (.slice (some ⟨g6, 0, none⟩) M c6) M vs rfl (World.ownsRow.alloc (ownsRow_setCell_other (own_dr (own_below hown hb2) _) hne6 _) _) (some ⟨w2.heap.size, 0, none⟩) 1 1 [.slice Ab n cb] rfl rfl (one_src_set w2 _ _ _ _ _) (by intro h; cases h) (by intro u hu; simp at hu; subst hu; rfl) (by simp only [maxLen]; omega) (by omega) (by have := hb2.size; simp; omega) ?_; intro v5 w5 hown5 hg5 hat5))
            have hmm := HGE.out hsee
            have hmf := hmm.le
            rw [List.length_append, List.length_singleton, ← HML.out] at hmf
            have hfe := HFH.out
            have hz2 := hb2.size
            obtain ⟨hr5, hb5⟩ := gen_more (v1 := .slice Ab n cb) (b := b) hg5 (by rw [← HML.out]; exact hown) hrows hbb hbase (by rw [hbR.1]; exact ho2) (by exact below_drewN hb2 _) hrb
            have hne0 : (Value.slice (some ⟨g6, 0, none⟩) M c6).ownBlock ≠ some w.heap.size := fun h => by have := (hown.lt _ h).1; omega
            go_roundw
            case rel =>
              refine ⟨i + 1, M + 1, ms ++ [b], sn.set r true, _, by omega, by omega, by omega, by go_num, hown5, hr5, hb5, ?_, ?_, ?_, hmm, ?_, ?_⟩
              · exact BK.kept ((BK.far ((hbx.below hb2 (by omega)).drewN _) (by simp; omega) _).alloc _) hg5 (Ne.symm hne0)
              · exact Below.grown (((below_drewN (hb.trans (hb2.mono hsz)) _).setCell (by simp; omega) _).alloc (by simp; omega) _) hg5 (by simp; omega) (fun g hg => by have := (hown.lt g hg).1; omega)
              · rw [List.length_append, List.length_singleton, HML.out]
              · rw [gl_snoc_lt (by rw [← HML.out]; exact hkM)]; exact HGM.out
              · rw [← HNE.out hsee]; exact HST.out
            case measure => simp [intOf]; omega
        · obtain rfl : i = G := by omega
          go_wp2_with (fail)
          go_roundw
          case rel =>
            refine ⟨k + 1, M, ms, sn, vs, by omega, by omega, hM, by go_num, hown, hrows, hbb, hbx, hb, HI.out.1, HI.out.2.1, ?_⟩
            have h4 := HI.out.2.2.2
            rw [HG.out, step_done] at h4
            have h5 := HR2.out
            rw [← h4] at h5
            exact h5
          case measure => simp [intOf]; omega
    · obtain rfl : k = M := by omega
      have hfin : Hid (ms = MS ∧ sn = SN) := by
        obtain ⟨h1, h2, h3⟩ := HI.out
        rw [bfs_end (by omega)] at h3
        injection h3 with h4 h5
        exact ⟨h4, h5⟩
      obtain ⟨h4, h5⟩ := hfin.out
      have hml : k = MS.length := by rw [← h4]; exact HI.out.1
      have hii : II ws ws.heap.size A5 MS := by rw [← h4]; exact OwnII.ii hown hrows
      have hrw : ∀ i, i < k → (gl MS i).length ≤ 6 := fun i hi => by
        have h6 := (HI.out.2.1.2.2.1 i (by rw [← HI.out.1]; exact hi)).1
        rw [h4] at h6
        omega
      have HML := Lib.hid hml
      have HRW := Lib.hid hrw
      clear hml hrw h4 h5
      go_wp2_with (fail)
      refine (i_groupOf A5 k c5 n MS _ _ HML.out hm0 (by omega) (Nat.le_refl _) HRW.out hii).mono ?_
      rw [HRK.out]
      rintro e w5 ⟨v5, rfl, ho5, hb5⟩
      obtain ⟨Ar, cr, rfl, _⟩ := own_slice' ho5
      generalize hL : (RK n gens).length = L at *
      have HL := Lib.hid hL
      clear hL
      have hz5 := hb5.size
      have hz6 := hbx.lt
      have hbx5 := hbx.below hb5 hz6
      have hbw := hb.trans (hb5.mono hb.size)
      obtain ⟨f2, f3, fz2, fz3⟩ := hbx5.two
      go_wp2_with (fail)
      have h5 := (hbx5.set 0 (.int .i64 (n : Int))).set 1 (.slice Ar L cr)
      have hb9 := (hbw.setCell (p := ⟨w.heap.size, 0, none⟩) (by simp) (.int .i64 (n : Int))).setCell (p := ⟨w.heap.size, 1, none⟩) (by simp) (.slice Ar L cr)
      have ho9 := ownsRow_setCell_below (ownsRow_setCell_below ho5 (a := ⟨w.heap.size, 0, none⟩) (by simp; omega) (.int .i64 (n : Int))) (a := ⟨w.heap.size, 1, none⟩) (by simp; omega) (.slice Ar L cr)
      generalize ((w5.setCell ⟨w.heap.size, 0, none⟩ (.int .i64 (n : Int))).setCell ⟨w.heap.size, 1, none⟩ (.slice Ar L cr)) = w9 at *
      obtain ⟨d0, d1, _, _⟩ := BK.two (x := .int .i64 (n : Int)) (y := (.slice Ar L cr)) (by simpa using h5)
      (try simp only [Exit.inBlock, Exit.then])
      refine bodyPost_ret (v := .agg #[.int .i64 (n : Int), (.slice Ar L cr)]) (by simp [results, Tryz.results196, go_sem, d0, d1]; try rfl) rfl ?_
      exact ⟨_, rfl, by rw [HL.out]; exact own_mono ho9 (by omega), hb9⟩
end Go.Proofs.YtglijcdnnaekkaaGreat
/- Contracts: spec.l22Listed, spec.l22Generate. -/
namespace Go.Proofs.YtglijcdnnaekkaaGreat
set_option linter.unusedVariables false
set_option linter.unusedSimpArgs false
open Go.RowKit

def lsK (sn : List Bool) (k : Nat) : List Int := ((List.range k).filter fun r => sn.getD r false).map fun r : Nat => (r : Int)
theorem lsK_all (sn : List Bool) : lsK sn sn.length = lsL sn := rfl
theorem lsK_yes {sn : List Bool} {k : Nat} (h : sn.getD k false = true) : lsK sn (k + 1) = lsK sn k ++ [(k : Int)] := by
  unfold lsK
  rw [List.range_succ, List.filter_append, List.map_append]
  simp [h] at *
  simp [h]
theorem lsK_no {sn : List Bool} {k : Nat} (h : sn.getD k false = false) : lsK sn (k + 1) = lsK sn k := by
  unfold lsK
  rw [List.range_succ, List.filter_append, List.map_append]
  simp [h] at *
  simp [h]
theorem lsK_len (sn : List Bool) (k : Nat) : (lsK sn k).length ≤ k := by
  unfold lsK
  rw [List.length_map]
  exact Nat.le_trans (List.length_filter_le _ _) (by simp)
set_option maxHeartbeats 1000000 in
theorem s_listed (g n c : Nat) (sn : List Bool) (w : World) (hn : n = sn.length) (hl : n ≤ 1048576) (hs : BB w g sn) :
    Calls Tryz.prog 136 #[.slice (some ⟨g, 0, none⟩) n c] w (fun e w' => ∃ v, e = .returned v ∧ w'.ownsRow w.heap.size 2 1 v (lsL sn).length (ints (lsL sn)) ∧ Below w.heap.size w w') := by
  have HN := Lib.hid hn
  clear hn
  obtain ⟨i0, hi, hz0, hz1, hz2⟩ := info_parts infoI64
  have hg := hs.lt
  go_enter Tryz.func136, Tryz.ntmps136
  go_wp2_with (fail)
  go_loopw [3, 4] (fun u3 u4 wr => ∃ k L : Nat, k ≤ n ∧ L ≤ k ∧ u4 = .int .i64 k ∧ wr.ownsRow w.heap.size 2 1 u3 L (ints (lsK sn k)) ∧ BB wr g sn ∧ Below w.heap.size w wr) (fun _ u4 _ => n - (intOf u4).toNat)
  case atStart => exact ⟨0, 0, Nat.zero_le _, Nat.le_refl _, rfl, World.ownsRow_lit w #[] 0 (Nat.le_refl _) (by simp [maxLen]) rfl, hs.alloc _, (Below.refl _ _).alloc (Nat.le_refl _) _⟩
  case round =>
    obtain ⟨ws, rfl⟩ : ∃ ws : World, ws = wr := ⟨_, rfl⟩
    obtain ⟨k, L, hk, hL, rfl, hown, hbb, hbw⟩ := hrel
    obtain ⟨A1, c1, rfl, _⟩ := own_slice' hown
    have hsz := hbw.size
    by_cases hlt : k < n
    · obtain ⟨e1, _⟩ := hbb.cell (j := k) (by rw [← HN.out]; exact hlt)
      cases hv : sn.getD k false
      · rw [hv] at e1
        have HO : Hid (ws.ownsRow w.heap.size 2 1 (.slice A1 L c1) L (ints (lsK sn (k + 1)))) := by unfold Hid; rw [lsK_no hv]; exact hown
        clear hv
        go_wp2_with (fail)
        go_roundw
        case rel => exact ⟨k + 1, L, by omega, by omega, by go_num, HO.out, hbb, hbw⟩
        case measure => simp [intOf]; omega
      · rw [hv] at e1
        have HX : Hid (lsK sn (k + 1) = lsK sn k ++ [(k : Int)]) := lsK_yes hv
        clear hv
        go_wp2_with (first
          | (at_builtin; refine wpList_append_src rfl (.tmp 16) (.tmp 18) 24 rfl w.heap.size 2 i0 (.int .i64 0) 1 8 Tryz.underlying24 hi hz0 hz1 hz2 rfl (by omega) (.slice A1 L c1) L (ints (lsK sn k)) rfl (World.ownsRow.alloc hown _) (some ⟨ws.heap.size, 0, none⟩) 1 1 [.int .i64 (k : Int)] rfl rfl (one_src ws _ _) (by intro h; cases h) (by intro u hu; simp at hu; subst hu; rfl) (by simp only [maxLen]; omega) (by omega) (by simp; omega) ?_; intro v1 w1 hown1 hg1 hat1))
        go_roundw
        case rel =>
          refine ⟨k + 1, L + 1, by omega, by omega, by go_num, by rw [HX.out, ints_snoc]; exact hown1, ?_, (hbw.alloc hsz _).grown hg1 (by simp; omega) (fun g hg => (hown.lt g hg).1)⟩
          exact BB.kept (hbb.alloc _) hg1 (fun e => by have := (hown.lt g e.symm).1; omega)
        case measure => simp [intOf]; omega
    · obtain rfl : k = n := by omega
      have hfin : Hid (lsK sn k = lsL sn) := by unfold Hid; rw [HN.out]; exact lsK_all sn
      have hlen : (lsL sn).length = L := by rw [← hfin.out]; have := hown.1; simp [ints] at this; omega
      rw [hfin.out] at hown
      have HO := Lib.hid hown
      have HLN := Lib.hid hlen
      clear hown hlen
      go_wp2_with (fail)
      go_ret
      exact ⟨_, rfl, by rw [HLN.out]; exact HO.out, hbw⟩
/-- How many of the flags of block g are true. -/
noncomputable def cntW (w : World) (g n : Nat) : Nat := open Classical in (List.range n).countP fun j => decide (w.cell? ⟨g, j, none⟩ = some (.bool true))
theorem trues_range : ∀ (sn : List Bool), trues sn = (List.range sn.length).countP fun j => sn.getD j false
  | [] => rfl
  | b :: sn => by
    have h := trues_range sn
    unfold trues at h ⊢
    rw [List.countP_cons, h, List.length_cons, List.range_succ_eq_map, List.countP_cons, List.countP_map]
    simp [Function.comp_def]
theorem cntW_bb {w : World} {g : Nat} {sn : List Bool} (h : BB w g sn) : cntW w g sn.length = trues sn := by
  unfold cntW
  rw [trues_range]
  refine List.countP_congr fun j hj => ?_
  simp at hj
  rw [(h.cell hj).1]
  cases sn.getD j false <;> simp
end Go.Proofs.YtglijcdnnaekkaaGreat
/- Contracts: spec.l22Generate. -/
namespace Go.Proofs.YtglijcdnnaekkaaGreat
set_option linter.unusedVariables false
set_option linter.unusedSimpArgs false
open Go.RowKit

theorem q_ne {w : World} {b b' n n' : Nat} {e e' : TypeId} {s' : Nat} {v v' : Value} {xs xs' : List Value} (h : QRow w b e v n xs) (h' : w.ownsRow b' e' s' v' n' xs') (hne : e' ≠ e) : v'.ownBlock = none ∨ v'.ownBlock ≠ v.ownBlock := by
  obtain ⟨_, g, off, cap, cur, rfl, _, hh, _⟩ := h
  rcases h'.2 with ⟨rfl, _⟩ | ⟨g', cap', cur', rfl, _, hh', _⟩
  · exact .inl rfl
  · refine .inr fun he => ?_
    have : g' = g := by simpa [Value.ownBlock] using he
    subst this
    rw [hh] at hh'
    simp at hh'
    exact hne hh'.2.symm
theorem q_ne_bb {w : World} {base n g : Nat} {e : TypeId} {v : Value} {xs : List Value} {sn : List Bool} (h : QRow w base e v n xs) (hb : BB w g sn) (hne : e ≠ 4) : v.ownBlock ≠ some g := by
  obtain ⟨cs, h1, _⟩ := hb
  obtain ⟨_, g', off, cap, cur, rfl, _, hh, _⟩ := h
  intro he
  have : g' = g := by simpa [Value.ownBlock] using he
  subst this
  have h1' : w.heap[g']? = some (.cells cs 4 (0, 0)) := h1
  rw [hh] at h1'
  simp at h1'
  exact hne h1'.2
theorem QRow.mono {w : World} {base base' n : Nat} {e : TypeId} {v : Value} {xs : List Value} (h : QRow w base e v n xs) (hb : base' ≤ base) : QRow w base' e v n xs := by
  obtain ⟨h1, g, off, cap, cur, h2, h3, r⟩ := h
  exact ⟨h1, g, off, cap, cur, h2, by omega, r⟩
theorem RowsO.tail {w : World} {base : Nat} {v : Value} {vs : List Value} {a : List Int} {ll : List (List Int)} (h : RowsO w base (v :: vs) (a :: ll)) : OwnI w base v a ∧ RowsO w base vs ll := by
  obtain ⟨h1, h2, h3⟩ := h
  refine ⟨h2 0 (by simp), by simpa using h1, fun i hi => h2 (i + 1) (by simp; omega), fun i j hij hj => h3 (i + 1) (j + 1) (by omega) (by simp; omega)⟩
theorem QRow.form {w : World} {base n : Nat} {e : TypeId} {v : Value} {xs : List Value} (h : QRow w base e v n xs) : ∃ g off cap, v = .slice (some ⟨g, off, none⟩) n cap ∧ n ≤ cap ∧ cap ≤ maxLen := by
  obtain ⟨_, g, off, cap, cur, h2, _, _, h3, h4, _⟩ := h
  exact ⟨g, off, cap, h2, h3, h4⟩
def slen : Value → Nat
  | .slice _ n _ => n
  | _ => 0
theorem genq_more {base gs r N : Nat} {wr w1 w4 : World} {vs : List Value} {T1 : List (List Int)} {u5 v1 av : Value} {b m : List Int} {sn : List Bool} {o : Obj}
    (hg4 : ((w1.setCell ⟨gs, r, none⟩ (.bool true)).alloc o).grownBy w4 u5.ownBlock)
    (ho : QRow wr base 24 u5 N vs) (hrows : RowsO wr base vs T1) (hm : OwnI wr base av m) (hB : BB wr gs sn) (hbase : base ≤ wr.heap.size)
    (ho1 : w1.ownsRow wr.heap.size 2 1 v1 b.length (ints b)) (hb1 : Below wr.heap.size wr w1) (hr : r < sn.length) :
    RowsO w4 base (vs ++ [v1]) (T1 ++ [b]) ∧ OwnI w4 base av m ∧ BB w4 gs (sn.set r true) := by
  have hB1 := hB.below hb1
  have hsn := (hrows.below hb1).snoc (own_mono ho1 hbase) (fresh_ne hrows (fun g hg => (ho1.lt g hg).1))
  have hsn2 := (hsn.kept (grownBy_setC w1 ⟨gs, r, none⟩ (.bool true)) (fun i hi => .inr (own_ne_bb (hsn.2.1 i hi) hB1 (by decide)))).kept (World.grownBy_alloc _ o none) (fun i _ => by cases (gv (vs ++ [v1]) i).ownBlock <;> simp)
  have hm2 := World.ownsRow.alloc (ownsRow_setCell_other (own_below hm hb1) (a := ⟨gs, r, none⟩) (own_ne_bb (own_below hm hb1) hB1 (by decide)) (.bool true)) o
  have hq1 := (ho.below hb1).kept (grownBy_setC w1 ⟨gs, r, none⟩ (.bool true)) (.inr (q_ne_bb (ho.below hb1) hB1 (by decide)))
  have hou := hq1.kept (World.grownBy_alloc _ o none) (by cases u5.ownBlock <;> simp)
  refine ⟨hsn2.kept hg4 (fun i hi => q_ne hou (hsn2.2.1 i hi) (by decide)), World.ownsRow.kept hm2 hg4 (q_ne hou hm2 (by decide)), ?_⟩
  exact ((hB1.set hr).alloc o).kept hg4 (Ne.symm (q_ne_bb hou ((hB1.set hr).alloc o) (by decide)))
theorem trues_le_set {sn : List Bool} {r : Nat} (h : r < sn.length) (h0 : sn.getD r false = false) : trues (sn.set r true) = trues sn + 1 := trues_set sn r h h0
set_option maxRecDepth 10000 in
set_option maxHeartbeats 4000000 in
theorem s_generate (n : Nat) (A : Option Addr) (G c : Nat) (gens : List (List Int)) (w : World) (hn1 : 1 ≤ n) (hn6 : n ≤ 6) (hG : G = gens.length) (hGl : G ≤ 1048576) (hs : II w w.heap.size A gens) (hin : ∀ g ∈ gens, InR n g) :
    Calls Tryz.prog 159 #[.int .i64 n, .slice A G c] w (GR w.heap.size n (RK n gens) w) := by
  have hfl := fact_le hn6
  have hRG := RG_gi hin
  have hRK : lsL (RG n gens).2 = RK n gens := rfl
  have hroot : bfs gens (fact n + 1) 0 [idL n] ((List.replicate (fact n) false).set 0 true) = ((RG n gens).1, (RG n gens).2) := rfl
  have hgi0 : GI n [idL n] ((List.replicate (fact n) false).set 0 true) := GI.start (fact_pos n)
  generalize hms : (RG n gens).1 = MS at *
  generalize hsn : (RG n gens).2 = SN at *
  generalize hF : fact n = F at *
  have HFH := Lib.hid hF
  have hmk := fun W => run_make_row' (P := Tryz.prog) 128 4 (.bool false) 1 Tryz.underlying128 infoBool rfl .i64 .i64 F (by omega) (by omega) W
  have HIN := Lib.hid (fun i (hi : i < gens.length) => hin (gl gens i) (gl_mem hi))
  have HG := Lib.hid hG
  have HRG := Lib.hid hRG
  have HRK := Lib.hid hRK
  have HROOT := Lib.hid hroot
  have HGI0 := Lib.hid hgi0
  clear hms hsn hF hin hG hRG hRK hroot hgi0
  obtain ⟨F1, F2⟩ := hfl
  obtain ⟨i0, hi, hz0, hz1, hz2⟩ := info_parts infoI64
  obtain ⟨i1, hi1, hy0, hy1, hy2⟩ := info_parts infoSl
  go_enter Tryz.func159, Tryz.ntmps159
  go_wp2_with (first
    | (go_at_call 89; refine (s_l21Factorial n _ (by omega) (by omega)).mono ?_; rw [Int.toNat_natCast, HFH.out]; rintro e w2 ⟨rfl, nq, rfl⟩; obtain ⟨wx, hwx⟩ : ∃ wx, wx = (w.alloc (.cells #[.int .i64 0, .slice none 0 0] 26)).drewN nq := ⟨_, rfl⟩; have hbb : BB (wx.alloc (.cells (madeCells #[.bool false] F) 4)) wx.heap.size (List.replicate F false) := BB.new wx F; obtain ⟨hc0, hf0⟩ := hbb.cell (j := 0) (by simp; omega); rw [show (List.replicate F false).getD 0 false = false from by simp [List.getElem?_replicate]; split <;> rfl] at hc0; rw [← hwx]; have HWX := Lib.hid hwx; clear hwx)
    | (go_at_call 142; refine (s_one n _ (by omega)).mono ?_; rintro e w1 ⟨v1, rfl, ho1, hb1⟩; obtain ⟨Av, cv, rfl, _⟩ := own_slice' ho1))
  have hz0 : wx.heap.size = w.heap.size + 1 := by rw [HWX.out]; simp
  have hza := hb1.size
  have hbb1 := ((BB.new1 wx F (by omega)).below hb1).alloc (Obj.cells #[.slice Av n cv] 24)
  have hrow0 : RowsO (w1.alloc (Obj.cells #[.slice Av n cv] 24)) (w.heap.size + 1) [.slice Av n cv] [idL n] := by
    refine ⟨rfl, fun i hi => ?_, fun i j h1 h2 => by simp at h2; omega⟩
    simp at hi
    subst hi
    unfold OwnI
    have e1 : gl [idL n] 0 = idL n := rfl
    have e2 : gv [Value.slice Av n cv] 0 = .slice Av n cv := rfl
    rw [e1, e2, idL_len]
    exact own_mono (World.ownsRow.alloc ho1 _) (by simp; omega)
  have hown0 : QRow (w1.alloc (Obj.cells #[.slice Av n cv] 24)) (w.heap.size + 1) 24 (.slice (some ⟨w1.heap.size, 0, none⟩) 1 1) 1 [.slice Av n cv] :=
    (QRow.of_own (own_one w1 (.slice Av n cv) 24)).mono (by simp at hza; omega)
  have hbx0 : BK (w1.alloc (Obj.cells #[.slice Av n cv] 24)) w.heap.size 26 #[.int .i64 0, .slice none 0 0] := by
    have h1 : BK wx w.heap.size 26 #[.int .i64 0, .slice none 0 0] := by rw [HWX.out]; exact (BK.new w 26 #[.int .i64 0, .slice none 0 0]).drewN nq
    exact ((h1.alloc _).below hb1 (by simp; omega)).alloc _
  have hb0 : Below w.heap.size w (w1.alloc (Obj.cells #[.slice Av n cv] 24)) := by
    have h1 : Below w.heap.size w wx := by rw [HWX.out]; exact below_drewN ((Below.refl w.heap.size w).alloc (Nat.le_refl _) _) nq
    exact (bel_call (h1.alloc (by omega) _) hb1).alloc (by simp at hza; omega) _
  generalize w1.alloc (Obj.cells #[.slice Av n cv] 24) = w0 at *
  have hgs : w.heap.size + 1 ≤ wx.heap.size := by omega
  generalize wx.heap.size = gs at *
  clear hbb hc0 hf0 hmk ho1 hb1 hza hz0
  go_loopw [6] (fun u6 wr => ∃ (Q : Nat) (T1 : List (List Int)) (sn : List Bool) (vs : List Value), Q ≤ F ∧ QRow wr (w.heap.size + 1) 24 u6 Q vs ∧ RowsO wr (w.heap.size + 1) vs T1 ∧ BB wr gs sn ∧ BK wr w.heap.size 26 #[.int .i64 0, .slice none 0 0] ∧ Below w.heap.size w wr ∧ Hid (Q = T1.length ∧ ∃ (k : Nat) (ms : List (List Int)), k ≤ ms.length ∧ T1 = ms.drop k ∧ GI n ms sn ∧ bfs gens (F + 1 - k) k ms sn = (MS, SN))) (fun u6 wr => 2 * (F - cntW wr gs F) + slen u6)
  case atStart => exact ⟨1, [idL n], _, _, by omega, hown0, hrow0, hbb1, hbx0, hb0, rfl, 0, [idL n], by simp, rfl, HGI0.out, HROOT.out⟩
  case round =>
    clear hbb1 hrow0 hown0 hb0 hbx0
    obtain ⟨ws, rfl⟩ : ∃ ws : World, ws = wr := ⟨_, rfl⟩
    obtain ⟨Q, T1, sn, vs, hQF, hown, hrows, hbb, hbx, hb, HI⟩ := hrel
    obtain ⟨g5, o5, c5, rfl, hQc, hcm5⟩ := hown.form
    obtain ⟨hQ, k, ms, hkm, hT1, hgi, hbf⟩ := HI.out
    by_cases hlt : 0 < Q
    · obtain ⟨Q1, rfl⟩ : ∃ Q1, Q = Q1 + 1 := ⟨Q - 1, by omega⟩
      have hkm : k < ms.length := by
        rw [hT1, List.length_drop] at hQ; omega
      have hR2 : bfs gens (F + 1 - (k + 1)) (k + 1) (stepG (gl ms k) gens ms sn).1 (stepG (gl ms k) gens ms sn).2 = (MS, SN) := by
        have hle := hgi.le
        have hfe := HFH.out
        rw [show F + 1 - k = (F + 1 - (k + 1)) + 1 by omega, bfs_go hkm] at hbf
        exact hbf
      have hmR : InR n (gl ms k) := hgi.2.2.1 k hkm
      have hT2 : T1 = gl ms k :: ms.drop (k + 1) := by
        rw [hT1, List.drop_eq_getElem_cons hkm]
        simp [gl, List.getElem?_eq_getElem hkm]
      obtain ⟨v0, vs', rfl⟩ : ∃ v0 vs', vs = v0 :: vs' := by
        cases vs with
        | nil => have := hown.1; simp at this
        | cons a b => exact ⟨a, b, rfl⟩
      rw [hT2] at hrows
      obtain ⟨hm1, hrows1⟩ := hrows.tail
      have e0 := hown.cells 0 v0 rfl
      rw [Nat.add_zero] at e0
      obtain ⟨Am, cm, rfl, _⟩ := own_slice' hm1
      generalize hm : gl ms k = m at *
      have hST : stepG m (gens.drop 0) ms sn = stepG m gens ms sn := by rw [List.drop_zero]
      generalize hst : stepG m gens ms sn = ST at *
      have hC0 : cntW ws gs F = trues sn := by
        have h6 := cntW_bb hbb
        rw [hgi.1, HFH.out] at h6
        exact h6
      have hql : Q1 = (ms.drop (k + 1)).length := by rw [List.length_drop]; rw [hT1, List.length_drop] at hQ; omega
      rw [hmR.1] at e0
      obtain ⟨t0, ht0⟩ : ∃ t0, t0 = trues sn := ⟨_, rfl⟩
      rw [← ht0] at hC0
      have HI2 : Hid (Q1 + t0 = Q1 + trues sn ∧ t0 ≤ trues sn ∧ k + 1 ≤ ms.length ∧ GI n ms sn ∧ Q1 = (ms.drop (k + 1)).length ∧ stepG m (gens.drop 0) ms sn = ST) := ⟨by rw [ht0], by rw [ht0]; exact Nat.le_refl _, hkm, hgi, hql, hST⟩
      have htF : t0 ≤ F := by have := trues_le sn; rw [hgi.1, HFH.out] at this; rw [ht0]; exact this
      have HR2 := Lib.hid hR2
      have HMR := Lib.hid hmR
      have HC0 := Lib.hid hC0
      rw [hmR.1] at hm1
      clear ht0 hR2 hmR hm hST hst HI hkm hQ hT1 hT2 hbf hgi hC0 hql hrows
      by_cases hc1 : c5 = 1
      · subst hc1
        have hq0 : 0 = Q1 := by omega
        have hq1 : QRow ws (w.heap.size + 1) 24 (.slice (some ⟨g5, o5, none⟩) 0 0) 0 vs' := by
          subst hq0
          exact QRow.tail0 hown
        have HQ0 := Lib.hid hq0
        clear hq0 hown
        go_wp2_with (fail)
        go_loopw [6, 8] (fun u6 u8 wr => ∃ (i Q : Nat) (ms T1 : List (List Int)) (sn : List Bool) (vs : List Value), Q ≤ F ∧ i ≤ G ∧ u8 = .int .i64 i ∧ QRow wr (w.heap.size + 1) 24 u6 Q vs ∧ RowsO wr (w.heap.size + 1) vs T1 ∧ OwnI wr (w.heap.size + 1) (.slice Am n cm) m ∧ BB wr gs sn ∧ BK wr w.heap.size 26 #[.int .i64 0, .slice none 0 0] ∧ Below w.heap.size w wr ∧ Hid (Q + t0 = 0 + trues sn ∧ t0 ≤ trues sn ∧ k + 1 ≤ ms.length ∧ GI n ms sn ∧ Q = T1.length ∧ T1 = ms.drop (k + 1) ∧ stepG m (gens.drop i) ms sn = ST)) (fun _ u8 _ => G - (intOf u8).toNat)
        case atStart => exact ⟨0, 0, ms, ms.drop (k + 1), sn, _, by omega, Nat.zero_le _, rfl, hq1, hrows1, hm1, hbb, hbx, hb, by have h := HI2.out.1; have h' := HQ0.out; omega, HI2.out.2.1, HI2.out.2.2.1, HI2.out.2.2.2.1, by have h := HI2.out.2.2.2.2.1; have h2 := HQ0.out; omega, rfl, HI2.out.2.2.2.2.2⟩
        case round =>
          clear hq1 hrows1 hm1 hbb hbx hb HI2
          obtain ⟨wt, rfl⟩ : ∃ wt : World, wt = wr := ⟨_, rfl⟩
          obtain ⟨i, Q, ms, T1, sn, vs, hQF, hiG, rfl, hown, hrows, hrow, hbb, hbx, hb, HI⟩ := hrel
          by_cases hil : i < G
          · have hi' : i < gens.length := by rw [← HG.out]; exact hil
            obtain ⟨hqt, htt, hkm, hgi, hql, htd, hst⟩ := HI.out
            have hg1 := HIN.out i hi'
            obtain ⟨b1, o1, rfl, hb1, hc1⟩ := hs.at hi'
            obtain ⟨Ag, cg, e1, hcg1, hcg2, isg⟩ := hc1 i hi'
            have e1 := (hb.cell (p := ⟨b1, o1 + i, none⟩) hb1).trans e1
            have isg := isg.below hb
            rw [hg1.1] at e1 hcg1
            have hmR := HMR.out
            have hrow2 := hrow
            unfold OwnI at hrow2
            rw [hmR.1] at hrow2
            have ism : IS wt wt.heap.size Am m := own_isn hrow2 hmR.1.symm
            have hbR := hg1.prod hmR
            have hseen := step_seen (m := m) (ms := ms) (sn := sn) hi'
            have hnew := step_new (m := m) (ms := ms) (sn := sn) hi'
            have hgmore := hgi.more hbR
            generalize hb' : prodL (gl gens i) m = b at *
            have hrb : rk b < sn.length := by rw [hgi.1, ← hbR.1]; exact rk_lt b
            have htl := trues_le_set hrb
            generalize hrk : rk b = r at *
            have hrF : r < F := by have h1 := hgi.1; have h2 := HFH.out; omega
            have hbase : w.heap.size + 1 ≤ wt.heap.size := by have := hbb.lt; omega
            have hne6 : u6.ownBlock ≠ some gs := q_ne_bb hown hbb (by decide)
            have hlt6 := hown.lt
            have HB := Lib.hid hb'
            have HRB := Lib.hid hrk
            have HSE := Lib.hid hseen
            have HNE := Lib.hid hnew
            have HGE := Lib.hid hgmore
            have HTL := Lib.hid htl
            have HLT6 := Lib.hid hlt6
            have hsz := hb.size
            have hgsl := hbb.lt
            clear hb' hrk hqt htt hkm hgi hql htd hst hc1 hseen hnew hgmore htl hlt6
            obtain ⟨g6, o6, c6, rfl, hQc, hcm6⟩ := hown.form
            by_cases hsee : sn.getD r false = true
            · go_wp2_with (first
                | (go_at_call 134; refine (s_prod Ag Am n cg n cm (gl gens i) m _ w.heap.size wt.heap.size hg1.1.symm hmR.1.symm (by omega) (by omega) hsz (Nat.le_refl _) isg ism hmR.2).mono ?_; rw [HB.out]; rintro e w2 ⟨v2, rfl, ho2, hb2⟩; obtain ⟨Ab, cb, rfl, hcb⟩ := own_slice' ho2; obtain ⟨e3, fz3⟩ := (hbb.below hb2).cell hrb; rw [hsee] at e3)
                | (go_at_call 133; refine (s_rank Ab n cb b _ w2.heap.size hbR.1.symm hn6 (by exact own_isn ho2 hbR.1.symm)).mono ?_; rw [HRB.out]; rintro e w3 ⟨rfl, q3, rfl⟩))
              go_roundw
              case rel =>
                obtain ⟨hqt, htt, hkm, hgi, hql, htd, hst⟩ := HI.out
                refine ⟨i + 1, Q, ms, T1, sn, vs, hQF, by omega, by go_num, (hown.below hb2).drewN _, (hrows.below hb2).drewN _, own_dr (own_below hrow hb2) _, (hbb.below hb2).drewN _, (hbx.below hb2 (by omega)).drewN _, below_drewN (hb.trans (hb2.mono hsz)) _, hqt, htt, hkm, hgi, hql, htd, ?_⟩
                rw [← HSE.out hsee]; exact hst
              case measure => simp [intOf]; omega
            · have hsee : sn.getD r false = false := by simpa using hsee
              obtain ⟨hqt0, htt0, hkm0, hgi0, hql0, htd0, hst0⟩ := HI.out
              have hmm := HGE.out hsee
              have hmf := hmm.le
              have htn := HTL.out hsee
              have hdrop : (ms ++ [b]).drop (k + 1) = T1 ++ [b] := by rw [List.drop_append_of_le_length hkm0, ← htd0]
              have hQ1 : Q + 1 ≤ F := by
                have h1 : (T1 ++ [b]).length ≤ (ms ++ [b]).length := by rw [← hdrop]; simp; omega
                have h2 := HFH.out
                simp only [List.length_append, List.length_singleton] at h1 hmf
                omega
              have HMM := Lib.hid hmm
              have HTN := Lib.hid htn
              have HDR := Lib.hid hdrop
              clear hqt0 htt0 hkm0 hgi0 hql0 htd0 hst0 hmm hmf htn hdrop
              go_wp2_with (first
                | (go_at_call 134; refine (s_prod Ag Am n cg n cm (gl gens i) m _ w.heap.size wt.heap.size hg1.1.symm hmR.1.symm (by omega) (by omega) hsz (Nat.le_refl _) isg ism hmR.2).mono ?_; rw [HB.out]; rintro e w2 ⟨v2, rfl, ho2, hb2⟩; obtain ⟨Ab, cb, rfl, hcb⟩ := own_slice' ho2; obtain ⟨e3, fz3⟩ := (hbb.below hb2).cell hrb; rw [hsee] at e3)
                | (go_at_call 133; refine (s_rank Ab n cb b _ w2.heap.size hbR.1.symm hn6 (by exact own_isn ho2 hbR.1.symm)).mono ?_; rw [HRB.out]; rintro e w3 ⟨rfl, q3, rfl⟩)
                | (at_builtin; refine wpList_append_mid rfl (.tmp 49) (.tmp 51) 29 rfl (w.heap.size + 1) 24 i1 (.slice none 0 0) 24 Tryz.underlying29 hi1 hy0 hy1 hy2 rfl (.slice (some ⟨g6, o6, none⟩) Q c6) Q vs rfl ((((hown.below hb2).drewN _).kept (grownBy_setC _ _ _) (.inr hne6)).kept (World.grownBy_alloc _ _ none) (.inr (by simp [Value.ownBlock]))) ⟨w2.heap.size, 0, none⟩ 1 (.slice Ab n cb) rfl ((one_src_set w2 _ _ _ _ _) _ rfl) rfl (by simp only [maxLen]; omega) (by omega) (by have := hb2.size; simp; omega) ?_; intro v5 w5 hown5 hg5 hat5))
              obtain ⟨hr5, hm5, hb5⟩ := genq_more (v1 := .slice Ab n cb) (b := b) hg5 hown hrows hrow hbb hbase (by rw [hbR.1]; exact ho2) (by exact below_drewN hb2 _) hrb
              have hz2 := hb2.size
              have hne0 : (Value.slice (some ⟨g6, o6, none⟩) Q c6).ownBlock ≠ some w.heap.size := fun h => by have := (HLT6.out _ h).1; omega
              go_roundw
              case rel =>
                obtain ⟨hqt, htt, hkm, hgi, hql, htd, hst⟩ := HI.out
                refine ⟨i + 1, Q + 1, ms ++ [b], T1 ++ [b], sn.set r true, _, hQ1, by omega, by go_num, hown5, hr5, hm5, hb5, ?_, ?_, ?_, ?_, ?_, HMM.out, ?_, HDR.out.symm, ?_⟩
                · exact BK.kept ((BK.far ((hbx.below hb2 (by omega)).drewN _) (by simp; omega) _).alloc _) hg5 (Ne.symm hne0)
                · exact Below.grown (((below_drewN (hb.trans (hb2.mono hsz)) _).setCell (by simp; omega) _).alloc (by simp; omega) _) hg5 (by simp; omega) (fun g hg => by have := (HLT6.out g hg).1; omega)
                · rw [HTN.out]; omega
                · rw [HTN.out]; omega
                · simp; omega
                · simp; omega
                · rw [← HNE.out hsee]; exact hst
              case measure => simp [intOf]; omega
          · obtain rfl : i = G := by omega
            go_wp2_with (fail)
            go_roundw
            case rel =>
              obtain ⟨hqt, htt, hkm, hgi, hql, htd, hst⟩ := HI.out
              rw [HG.out, step_done] at hst
              have h5 := HR2.out
              rw [← hst] at h5
              exact ⟨Q, T1, sn, vs, hQF, hown, hrows, hbb, hbx, hb, hql, k + 1, ms, hkm, htd, hgi, h5⟩
            case measure =>
              obtain ⟨hqt, htt, hkm, hgi, hql, htd, hst⟩ := HI.out
              have h6 := cntW_bb hbb
              rw [hgi.1, HFH.out] at h6
              obtain ⟨g6, o6, c6, rfl, _, _⟩ := hown.form
              have h7 := trues_le sn
              rw [hgi.1, HFH.out] at h7
              have h8 := HC0.out
              have h9 := HQ0.out
              simp [slen]
              omega
      · have hq1 := QRow.tail hown hc1
        have HQ0 : Hid (Q1 = Q1) := rfl
        clear hown
        go_wp2_with (fail)
        go_loopw [6, 8] (fun u6 u8 wr => ∃ (i Q : Nat) (ms T1 : List (List Int)) (sn : List Bool) (vs : List Value), Q ≤ F ∧ i ≤ G ∧ u8 = .int .i64 i ∧ QRow wr (w.heap.size + 1) 24 u6 Q vs ∧ RowsO wr (w.heap.size + 1) vs T1 ∧ OwnI wr (w.heap.size + 1) (.slice Am n cm) m ∧ BB wr gs sn ∧ BK wr w.heap.size 26 #[.int .i64 0, .slice none 0 0] ∧ Below w.heap.size w wr ∧ Hid (Q + t0 = Q1 + trues sn ∧ t0 ≤ trues sn ∧ k + 1 ≤ ms.length ∧ GI n ms sn ∧ Q = T1.length ∧ T1 = ms.drop (k + 1) ∧ stepG m (gens.drop i) ms sn = ST)) (fun _ u8 _ => G - (intOf u8).toNat)
        case atStart => exact ⟨0, Q1, ms, ms.drop (k + 1), sn, _, by omega, Nat.zero_le _, rfl, hq1, hrows1, hm1, hbb, hbx, hb, by have h := HI2.out.1; have h' := HQ0.out; omega, HI2.out.2.1, HI2.out.2.2.1, HI2.out.2.2.2.1, by have h := HI2.out.2.2.2.2.1; have h2 := HQ0.out; omega, rfl, HI2.out.2.2.2.2.2⟩
        case round =>
          clear hq1 hrows1 hm1 hbb hbx hb HI2
          obtain ⟨wt, rfl⟩ : ∃ wt : World, wt = wr := ⟨_, rfl⟩
          obtain ⟨i, Q, ms, T1, sn, vs, hQF, hiG, rfl, hown, hrows, hrow, hbb, hbx, hb, HI⟩ := hrel
          by_cases hil : i < G
          · have hi' : i < gens.length := by rw [← HG.out]; exact hil
            obtain ⟨hqt, htt, hkm, hgi, hql, htd, hst⟩ := HI.out
            have hg1 := HIN.out i hi'
            obtain ⟨b1, o1, rfl, hb1, hc1⟩ := hs.at hi'
            obtain ⟨Ag, cg, e1, hcg1, hcg2, isg⟩ := hc1 i hi'
            have e1 := (hb.cell (p := ⟨b1, o1 + i, none⟩) hb1).trans e1
            have isg := isg.below hb
            rw [hg1.1] at e1 hcg1
            have hmR := HMR.out
            have hrow2 := hrow
            unfold OwnI at hrow2
            rw [hmR.1] at hrow2
            have ism : IS wt wt.heap.size Am m := own_isn hrow2 hmR.1.symm
            have hbR := hg1.prod hmR
            have hseen := step_seen (m := m) (ms := ms) (sn := sn) hi'
            have hnew := step_new (m := m) (ms := ms) (sn := sn) hi'
            have hgmore := hgi.more hbR
            generalize hb' : prodL (gl gens i) m = b at *
            have hrb : rk b < sn.length := by rw [hgi.1, ← hbR.1]; exact rk_lt b
            have htl := trues_le_set hrb
            generalize hrk : rk b = r at *
            have hrF : r < F := by have h1 := hgi.1; have h2 := HFH.out; omega
            have hbase : w.heap.size + 1 ≤ wt.heap.size := by have := hbb.lt; omega
            have hne6 : u6.ownBlock ≠ some gs := q_ne_bb hown hbb (by decide)
            have hlt6 := hown.lt
            have HB := Lib.hid hb'
            have HRB := Lib.hid hrk
            have HSE := Lib.hid hseen
            have HNE := Lib.hid hnew
            have HGE := Lib.hid hgmore
            have HTL := Lib.hid htl
            have HLT6 := Lib.hid hlt6
            have hsz := hb.size
            have hgsl := hbb.lt
            clear hb' hrk hqt htt hkm hgi hql htd hst hc1 hseen hnew hgmore htl hlt6
            obtain ⟨g6, o6, c6, rfl, hQc, hcm6⟩ := hown.form
            by_cases hsee : sn.getD r false = true
            · go_wp2_with (first
                | (go_at_call 134; refine (s_prod Ag Am n cg n cm (gl gens i) m _ w.heap.size wt.heap.size hg1.1.symm hmR.1.symm (by omega) (by omega) hsz (Nat.le_refl _) isg ism hmR.2).mono ?_; rw [HB.out]; rintro e w2 ⟨v2, rfl, ho2, hb2⟩; obtain ⟨Ab, cb, rfl, hcb⟩ := own_slice' ho2; obtain ⟨e3, fz3⟩ := (hbb.below hb2).cell hrb; rw [hsee] at e3)
                | (go_at_call 133; refine (s_rank Ab n cb b _ w2.heap.size hbR.1.symm hn6 (by exact own_isn ho2 hbR.1.symm)).mono ?_; rw [HRB.out]; rintro e w3 ⟨rfl, q3, rfl⟩))
              go_roundw
              case rel =>
                obtain ⟨hqt, htt, hkm, hgi, hql, htd, hst⟩ := HI.out
                refine ⟨i + 1, Q, ms, T1, sn, vs, hQF, by omega, by go_num, (hown.below hb2).drewN _, (hrows.below hb2).drewN _, own_dr (own_below hrow hb2) _, (hbb.below hb2).drewN _, (hbx.below hb2 (by omega)).drewN _, below_drewN (hb.trans (hb2.mono hsz)) _, hqt, htt, hkm, hgi, hql, htd, ?_⟩
                rw [← HSE.out hsee]; exact hst
              case measure => simp [intOf]; omega
            · have hsee : sn.getD r false = false := by simpa using hsee
              obtain ⟨hqt0, htt0, hkm0, hgi0, hql0, htd0, hst0⟩ := HI.out
              have hmm := HGE.out hsee
              have hmf := hmm.le
              have htn := HTL.out hsee
              have hdrop : (ms ++ [b]).drop (k + 1) = T1 ++ [b] := by rw [List.drop_append_of_le_length hkm0, ← htd0]
              have hQ1 : Q + 1 ≤ F := by
                have h1 : (T1 ++ [b]).length ≤ (ms ++ [b]).length := by rw [← hdrop]; simp; omega
                have h2 := HFH.out
                simp only [List.length_append, List.length_singleton] at h1 hmf
                omega
              have HMM := Lib.hid hmm
              have HTN := Lib.hid htn
              have HDR := Lib.hid hdrop
              clear hqt0 htt0 hkm0 hgi0 hql0 htd0 hst0 hmm hmf htn hdrop
              go_wp2_with (first
                | (go_at_call 134; refine (s_prod Ag Am n cg n cm (gl gens i) m _ w.heap.size wt.heap.size hg1.1.symm hmR.1.symm (by omega) (by omega) hsz (Nat.le_refl _) isg ism hmR.2).mono ?_; rw [HB.out]; rintro e w2 ⟨v2, rfl, ho2, hb2⟩; obtain ⟨Ab, cb, rfl, hcb⟩ := own_slice' ho2; obtain ⟨e3, fz3⟩ := (hbb.below hb2).cell hrb; rw [hsee] at e3)
                | (go_at_call 133; refine (s_rank Ab n cb b _ w2.heap.size hbR.1.symm hn6 (by exact own_isn ho2 hbR.1.symm)).mono ?_; rw [HRB.out]; rintro e w3 ⟨rfl, q3, rfl⟩)
                | (at_builtin; refine wpList_append_mid rfl (.tmp 49) (.tmp 51) 29 rfl (w.heap.size + 1) 24 i1 (.slice none 0 0) 24 Tryz.underlying29 hi1 hy0 hy1 hy2 rfl (.slice (some ⟨g6, o6, none⟩) Q c6) Q vs rfl ((((hown.below hb2).drewN _).kept (grownBy_setC _ _ _) (.inr hne6)).kept (World.grownBy_alloc _ _ none) (.inr (by simp [Value.ownBlock]))) ⟨w2.heap.size, 0, none⟩ 1 (.slice Ab n cb) rfl ((one_src_set w2 _ _ _ _ _) _ rfl) rfl (by simp only [maxLen]; omega) (by omega) (by have := hb2.size; simp; omega) ?_; intro v5 w5 hown5 hg5 hat5))
              obtain ⟨hr5, hm5, hb5⟩ := genq_more (v1 := .slice Ab n cb) (b := b) hg5 hown hrows hrow hbb hbase (by rw [hbR.1]; exact ho2) (by exact below_drewN hb2 _) hrb
              have hz2 := hb2.size
              have hne0 : (Value.slice (some ⟨g6, o6, none⟩) Q c6).ownBlock ≠ some w.heap.size := fun h => by have := (HLT6.out _ h).1; omega
              go_roundw
              case rel =>
                obtain ⟨hqt, htt, hkm, hgi, hql, htd, hst⟩ := HI.out
                refine ⟨i + 1, Q + 1, ms ++ [b], T1 ++ [b], sn.set r true, _, hQ1, by omega, by go_num, hown5, hr5, hm5, hb5, ?_, ?_, ?_, ?_, ?_, HMM.out, ?_, HDR.out.symm, ?_⟩
                · exact BK.kept ((BK.far ((hbx.below hb2 (by omega)).drewN _) (by simp; omega) _).alloc _) hg5 (Ne.symm hne0)
                · exact Below.grown (((below_drewN (hb.trans (hb2.mono hsz)) _).setCell (by simp; omega) _).alloc (by simp; omega) _) hg5 (by simp; omega) (fun g hg => by have := (HLT6.out g hg).1; omega)
                · rw [HTN.out]; omega
                · rw [HTN.out]; omega
                · simp; omega
                · simp; omega
                · rw [← HNE.out hsee]; exact hst
              case measure => simp [intOf]; omega
          · obtain rfl : i = G := by omega
            go_wp2_with (fail)
            go_roundw
            case rel =>
              obtain ⟨hqt, htt, hkm, hgi, hql, htd, hst⟩ := HI.out
              rw [HG.out, step_done] at hst
              have h5 := HR2.out
              rw [← hst] at h5
              exact ⟨Q, T1, sn, vs, hQF, hown, hrows, hbb, hbx, hb, hql, k + 1, ms, hkm, htd, hgi, h5⟩
            case measure =>
              obtain ⟨hqt, htt, hkm, hgi, hql, htd, hst⟩ := HI.out
              have h6 := cntW_bb hbb
              rw [hgi.1, HFH.out] at h6
              obtain ⟨g6, o6, c6, rfl, _, _⟩ := hown.form
              have h7 := trues_le sn
              rw [hgi.1, HFH.out] at h7
              have h8 := HC0.out
              have h9 := HQ0.out
              simp [slen]
              omega
    · obtain rfl : Q = 0 := by omega
      have hfin : Hid (ms = MS ∧ sn = SN) := by
        rw [bfs_end (by rw [hT1, List.length_drop] at hQ; omega)] at hbf
        injection hbf with h4 h5
        exact ⟨h4, h5⟩
      have hsl : F = sn.length := by rw [hgi.1, HFH.out]
      have HSL := Lib.hid hsl
      clear hQ hkm hT1 hgi hbf hsl HI
      go_wp2_with (fail)
      refine (s_listed gs F F sn _ HSL.out (by omega) hbb).mono ?_
      rw [hfin.out.2, HRK.out]
      rintro e w5 ⟨v5, rfl, ho5, hb5⟩
      obtain ⟨Ar, cr, rfl, _⟩ := own_slice' ho5
      generalize hL : (RK n gens).length = L at *
      have HL := Lib.hid hL
      clear hL
      have hz5 := hb5.size
      have hz6 := hbx.lt
      have hbx5 := hbx.below hb5 hz6
      have hbw := hb.trans (hb5.mono hb.size)
      obtain ⟨f2, f3, fz2, fz3⟩ := hbx5.two
      go_wp2_with (fail)
      have h5 := (hbx5.set 0 (.int .i64 (n : Int))).set 1 (.slice Ar L cr)
      have hb9 := (hbw.setCell (p := ⟨w.heap.size, 0, none⟩) (by simp) (.int .i64 (n : Int))).setCell (p := ⟨w.heap.size, 1, none⟩) (by simp) (.slice Ar L cr)
      have ho9 := ownsRow_setCell_below (ownsRow_setCell_below ho5 (a := ⟨w.heap.size, 0, none⟩) (by simp; omega) (.int .i64 (n : Int))) (a := ⟨w.heap.size, 1, none⟩) (by simp; omega) (.slice Ar L cr)
      generalize ((w5.setCell ⟨w.heap.size, 0, none⟩ (.int .i64 (n : Int))).setCell ⟨w.heap.size, 1, none⟩ (.slice Ar L cr)) = w9 at *
      obtain ⟨d0, d1, _, _⟩ := BK.two (x := .int .i64 (n : Int)) (y := .slice Ar L cr) (by simpa using h5)
      (try simp only [Exit.inBlock, Exit.then])
      refine bodyPost_ret (v := .agg #[.int .i64 (n : Int), .slice Ar L cr]) (by simp [results, Tryz.results159, go_sem, d0, d1]; try rfl) rfl ?_
      exact ⟨_, rfl, by rw [HL.out]; exact own_mono ho9 (by omega), hb9⟩
end Go.Proofs.YtglijcdnnaekkaaGreat
