/- Shares: one share more at its place; the program's shares of a group. -/
import Derived.Test.YtglijcdnnaekkaaA271
import Derived.Test.YtglijcdnnaekkaaA272
import Derived.Test.YtglijcdnnaekkaaA101
namespace Go.Proofs.Ytglijcdnnaekkaa
set_option linter.unusedVariables false
set_option linter.unusedSimpArgs false
open Go.RowKit

theorem rows_ins {w : World} {base : Nat} {vs : List Value} {ll : List (List Int)} {v : Value} {l : List Int} (h : RowsO w base vs ll) (hr : OwnI w base v l) (hne : ∀ i, i < vs.length → (gv vs i).ownBlock = none ∨ (gv vs i).ownBlock ≠ v.ownBlock) {a : Nat} (ha : a ≤ ll.length) : RowsO w base (vs.take a ++ [v] ++ vs.drop a) (ll.take a ++ [l] ++ ll.drop a) := by
  have hl := h.1
  have h1 : (vs.take a).length = a := by rw [List.length_take]; omega
  have h2 : (ll.take a).length = a := by rw [List.length_take]; omega
  refine RowsO.perm (fun k => if k < a then k else if k = a then vs.length else if k ≤ vs.length then k - 1 else k) (h.snoc hr hne) (by simp; omega) (by simp; omega) (fun k hk => ?_) (fun k hk => ?_) (fun k hk => ?_) (fun x y e => ?_)
  · rw [List.length_append, List.length_singleton] at hk
    rw [gv_app, gv_app, gv_app, List.length_append, h1, List.length_singleton]
    try rw [← hl]
    by_cases e1 : k < a
    · have e3 : k < a + 1 := by omega
      have e4 : k < vs.length := by omega
      simp only [e1, e3, e4, if_true]
      exact gv_take e1
    · by_cases e2 : k = a
      · have e3 : k < a + 1 := by omega
        have e5 : ¬ vs.length < vs.length := by omega
        simp only [e1, e3, if_true, if_false, e2, Nat.sub_self, Nat.lt_irrefl, Nat.lt_succ_self]
      · have e3 : ¬ k < a + 1 := by omega
        have e4 : k ≤ vs.length := by omega
        have e5 : k - 1 < vs.length := by omega
        simp only [e1, e2, e3, e4, e5, if_true, if_false]
        rw [gv_drop]
        congr 1; omega
  · rw [List.length_append, List.length_singleton] at hk
    rw [gl_app, gl_app, gl_app, List.length_append, h2, List.length_singleton]
    try rw [← hl]
    by_cases e1 : k < a
    · have e3 : k < a + 1 := by omega
      have e4 : k < vs.length := by omega
      simp only [e1, e3, e4, if_true]
      exact gl_take e1
    · by_cases e2 : k = a
      · have e3 : k < a + 1 := by omega
        have e5 : ¬ vs.length < vs.length := by omega
        simp only [e1, e3, if_true, if_false, e2, Nat.sub_self, Nat.lt_irrefl, Nat.lt_succ_self]
      · have e3 : ¬ k < a + 1 := by omega
        have e4 : k ≤ vs.length := by omega
        have e5 : k - 1 < vs.length := by omega
        simp only [e1, e2, e3, e4, e5, if_true, if_false]
        rw [gl_drop]
        congr 1; omega
  · rw [List.length_append, List.length_singleton] at hk ⊢
    split
    · omega
    · split
      · omega
      · split <;> omega
  · split at e <;> (try split at e) <;> (try split at e) <;> (try split at e) <;> (try split at e) <;> (try split at e) <;> omega
theorem shC_one {vs : List Value} : ∀ {cs : List Int}, (∀ v ∈ vs, v.oneCell' = true) → ∀ u ∈ shC vs cs, u.oneCell' = true := by
  induction vs with
  | nil => intro cs _ u hu; simp [shC] at hu
  | cons v vs ih =>
    intro cs h u hu
    cases cs with
    | nil => simp [shC] at hu
    | cons c cs =>
      simp only [shC, List.mem_cons] at hu
      rcases hu with rfl | rfl | hu
      · exact h _ (by simp)
      · rfl
      · exact ih (fun v hv => h v (by simp [hv])) u hu
theorem rows_one {w : World} {base : Nat} {vs : List Value} {ts : List (List Int)} (hr : RowsO w base vs ts) : ∀ v ∈ vs, v.oneCell' = true := fun v hv => by
  obtain ⟨j, hj, e⟩ := List.mem_iff_getElem.1 hv
  obtain ⟨Aj, cj, ej, _⟩ := own_slice' (hr.2.1 j hj)
  have e2 : gv vs j = v := by simp [gv, List.getElem?_eq_getElem hj, e]
  rw [← e2, ej]; rfl
theorem sh_ne : (2 : TypeId) ≠ 60 := by decide
theorem c_insert (A : Option Addr) (n c base k : Nat) (xs : List Value) (v : Value) (w : World) (hk : k ≤ n) (hn : n ≤ 1000) (hb : base ≤ w.heap.size) (hv : v.oneCell' = true) (hx1 : ∀ u ∈ xs, u.oneCell' = true) (ho : w.ownsRow base 60 2 (.slice A n c) n xs) :
    Calls Try.prog 92 #[.slice A n c, .int .i64 k, .slice (some ⟨w.heap.size, 0, none⟩) 1 1] (w.alloc (.cells #[v, .int .i64 0] 60)) (INS base A n c k xs v w) := by
  rcases Nat.lt_or_ge k n with h | h
  · obtain ⟨g, rfl, _⟩ := own_src ho (by omega)
    rcases Nat.lt_or_ge c (n + 1) with h2 | h2
    · exact c_insGrow g n c base k xs v w h hn h2 hb hv hx1 ho
    · exact c_insShift g n c base k xs v w h hn h2 hv hx1 ho
  · obtain rfl : k = n := by omega
    exact c_insEnd A k c base xs v w hn hb hv ho
theorem sh_put {w : World} {base g n c k : Nat} {vs : List Value} {cs : List Int} {ts : List (List Int)} (ho : w.ownsRow base 60 2 (.slice (some ⟨g, 0, none⟩) n c) n (shC vs cs)) (hr : RowsO w base vs ts) (hn : n = ts.length) (hcs : cs.length = n) (hk : k < n) (x : Int) :
    (w.setCell ⟨g, k * 2 + 1, none⟩ (.int .i64 x)).ownsRow base 60 2 (.slice (some ⟨g, 0, none⟩) n c) n (shC vs (cs.set k x)) ∧ RowsO (w.setCell ⟨g, k * 2 + 1, none⟩ (.int .i64 x)) base vs ts ∧ w.grownBy (w.setCell ⟨g, k * 2 + 1, none⟩ (.int .i64 x)) (some g) := by
  obtain ⟨h1, h2⟩ := ho.stored (k * 2 + 1) (.int .i64 x)
  have hvl := hr.1
  rw [shC_set (by omega) (by omega)] at h1
  exact ⟨h1, hr.kept h2 fun i hi => own_ne (hr.2.1 i hi) ho sh_ne, h2⟩
/-- One new share among the rows. -/
theorem sh_ins {w w' : World} {base n c k c' : Nat} {A A' : Option Addr} {vs : List Value} {cs : List Int} {ts : List (List Int)} {v : Value} {t : List Int} (ho : w.ownsRow base 60 2 (.slice A n c) n (shC vs cs)) (hr : RowsO w base vs ts) (hn : n = ts.length) (hcs : cs.length = n) (hk : k ≤ n) (hv : OwnI w base v t) (hne : ∀ i, i < vs.length → (gv vs i).ownBlock = none ∨ (gv vs i).ownBlock ≠ v.ownBlock)
    (ho' : w'.ownsRow base 60 2 (.slice A' (n + 1) c') (n + 1) (putC (shC vs cs) k v)) (hg : w.grownBy w' (Value.slice A n c).ownBlock) :
    w'.ownsRow base 60 2 (.slice A' (n + 1) c') (n + 1) (shC (vs.take k ++ [v] ++ vs.drop k) (cs.take k ++ [0] ++ cs.drop k)) ∧ RowsO w' base (vs.take k ++ [v] ++ vs.drop k) (ts.take k ++ [t] ++ ts.drop k) := by
  have hvl := hr.1
  have e : putC (shC vs cs) k v = shC (vs.take k ++ [v] ++ vs.drop k) (cs.take k ++ [0] ++ cs.drop k) := by
    unfold putC
    rw [shC_take, shC_drop, shC_app (by simp; omega), shC_app (by simp; omega)]
    rfl
  rw [e] at ho'
  exact ⟨ho', (rows_ins hr hv hne (by omega)).kept hg fun i hi => own_ne ((rows_ins hr hv hne (a := k) (by omega)).2.1 i hi) ho sh_ne⟩
def tyM (n : Nat) (l : List Int) : List (List Int) := (memL n l).map tyS
theorem tyM_len (n : Nat) (l : List Int) : (tyM n l).length = l.length := by simp [tyM, memL_len]
theorem gl_tyM {n : Nat} {l : List Int} {k : Nat} (h : k < l.length) : gl (tyM n l) k = tyS (gl (memL n l) k) := by
  have h' : k < (memL n l).length := by rw [memL_len]; exact h
  simp [tyM, gl, List.getElem?_eq_getElem h']
theorem gl_memW {n : Nat} {l : List Int} {k : Nat} (h : k < l.length) : gl (memL n l) k = wrL n (gt l k).toNat := by
  simp [memL, gl, gt, List.getElem?_eq_getElem h]
theorem gl_memR {n : Nat} {l : List Int} (hk : InK n l) {k : Nat} (h : k < l.length) : InR n (gl (memL n l) k) := by
  rw [gl_memW h]
  have := hk k h
  exact wrL_in (by omega)
/-- The shares of a group. -/
def SHR (n : Nat) (l : List Int) (w : World) (e : Ending) (w' : World) : Prop :=
  ∃ (A : Option Addr) (m c : Nat) (vs : List Value), m = (shO (tyM n l) l.length).length ∧ e = .returned (.slice A m c) ∧ w'.ownsRow w.heap.size 60 2 (.slice A m c) m (shC vs (ctL (tyM n l) l.length (shO (tyM n l) l.length))) ∧ RowsO w' w.heap.size vs (shO (tyM n l) l.length) ∧ Below w.heap.size w w'
theorem shI_at' (ts : List (List Int)) (k : Nat) : atS (gl ts k) (shO ts k) < (shO ts (k + 1)).length ∧ gl (shO ts (k + 1)) (atS (gl ts k) (shO ts k)) = gl ts k := shrI_at (shO ts k) (gl ts k)
theorem shO_has {ts : List (List Int)} {k : Nat} (h : hasS (gl ts k) (shO ts k) = true) : shO ts (k + 1) = shO ts k := by
  show shrI _ _ = _
  unfold shrI
  rw [if_pos h]
theorem shO_new {ts : List (List Int)} {k : Nat} (h : hasS (gl ts k) (shO ts k) = false) : shO ts (k + 1) = (shO ts k).take (atS (gl ts k) (shO ts k)) ++ [gl ts k] ++ (shO ts k).drop (atS (gl ts k) (shO ts k)) := by
  show shrI _ _ = _
  unfold shrI
  rw [if_neg (by rw [h]; simp)]
theorem sh_fin {ts : List (List Int)} {k g m c base : Nat} {w1 w : World} {vs : List Value} (hm : m = (shO ts (k + 1)).length) (ho : w.ownsRow base 60 2 (.slice (some ⟨g, 0, none⟩) m c) m (shC vs (ctL ts k (shO ts (k + 1))))) (hr : RowsO w base vs (shO ts (k + 1))) (hb : Below base w1 w) (hB : base ≤ w.heap.size) :
    atS (gl ts k) (shO ts k) < m ∧ w.cell? ⟨g, atS (gl ts k) (shO ts k) * 2 + 1, none⟩ = some (.int .i64 ((cntT ts k (gl ts k) : Nat) : Int)) ∧ w.frozen? ⟨g, atS (gl ts k) (shO ts k) * 2 + 1, none⟩ = false ∧
    (w.setCell ⟨g, atS (gl ts k) (shO ts k) * 2 + 1, none⟩ (.int .i64 ((cntT ts k (gl ts k) : Nat) + 1 : Int))).ownsRow base 60 2 (.slice (some ⟨g, 0, none⟩) m c) m (shC vs (ctL ts (k + 1) (shO ts (k + 1)))) ∧
    RowsO (w.setCell ⟨g, atS (gl ts k) (shO ts k) * 2 + 1, none⟩ (.int .i64 ((cntT ts k (gl ts k) : Nat) + 1 : Int))) base vs (shO ts (k + 1)) ∧ Below base w1 (w.setCell ⟨g, atS (gl ts k) (shO ts k) * 2 + 1, none⟩ (.int .i64 ((cntT ts k (gl ts k) : Nat) + 1 : Int))) := by
  obtain ⟨h1, h2⟩ := shI_at' ts k
  have hg := ctL_gt (ts := ts) (i := k) h1
  rw [h2] at hg
  have hlt : atS (gl ts k) (shO ts k) < m := by rw [hm]; exact h1
  obtain ⟨_, _, _, e2, _, _⟩ := sh_cell ho hr hm (by rw [ctL_len, hm]) hlt
  rw [hg] at e2
  have hp := sh_put ho hr hm (by rw [ctL_len, hm]) hlt ((cntT ts k (gl ts k) : Nat) + 1 : Int)
  rw [ctL_more, hg]
  exact ⟨hlt, e2, ho.frozenAt _, hp.1, hp.2.1, hb.grown hp.2.2 hB (fun x hx => by injection hx with hx; subst hx; exact (ho.lt _ rfl).1)⟩
set_option maxRecDepth 20000 in
set_option maxHeartbeats 4000000 in
theorem i_shares (n : Nat) (A : Option Addr) (L c : Nat) (l : List Int) (w : World) (hn1 : 1 ≤ n) (hn6 : n ≤ 6) (hL : L = l.length) (hl : L ≤ 720) (hk : InK n l) (hs : IS w w.heap.size A l) :
    Calls Try.prog 37 #[.agg #[.int .i64 n, .slice A L c]] w (SHR n l w) := by
  have B0 := BK.new w 38 #[.int .i64 n, .slice A L c]
  obtain ⟨c0, c1, _, _⟩ := B0.two
  have hb0 := (Below.refl w.heap.size w).alloc (Nat.le_refl _) (.cells #[.int .i64 n, .slice A L c] 38)
  have hme := i_members n A L c l _ hn1 hn6 hL (by omega) hk (hs.call hb0)
  have HL := Lib.hid hL
  have HMR := Lib.hid (fun k (h : k < l.length) => gl_memR hk h)
  have HTY := Lib.hid (fun k (h : k < l.length) => gl_tyM (n := n) h)
  unfold MII at hme
  rw [memL_len, ← hL] at hme
  have hsl := fun i => shO_len (tyM n l) i
  have HMS := Lib.hid (show L = (memL n l).length by rw [memL_len, hL])
  have HT6 := Lib.hid (show ∀ j, j < L → (gl (tyM n l) j).length ≤ 6 from fun j hj => by
    rw [gl_tyM (by omega), tyS_len]
    have := cycL_len (gl (memL n l) j)
    rw [(gl_memR hk (by omega)).1] at this
    omega)
  unfold SHR
  rw [← hL]
  generalize tyM n l = ts at *
  generalize memL n l = ms at *
  clear hL hk hs B0
  go_enter Try.func37, Try.ntmps37
  go_wp2_with (fail)
  refine hme.mono ?_
  rintro e w1 ⟨Am, cm, vm, rfl, om, rm, hb1⟩
  have b1 := bel_call hb0 hb1
  have im := OwnII.ii om rm
  clear hme c0 c1 om rm hb0 hb1
  generalize w.alloc (.cells #[.int .i64 n, .slice A L c] 38) = w0 at *
  go_wp2_with (fail)
  go_loopw [3, 12] (fun u3 u12 wr => ∃ (k m : Nat) (A3 : Option Addr) (c3 : Nat) (vs : List Value), k ≤ L ∧ u12 = .int .i64 (k : Int) ∧ u3 = .slice A3 m c3 ∧ Hid (m = (shO ts k).length) ∧ Hid (wr.ownsRow w1.heap.size 60 2 (.slice A3 m c3) m (shC vs (ctL ts k (shO ts k)))) ∧ Hid (RowsO wr w1.heap.size vs (shO ts k)) ∧ Below w1.heap.size w1 wr) (fun _ u12 _ => L - (intOf u12).toNat)
  case atStart => exact ⟨0, 0, none, 0, [], Nat.zero_le _, rfl, rfl, rfl, World.ownsRow_nil _ _ _ _, ⟨rfl, fun i hi => by simp at hi, fun i j _ hj => by simp at hj⟩, Below.refl _ _⟩
  case round =>
    obtain ⟨ws, rfl⟩ : ∃ ws : World, ws = wr := ⟨_, rfl⟩
    obtain ⟨k, m, A3, c3, vs, hkL, rfl, rfl, HM, HOW, HRW, hb⟩ := hrel
    by_cases hlt : k < L
    · have ims := im.below hb
      have hzb := hb.size
      have hkl : k < l.length := by rw [← HL.out]; exact hlt
      obtain ⟨b, off, rfl, hbb, hcell⟩ := ims.at (k := k) (by rw [← HMS.out]; exact hlt)
      obtain ⟨Ar, cr, h1, _, _, i1⟩ := hcell k (by rw [← HMS.out]; exact hlt)
      have hin := HMR.out k hkl
      rw [hin.1] at h1
      have hct := i_cycleType Ar n cr (gl ms k) ws hn1 hn6 hin (i1.more hzb)
      have hty := HTY.out k hkl
      have htl : (cycL (gl ms k)).length = (gl ts k).length := by rw [hty, tyS_len]
      rw [← hty] at hct
      have ht6 := HT6.out k hlt
      generalize (cycL (gl ms k)).length = tl at *
      have HTL := Lib.hid htl
      have htl6 : tl ≤ 6 := by omega
      have hml : m ≤ k := by rw [HM.out]; exact shO_len ts k
      have hrow6 : ∀ j, j < m → (gl (shO ts k) j).length ≤ 6 := fun j hj => by
        obtain ⟨q, hq, e⟩ := shO_mem.1 (gl_mem (ll := shO ts k) (i := j) (by rw [← HM.out]; exact hj))
        rw [← e]
        exact HT6.out q (by omega)
      have HR6 := Lib.hid hrow6
      clear hcell i1 hin hty htl ht6 hrow6
      go_wp2_with (fail)
      refine hct.mono ?_
      rintro e w2 ⟨v, rfl, ov, hb2⟩
      obtain ⟨At, ct, rfl, _⟩ := own_slice' ov
      have ow2 := own_below HOW.out hb2
      have rw2 := HRW.out.below hb2
      have hst := own_isn ov HTL.out
      have hbs := c_bsf A3 At m c3 w1.heap.size tl ct vs (ctL ts k (shO ts k)) (shO ts k) (gl ts k) w2 HM.out (by omega) (shO_strict ts k) HR6.out (by rw [ctL_len, ← HM.out]) ow2 rw2 HTL.out htl6 hst
      have b2 := hb.trans (hb2.mono hzb)
      have hz2 := hb2.size
      clear hct
      go_wp2_with (fail)
      refine hbs.mono ?_
      rintro e w3 ⟨rfl, hb3⟩
      have ow3 := own_below ow2 hb3
      have rw3 := rw2.below hb3
      have ov3 := own_below ov hb3
      have b3 := b2.trans (hb3.mono (by omega))
      have hz3 := hb3.size
      have hw720 : IntKind.i64.wrap (((cntT ts k (gl ts k) : Nat) : Int) + 1) = ((cntT ts k (gl ts k) : Nat) : Int) + 1 := IntWalk.i64_in _ (by have := cntT_le ts k (gl ts k); omega)
      clear hbs ow2 rw2 hst ov
      cases hf : hasS (gl ts k) (shO ts k)
      · have e1 := shO_new hf
        have e2 := ctL_new hf
        have hal := atS_le (gl ts k) (shO ts k)
        rw [← HM.out] at hal
        have hins := c_insert A3 m c3 w1.heap.size (atS (gl ts k) (shO ts k)) (shC vs (ctL ts k (shO ts k))) (.slice At tl ct) w3 hal (by omega) (by omega) rfl (shC_one (rows_one rw3)) ow3
        have HI := Lib.hid (fun A' c' w' ho' hg' => sh_ins (A' := A') (c' := c') (w' := w') ow3 rw3 HM.out (by rw [ctL_len, ← HM.out]) hal (t := gl ts k) (v := .slice At tl ct) (by unfold OwnI; rw [← HTL.out]; exact own_mono ov3 hzb) (fresh_ne HRW.out (fun g hg => (ov3.lt g hg).1)) ho' hg')
        have HM2 := Lib.hid (show m + 1 = (shO ts (k + 1)).length by
          rw [e1]; simp only [List.length_append, List.length_take, List.length_drop, List.length_singleton, ← HM.out]; omega)
        rw [← e1, ← e2] at HI
        clear e1 e2 hf
        go_wp2_with (fail)
        refine hins.mono ?_
        rintro e w4 ⟨A4, c4, rfl, o4, g4⟩
        obtain ⟨ow4, rw4⟩ := HI.out A4 c4 w4 o4 g4
        have b4 := b3.grown g4 (by omega) (fun x hx => (ow3.lt x hx).1)
        have hz4 := g4.size
        obtain ⟨g, rfl, _⟩ := own_src ow4 (by omega)
        obtain ⟨f1, f2, f3, f4, f5, f6⟩ := sh_fin HM2.out ow4 rw4 b4 (by omega)
        generalize atS (gl ts k) (shO ts k) = a at *
        generalize cntT ts k (gl ts k) = y at *
        have F4 := Lib.hid f4
        have F5 := Lib.hid f5
        clear f4 f5 hins HI ow3 rw3 ov3 ow4 rw4 o4
        go_wp2_with (fail)
        go_roundw
        case rel => exact ⟨k + 1, m + 1, _, c4, _, by omega, by go_num, rfl, HM2.out, F4.out, F5.out, f6⟩
        case measure => simp [intOf]; omega
      · have e1 := shO_has hf
        rw [← e1] at ow3 rw3
        have HM2 := Lib.hid (show m = (shO ts (k + 1)).length by rw [e1]; exact HM.out)
        have hpos : 0 < m := by rw [HM2.out]; exact Nat.lt_of_le_of_lt (Nat.zero_le _) (shI_at' ts k).1
        obtain ⟨g, rfl, _⟩ := own_src ow3 hpos
        obtain ⟨f1, f2, f3, f4, f5, f6⟩ := sh_fin HM2.out ow3 rw3 b3 (by omega)
        clear e1 hf
        generalize atS (gl ts k) (shO ts k) = a at *
        generalize cntT ts k (gl ts k) = y at *
        have F4 := Lib.hid f4
        have F5 := Lib.hid f5
        clear f4 f5 ow3 rw3 ov3
        go_wp2_with (fail)
        go_roundw
        case rel => exact ⟨k + 1, m, _, c3, _, by omega, by go_num, rfl, HM2.out, F4.out, F5.out, f6⟩
        case measure => simp [intOf]; omega
    · obtain rfl : k = L := by omega
      go_wp2_with (fail)
      go_ret
      have hz := b1.size
      exact ⟨A3, m, c3, vs, HM.out, rfl, own_mono HOW.out (by omega), HRW.out.mono (by omega), b1.trans (hb.mono (by omega))⟩
end Go.Proofs.Ytglijcdnnaekkaa
