/- Shares: equality, marking and asking for the marks; the law SharesOf. -/
import Derived.Test.YtglijcdnnaekkaaA276
import Derived.Test.YtglijcdnnaekkaaA176
namespace Go.Proofs.Ytglijcdnnaekkaa
set_option linter.unusedVariables false
set_option linter.unusedSimpArgs false
open Go.RowKit

set_option maxHeartbeats 1000000 in
theorem l_eqShare (A A' : Option Addr) (n c c' : Nat) (x : Int) (xs : List Int) (w : World) (hn : n = xs.length) (hl : n ≤ 1048576) (hs : IS w w.heap.size A xs) (hs' : IS w w.heap.size A' xs) :
    Calls Try.prog 38 #[.agg #[.slice A n c, .int .i64 x], .agg #[.slice A' n c', .int .i64 x]] w (M (.bool true) w) := by
  obtain ⟨B0, C0⟩ := two_boxes w 60 60 #[.slice A n c, .int .i64 x] #[.slice A' n c', .int .i64 x]
  obtain ⟨c0, c1, _, _⟩ := B0.two
  obtain ⟨d0, d1, _, _⟩ := C0.two
  have hb0 := two_alloc w (.cells #[.slice A n c, .int .i64 x] 60) (.cells #[.slice A' n c', .int .i64 x] 60)
  have he := l_eqInt64S A A' n c n c' xs _ _ _ hn hn (by omega) (hs.call hb0) (hs'.call hb0)
  clear hn hl hs hs' B0 C0
  go_enter Try.func38, Try.ntmps38
  go_wp2_with (go_at_call 11; refine he.mono ?_; rintro e w2 ⟨rfl, q2, rfl⟩)
  go_ret
  exact ⟨rfl, below_drewN hb0 _⟩
set_option maxHeartbeats 1000000 in
theorem l_eqShareS (A A' : Option Addr) (n c c' base base' : Nat) (vs vs' : List Value) (cs : List Int) (ts : List (List Int)) (w : World) (hn : n = ts.length) (hcs : cs.length = n) (hl : n ≤ 1000) (hrl : ∀ k, k < n → (gl ts k).length ≤ 6)
    (ho : w.ownsRow base 60 2 (.slice A n c) n (shC vs cs)) (hr : RowsO w base vs ts) (ho' : w.ownsRow base' 60 2 (.slice A' n c') n (shC vs' cs)) (hr' : RowsO w base' vs' ts) :
    Calls Try.prog 19 #[.slice A n c, .slice A' n c'] w (M (.bool true) w) := by
  have HN := Lib.hid hn
  have HC := Lib.hid hcs
  have HR := Lib.hid hrl
  clear hn hrl hcs
  go_enter Try.func19, Try.ntmps19
  go_wp2_with (fail)
  go_loopw [5] (fun u wr => ∃ k : Nat, k ≤ n ∧ u = .int .i64 k ∧ Below w.heap.size w wr) (fun u _ => n - (intOf u).toNat)
  case atStart => exact ⟨0, Nat.zero_le _, rfl, Below.refl _ _⟩
  case round =>
    obtain ⟨ws, rfl⟩ : ∃ ws : World, ws = wr := ⟨_, rfl⟩
    obtain ⟨k, hk, rfl, hb⟩ := hrel
    by_cases hlt : k < n
    · have ow := own_below ho hb
      have rw1 := hr.below hb
      have ow' := own_below ho' hb
      have rw2 := hr'.below hb
      obtain ⟨g, rfl, _⟩ := own_src ow (by omega)
      obtain ⟨g', rfl, _⟩ := own_src ow' (by omega)
      obtain ⟨Ah, ch, e1, e2, _, ih⟩ := sh_cell ow rw1 HN.out HC.out hlt
      obtain ⟨Ah', ch', e1', e2', _, ih'⟩ := sh_cell ow' rw2 HN.out HC.out hlt
      have hrk := HR.out k hlt
      generalize hL : (gl ts k).length = Lh at *
      have HLH := Lib.hid hL.symm
      generalize gt cs k = x at *
      clear hL ow ow' rw1 rw2
      have hz := hb.size
      have hcall := fun q => l_eqShare Ah Ah' Lh ch ch' x (gl ts k) (ws.drewN q) HLH.out (by omega) (ih.drewN q) (ih'.drewN q)
      have hc1 := hcall 1
      clear hcall
      go_wp2_with (fail)
      go_region_law
        (go_simp; first
          | (go_at_call 38; refine hc1.mono ?_; rintro e w2 ⟨rfl, hb2⟩; have hb2 : Below ws.heap.size ws w2 := undrew (n := 1) hb2))
      all_goals
        go_wp2_with (fail)
        go_roundw
        case rel => exact ⟨k + 1, by omega, by go_num, hb.trans (hb2.mono hz)⟩
        case measure => simp [intOf]; omega
    · obtain rfl : k = n := by omega
      go_wp2_with (fail)
      go_ret
      exact ⟨rfl, hb⟩
def oS (k : Nat) (ll : List (List Int)) (j : Nat) : Nat := k + tot ll j + j
/-- The rows and counts as they are when the first i shares are marked. -/
def cuS (k : Nat) (ll : List (List Int)) (i : Nat) : List (List Int) := (List.range ll.length).map fun j => if j < i then marks (oS k ll j) (gl ll j).length else gl ll j
def ccS (k : Nat) (ll : List (List Int)) (cs : List Int) (i : Nat) : List Int := (List.range cs.length).map fun j => if j < i then ((oS k ll j + (gl ll j).length : Nat) : Int) else gt cs j
theorem cuS_len (k : Nat) (ll : List (List Int)) (i : Nat) : (cuS k ll i).length = ll.length := by simp [cuS]
theorem ccS_len (k : Nat) (ll : List (List Int)) (cs : List Int) (i : Nat) : (ccS k ll cs i).length = cs.length := by simp [ccS]
theorem cuS_at {k : Nat} {ll : List (List Int)} {i j : Nat} (h : j < ll.length) : gl (cuS k ll i) j = if j < i then marks (oS k ll j) (gl ll j).length else gl ll j := by
  unfold cuS
  simp [gl, h]
theorem ccS_at {k : Nat} {ll : List (List Int)} {cs : List Int} {i j : Nat} (h : j < cs.length) : gt (ccS k ll cs i) j = if j < i then ((oS k ll j + (gl ll j).length : Nat) : Int) else gt cs j := by
  unfold ccS
  simp [gt, h]
theorem cuS_zero (k : Nat) (ll : List (List Int)) : cuS k ll 0 = ll := by
  apply List.ext_getElem (by rw [cuS_len])
  intro i h1 h2
  rw [gl_eq, gl_eq, cuS_at h2, if_neg (by omega)]
theorem ccS_zero (k : Nat) (ll : List (List Int)) (cs : List Int) : ccS k ll cs 0 = cs := by
  refine list_ext_gt (ccS_len _ _ _ _) fun j hj => ?_
  rw [ccS_len] at hj
  rw [ccS_at hj, if_neg (by omega)]
theorem ccS_set {k : Nat} {ll : List (List Int)} {cs : List Int} {i : Nat} (h : i < cs.length) : (ccS k ll cs i).set i ((oS k ll i + (gl ll i).length : Nat) : Int) = ccS k ll cs (i + 1) := by
  refine list_ext_gt (by rw [List.length_set, ccS_len, ccS_len]) fun j hj => ?_
  rw [List.length_set, ccS_len] at hj
  rw [gt_set (by rw [ccS_len]; exact h), ccS_at hj, ccS_at hj]
  by_cases e : j = i
  · subst e
    rw [if_pos rfl, if_pos (by omega)]
  · rw [if_neg e]
    by_cases h2 : j < i
    · rw [if_pos h2, if_pos (by omega)]
    · rw [if_neg h2, if_neg (by omega)]
theorem rows_markS {w w' : World} {base k i : Nat} {vs : List Value} {ll : List (List Int)} (hr : RowsO w base vs (cuS k ll i)) (hi : i < ll.length) (hm : OwnI w' base (gv vs i) (marks (oS k ll i) (gl ll i).length)) (hg : w.grownBy w' (gv vs i).ownBlock) : RowsO w' base vs (cuS k ll (i + 1)) := by
  obtain ⟨h1, h2, h3⟩ := hr
  rw [cuS_len] at h1
  refine ⟨by rw [cuS_len]; exact h1, fun j hj => ?_, h3⟩
  rw [cuS_at (by omega)]
  by_cases hij : j = i
  · subst hij
    rw [if_pos (by omega)]
    exact hm
  · have h4 := h2 j hj
    rw [cuS_at (by omega)] at h4
    have e : (if j < i + 1 then marks (oS k ll j) (gl ll j).length else gl ll j) = (if j < i then marks (oS k ll j) (gl ll j).length else gl ll j) := by
      by_cases hlt : j < i
      · rw [if_pos hlt, if_pos (by omega)]
      · rw [if_neg hlt, if_neg (by omega)]
    rw [e]
    refine World.ownsRow.kept h4 hg ?_
    cases hb : (gv vs j).ownBlock with
    | none => exact .inl rfl
    | some g =>
      right
      intro e2
      rcases Nat.lt_or_ge j i with hlt | hge
      · rcases h3 j i hlt (by omega) with h | h
        · rw [hb] at h; cases h
        · exact h (hb.trans e2)
      · rcases h3 i j (by omega) hj with h | h
        · rw [h] at e2; cases e2
        · exact h (e2.symm.trans hb.symm)
theorem oS_succ {k : Nat} {ll : List (List Int)} {i : Nat} (h : i < ll.length) : oS k ll (i + 1) = oS k ll i + (gl ll i).length + 1 := by
  unfold oS
  rw [tot_succ h]
  omega
theorem oS_bd {k n : Nat} {ll : List (List Int)} (hn : n = ll.length) (h6 : ∀ j, j < n → (gl ll j).length ≤ 6) : ∀ i, i ≤ n → oS k ll i ≤ k + 7 * i := by
  intro i hi
  induction i with
  | zero => unfold oS; rw [tot_zero]; omega
  | succ i ih =>
    rw [oS_succ (by omega)]
    have := ih (by omega)
    have := h6 i (by omega)
    omega
/-- The blocks of a list of shares. -/
def SB (vs : List Value) (A : Option Addr) (b : Nat) : Prop := RB vs b ∨ ∃ o s, A = some ⟨b, o, s⟩
set_option maxHeartbeats 2000000 in
theorem l_markShareS (A : Option Addr) (n c k base : Nat) (vs : List Value) (cs : List Int) (ll : List (List Int)) (w : World) (hn : n = ll.length) (hcs : cs.length = n) (hl : n ≤ 1000) (hrl : ∀ j, j < n → (gl ll j).length ≤ 6) (hk : k ≤ 1000)
    (ho : w.ownsRow base 60 2 (.slice A n c) n (shC vs cs)) (hr : RowsO w base vs ll) :
    Calls Try.prog 22 #[.slice A n c, .int .i64 k] w (fun e w' => e = .returned (.int .i64 ((oS k ll n : Nat) : Int)) ∧ w'.ownsRow base 60 2 (.slice A n c) n (shC vs (ccS k ll cs n)) ∧ RowsO w' base vs (cuS k ll n) ∧ KB (SB vs A) w w') := by
  have HN := Lib.hid hn
  have HC := Lib.hid hcs
  have HR := Lib.hid hrl
  have HB := Lib.hid (oS_bd (k := k) hn hrl)
  have HVL := Lib.hid (show vs.length = n from hr.1.trans hn.symm)
  have h0 : ((k : Nat) : Int) = ((oS k ll 0 : Nat) : Int) := by unfold oS; rw [tot_zero]; rfl
  have HZ1 := Lib.hid (cuS_zero k ll)
  have HZ2 := Lib.hid (ccS_zero k ll cs)
  rw [h0]
  clear hn hrl hcs h0
  go_enter Try.func22, Try.ntmps22
  go_wp2_with (fail)
  go_loopw [1, 5] (fun u1 u5 wr => ∃ i : Nat, i ≤ n ∧ u5 = .int .i64 i ∧ u1 = .int .i64 ((oS k ll i : Nat) : Int) ∧ Hid (wr.ownsRow base 60 2 (.slice A n c) n (shC vs (ccS k ll cs i))) ∧ Hid (RowsO wr base vs (cuS k ll i)) ∧ KB (SB vs A) w wr) (fun _ u5 _ => n - (intOf u5).toNat)
  case atStart => exact ⟨0, Nat.zero_le _, rfl, rfl, by rw [HZ2.out]; exact ho, by rw [HZ1.out]; exact hr, KB.refl _ _⟩
  case round =>
    clear ho hr
    obtain ⟨ws, rfl⟩ : ∃ ws : World, ws = wr := ⟨_, rfl⟩
    obtain ⟨i, hi, rfl, rfl, HO, HRW, hkb⟩ := hrel
    by_cases hlt : i < n
    · obtain ⟨g, rfl, _⟩ := own_src HO.out (by omega)
      have hil : i < ll.length := by rw [← HN.out]; exact hlt
      have hiv : i < vs.length := by rw [HVL.out]; exact hlt
      obtain ⟨Ah, ch, e1, e2, hgv, ih⟩ := sh_cell HO.out HRW.out (by rw [cuS_len]; exact HN.out) (by rw [ccS_len]; exact HC.out) hlt
      have hrow := HRW.out.2.1 i hiv
      rw [cuS_at hil, if_neg (by omega)] at e1 hrow
      have HRM := fun W => Lib.hid (fun (a : OwnI W base (gv vs i) (marks (oS k ll i) (gl ll i).length)) (b : ws.grownBy W (gv vs i).ownBlock) => rows_markS HRW.out hil a b)
      have HRB := Lib.hid (fun (b : Nat) (h : (gv vs i).ownBlock = some b) => (Or.inl ⟨i, hiv, h⟩ : SB vs (some ⟨g, 0, none⟩) b))
      have HOK := fun W => Lib.hid (fun (b : ws.grownBy W (gv vs i).ownBlock) => World.ownsRow.kept HO.out b (own_ne HO.out hrow (by decide)))
      have HSU := Lib.hid (oS_succ (k := k) hil)
      have hbt := HB.out i (by omega)
      have hb6 := HR.out i hlt
      have HSET := Lib.hid (ccS_set (k := k) (ll := ll) (cs := cs) (i := i) (by rw [HC.out]; exact hlt))
      rw [cuS_at hil, if_neg (by omega)] at hgv
      rw [hgv] at hrow HRM HRB HOK
      unfold OwnI at hrow HRM
      generalize hX : (gl ll i).length = X at *
      have HX := Lib.hid hX
      rw [marks_length] at HRM
      have hmk := l_markInt64S Ah X ch (oS k ll i) base (gl ll i) ws HX.out.symm (by omega) (by omega) hrow
      generalize oS k ll i = y at *
      have hwy : IntKind.i64.wrap ((y : Int) + (X : Int) + 1) = (y : Int) + (X : Int) + 1 := IntWalk.i64_in _ (by omega)
      have hyx : (((y + X : Nat)) : Int) = (y : Int) + (X : Int) := by omega
      have HPUT := Lib.hid (fun (w2 : World) (o2 : w2.ownsRow base 60 2 (.slice (some ⟨g, 0, none⟩) n c) n (shC vs (ccS k ll cs i))) (r2 : RowsO w2 base vs (cuS k ll (i + 1))) => sh_put o2 r2 (by rw [cuS_len]; exact HN.out) (by rw [ccS_len]; exact HC.out) hlt (((y + X : Nat)) : Int))
      rw [HSET.out, hyx] at HPUT
      have HCEL := Lib.hid (fun (w2 : World) (o2 : w2.ownsRow base 60 2 (.slice (some ⟨g, 0, none⟩) n c) n (shC vs (ccS k ll cs i))) (r2 : RowsO w2 base vs (cuS k ll (i + 1))) => (show ∃ z, w2.cell? ⟨g, i * 2 + 1, none⟩ = some z from by
        obtain ⟨_, _, _, c2, _⟩ := sh_cell o2 r2 (by rw [cuS_len]; exact HN.out) (by rw [ccS_len]; exact HC.out) hlt
        exact ⟨_, c2⟩))
      have HG := Lib.hid (show SB vs (some ⟨g, 0, none⟩) g from .inr ⟨0, none, rfl⟩)
      clear hX hgv hrow ih hyx
      go_wp2_with (go_at_call 12; refine hmk.mono ?_; rintro e w2 ⟨rfl, hm2, hg2⟩; have o2 := (HOK _).out hg2; have r2 := (HRM _).out hm2 hg2; have f2 := o2.frozenAt (i * 2 + 1); obtain ⟨z2, c2⟩ := HCEL.out _ o2 r2; obtain ⟨t1, t2, t3⟩ := HPUT.out _ o2 r2; have T1 := Lib.hid t1; have T2 := Lib.hid t2; have hk2 := (hkb.grown hg2 HRB.out).grown t3 (fun x hx => by injection hx with hx; subst hx; exact HG.out); clear t1 t2 t3 o2 r2 hm2)
      go_roundw
      case rel => exact ⟨i + 1, by omega, by go_num, by rw [HSU.out]; go_num, T1.out, T2.out, hk2⟩
      case measure => simp [intOf]; omega
    · obtain rfl : i = n := by omega
      go_wp2_with (fail)
      go_ret
      exact ⟨rfl, HO.out, HRW.out, hkb⟩
set_option maxHeartbeats 2000000 in
theorem l_heldShareS (A : Option Addr) (n c k base : Nat) (vs : List Value) (cs : List Int) (ll : List (List Int)) (w : World) (hn : n = ll.length) (hcs : cs.length = n) (hl : n ≤ 1000) (hrl : ∀ j, j < n → (gl ll j).length ≤ 6) (hk : k ≤ 1000)
    (ho : w.ownsRow base 60 2 (.slice A n c) n (shC vs (ccS k ll cs n))) (hr : RowsO w base vs (cuS k ll n)) :
    Calls Try.prog 23 #[.slice A n c, .int .i64 k] w (Q (.int .i64 ((oS k ll n : Nat) : Int)) w) := by
  have HN := Lib.hid hn
  have HC := Lib.hid hcs
  have HR := Lib.hid hrl
  have HB := Lib.hid (oS_bd (k := k) hn hrl)
  have h0 : ((k : Nat) : Int) = ((oS k ll 0 : Nat) : Int) := by unfold oS; rw [tot_zero]; rfl
  rw [h0]
  clear hn hrl hcs h0
  go_enter Try.func23, Try.ntmps23
  go_wp2_with (fail)
  go_loopw [1, 5] (fun u1 u5 wr => ∃ i : Nat, i ≤ n ∧ u5 = .int .i64 i ∧ u1 = .int .i64 ((oS k ll i : Nat) : Int) ∧ DR w wr) (fun _ u5 _ => n - (intOf u5).toNat)
  case atStart => exact ⟨0, Nat.zero_le _, rfl, rfl, DR.refl _⟩
  case round =>
    obtain ⟨ws, rfl⟩ : ∃ ws : World, ws = wr := ⟨_, rfl⟩
    obtain ⟨i, hi, rfl, rfl, hdr⟩ := hrel
    by_cases hlt : i < n
    · have how : ws.ownsRow base 60 2 (.slice A n c) n (shC vs (ccS k ll cs n)) := by obtain ⟨q, rfl⟩ := hdr; exact ho
      have hrw : RowsO ws base vs (cuS k ll n) := by obtain ⟨q, rfl⟩ := hdr; exact hr.drewN q
      obtain ⟨g, rfl, _⟩ := own_src how (by omega)
      have hil : i < ll.length := by rw [← HN.out]; exact hlt
      obtain ⟨Ah, ch, e1, e2, _, ih⟩ := sh_cell how hrw (by rw [cuS_len]; exact HN.out) (by rw [ccS_len]; exact HC.out) hlt
      rw [cuS_at hil, if_pos hlt] at e1 ih
      rw [marks_length] at e1
      rw [ccS_at (by rw [HC.out]; exact hlt), if_pos hlt] at e2
      have HSU := Lib.hid (oS_succ (k := k) hil)
      have hbt := HB.out i (by omega)
      have hb6 := HR.out i hlt
      generalize (gl ll i).length = X at *
      generalize oS k ll i = y at *
      have hyx : (((y + X : Nat)) : Int) = (y : Int) + (X : Int) := by omega
      have hhd := l_heldInt64S Ah X ch y ws.heap.size ws (by omega) (by omega) ih
      rw [hyx] at hhd e2
      have hpos : ¬ ((y : Int) + X < 0) := by omega
      have hwy : IntKind.i64.wrap ((y : Int) + (X : Int) + 1) = (y : Int) + (X : Int) + 1 := IntWalk.i64_in _ (by omega)
      clear ih how hrw hyx
      go_wp2_with (go_at_call 39; refine hhd.mono ?_; rintro e w2 ⟨rfl, nq, rfl⟩)
      go_roundw
      case rel => exact ⟨i + 1, by omega, by go_num, by rw [HSU.out]; go_num, by repeat (first | exact hdr | refine DR.step ?_ _)⟩
      case measure => simp [intOf]; omega
    · obtain rfl : i = n := by omega
      go_wp2_with (fail)
      go_ret
      exact ⟨rfl, hdr⟩
/-- Shares whose blocks lie from lo up to hi. -/
structure TS (w : World) (lo hi : Nat) (A : Option Addr) (m c : Nat) (vs : List Value) (cs : List Int) (ts : List (List Int)) : Prop where
  own : w.ownsRow lo 60 2 (.slice A m c) m (shC vs cs)
  rows : RowsO w lo vs ts
  b1 : ∀ g, (Value.slice A m c).ownBlock = some g → g < hi
  b2 : ∀ i g, i < vs.length → (gv vs i).ownBlock = some g → g < hi
section
variable {w w' : World} {lo hi m c : Nat} {A : Option Addr} {vs : List Value} {cs : List Int} {ts : List (List Int)}
theorem TS.mk' (h1 : w.ownsRow lo 60 2 (.slice A m c) m (shC vs cs)) (h2 : RowsO w lo vs ts) : TS w lo w.heap.size A m c vs cs ts :=
  ⟨h1, h2, fun g hg => (h1.lt g hg).2, fun i g hi hg => (World.ownsRow.lt (h2.2.1 i hi) g hg).2⟩
theorem TS.below (h : TS w lo hi A m c vs cs ts) (hb : Below w.heap.size w w') : TS w' lo hi A m c vs cs ts := ⟨own_below h.own hb, h.rows.below hb, h.b1, h.b2⟩
theorem TS.dr (h : TS w lo hi A m c vs cs ts) (n : Nat) : TS (w.drewN n) lo hi A m c vs cs ts := ⟨own_dr h.own n, h.rows.drewN n, h.b1, h.b2⟩
theorem TS.grown {row : Option Nat} (h : TS w lo hi A m c vs cs ts) (hg : w.grownBy w' row) (hr : ∀ g, row = some g → g < lo ∨ hi ≤ g) : TS w' lo hi A m c vs cs ts := by
  refine ⟨h.own.kept hg ?_, h.rows.kept hg fun i hi' => ?_, h.b1, h.b2⟩
  · cases hb : (Value.slice A m c).ownBlock with
    | none => exact .inl rfl
    | some g => exact .inr fun e => by have h1 := h.own.lt g hb; have h2 := h.b1 g hb; have := hr g e.symm; omega
  · cases hb : (gv vs i).ownBlock with
    | none => exact .inl rfl
    | some g => exact .inr fun e => by have h1 := World.ownsRow.lt (h.rows.2.1 i hi') g hb; have h2 := h.b2 i g hi' hb; have := hr g e.symm; omega
theorem TS.kb {S : Nat → Prop} (h : TS w lo hi A m c vs cs ts) (hk : KB S w w') (hr : ∀ g, S g → g < lo ∨ hi ≤ g) : TS w' lo hi A m c vs cs ts :=
  ⟨hk.own h.own (fun g hg hS => by have h1 := h.own.lt g hg; have h2 := h.b1 g hg; have := hr g hS; omega), hk.rows h.rows (fun i g hi' hg hS => by have h1 := World.ownsRow.lt (h.rows.2.1 i hi') g hg; have h2 := h.b2 i g hi' hg; have := hr g hS; omega), h.b1, h.b2⟩
theorem TS.sb (h : TS w lo hi A m c vs cs ts) : ∀ g, SB vs A g → lo ≤ g ∧ g < hi := fun g hg => by
  rcases hg with ⟨i, hi', hg⟩ | ⟨o, s, rfl⟩
  · exact ⟨(World.ownsRow.lt (h.rows.2.1 i hi') g hg).1, h.b2 i g hi' hg⟩
  · exact ⟨(h.own.lt g rfl).1, h.b1 g rfl⟩
end
set_option maxRecDepth 20000 in
set_option maxHeartbeats 8000000 in
theorem law_SharesOf (p : Int) (A : Option Addr) (n c : Nat) (l : List Int) (w : World) (hn : n = l.length) (hc : n ≤ c) (hm : c ≤ maxLen) (hs : IS w w.heap.size A l) :
    Calls Try.prog 4 #[.agg #[.int .i64 p, .slice A n c]] w (M (.bool true) w) := by
  have HN := Lib.hid hn
  clear hn
  have B0 := BK.new w 33 #[.int .i64 p, .slice A n c]
  obtain ⟨c0, c1, _, _⟩ := B0.two
  have hb0 := (Below.refl w.heap.size w).alloc (Nat.le_refl _) (.cells #[.int .i64 p, .slice A n c] 33)
  have hs0 := hs.call hb0
  by_cases hbig : 1048576 < n
  · go_enter Try.func4, Try.ntmps4
    go_wp2_with (go_at_call 15; refine (l_szGNo p A n c _ (by omega) hbig).mono ?_; rintro e w1 ⟨rfl, hb1⟩)
    go_ret
    exact ⟨rfl, bel_call hb0 hb1⟩
  have hl : n ≤ 1048576 := by omega
  have hn0 : ¬ (1048576 : Int) - n < 0 := by omega
  have hB0 := fun W (h : Below (w.alloc (.cells #[.int .i64 p, .slice A n c] 33)).heap.size (w.alloc (.cells #[.int .i64 p, .slice A n c] 33)) W) => (B0.below h (by simp)).two
  have hS0 := fun W (h : Below (w.alloc (.cells #[.int .i64 p, .slice A n c] 33)).heap.size (w.alloc (.cells #[.int .i64 p, .slice A n c] 33)) W) => IS.call hs0 h
  have hbw := fun W (h : Below (w.alloc (.cells #[.int .i64 p, .slice A n c] 33)).heap.size (w.alloc (.cells #[.int .i64 p, .slice A n c] 33)) W) => bel_call hb0 h
  have hsz := fun W => l_szGYes p A n c W hl
  have hto := fun W h => l_toGroup p A n c l W HN.out hl h
  have h1 := fun A2 W h => s_SharesOf p A2 n n l W HN.out hl h
  have h2 := fun A2 W h => i_SharesOf p A2 n n l W HN.out hl h
  unfold SHS at h1 h2
  have hIS := fun (W : World) B A2 (h : W.ownsRow B 2 1 (.slice A2 n n) n (ints l)) => own_isn h HN.out
  have hsm := shT_small p l
  have hkl := shKs_len p l
  have ht' : ((mvC p l) != (mvC p l)) = false := by simp
  generalize shT p l = ts at *
  generalize shKs p l = cs at *
  generalize mvC p l = code at *
  generalize hmm : ts.length = m at *
  have HM := Lib.hid hmm.symm
  have HSM := Lib.hid hsm.2
  have HKL := Lib.hid hkl
  have hm7 : m ≤ 1000 := by omega
  have heq := fun A2 A3 c2 c3 b2 b3 v2 v3 W h h' k k' => l_eqShareS A2 A3 m c2 c3 b2 b3 v2 v3 cs ts W HM.out HKL.out hm7 HSM.out h h' k k'
  have hmk := fun A2 c2 b2 v2 W h h' => l_markShareS A2 m c2 1 b2 v2 cs ts W HM.out HKL.out hm7 HSM.out (by omega) h h'
  have hhd := fun A2 c2 b2 v2 W h h' => l_heldShareS A2 m c2 1 b2 v2 cs ts W HM.out HKL.out hm7 HSM.out (by omega) h h'
  have hob := oS_bd (k := 1) HM.out HSM.out m (Nat.le_refl _)
  generalize oS 1 ts m = y at *
  clear hsm hkl hmm hs hs0 B0
  have hk0 : ¬ (1 : Int) + n < 0 := by omega
  have hy0 : ¬ (y : Int) < 0 := by omega
  go_enter Try.func4, Try.ntmps4
  go_wp2_with (go_at_call 15; refine (hsz _).mono ?_; rintro e w2 ⟨rfl, hb2⟩; obtain ⟨d0, d1, _, _⟩ := hB0 _ hb2)
  clear c0 c1 hsz
  refine (hto _ (hS0 _ hb2)).mono ?_
  rintro e w3 ⟨g3, rfl, o3, hb3⟩
  generalize w.alloc (.cells #[.int .i64 p, .slice A n c] 33) = w1 at *
  have b3 := bel_call hb2 hb3
  clear hb2 hb3 d0 d1
  go_wp2_with (fail)
  refine (h1 _ _ (hIS _ _ _ o3)).mono ?_
  rintro e w4 ⟨A0, c4, vs0, rfl, o0, r0, hb4⟩
  have T0 := TS.mk' o0 r0
  have b4 := bel_call b3 hb4
  have z4 := hb4.size
  have b4z := b4.size
  clear o0 r0 o3 b3 hb4
  obtain ⟨d0, d1, _, _⟩ := hB0 _ b4
  go_wp2_with (fail)
  refine (hto _ (hS0 _ b4)).mono ?_
  rintro e w5 ⟨g5, rfl, o5, hb5⟩
  have b5 := bel_call b4 hb5
  have T0 := T0.below hb5
  have z5 := hb5.size
  have hg5 := o5.lt g5 rfl
  clear d0 d1 hb5
  go_wp2_with (fail)
  have bx : Below w5.heap.size w5 (w5.alloc (.cells #[.int .i64 p, .slice (some ⟨g5, 0, none⟩) n n] 38)) := (Below.refl _ _).alloc (Nat.le_refl _) _
  have o6 := own_below o5 bx
  refine (h2 _ _ (hIS _ _ _ o6)).mono ?_
  rintro e w7 ⟨A1, c7, vs1, rfl, o1, r1, hb7⟩
  have BX := (BK.new w5 38 #[.int .i64 p, .slice (some ⟨g5, 0, none⟩) n n]).below hb7 (by simp)
  have o7 := own_below o6 hb7
  have b7 := bel_call (bel_call b5 bx) hb7
  have T0 := (T0.below bx).below hb7
  have T1 := TS.mk' o1 r1
  have z7 := hb7.size
  rw [World.size_alloc] at z7 T1
  clear o1 r1 bx o5 o6 hb7 b4 b5
  go_wp2_with (fail)
  refine (heq A1 A0 c7 c4 _ _ vs1 vs0 w7 T1.own T1.rows T0.own T0.rows).mono ?_
  rintro e w8 ⟨rfl, hb8⟩
  have T0 := T0.below hb8
  have T1 := T1.below hb8
  have b8 := bel_call b7 hb8
  have BX8 := BX.below hb8 BX.lt
  have o8 := own_below o7 hb8
  have hs8 := hS0 _ b8
  obtain ⟨d0, d1, _, _⟩ := hB0 _ b8
  obtain ⟨x0, x1, _, _⟩ := BX8.two
  have htoR := hto w8.drew hs8
  clear BX o7 b7 hb8
  go_wp2_with (fail)
  go_region_law
    (go_simp; first
      | (go_at_call 17; refine htoR.mono ?_; rintro e w9 ⟨g9, rfl, o9, hb9⟩; have hb9 : Below w8.heap.size w8 w9 := undrew (n := 1) hb9; have BX9 := BX8.below hb9 BX8.lt; obtain ⟨y0, y1, _, _⟩ := BX9.two; have o79 := own_below o8 hb9)
      | (go_at_call 20; refine (l_eqGroup p _ _ n n n l _ _ _ HN.out hl (Nat.le_refl _) (Nat.le_refl _) (hIS _ _ _ o79) (hIS _ _ _ o9)).mono ?_; rintro e w10 ⟨rfl, hb10⟩; have BX10 := BX9.below hb10 BX9.lt; obtain ⟨v0, v1, _, _⟩ := BX10.two; have o710 := own_below o79 hb10))
  all_goals
    have b10 := bel_call (bel_call b8 hb9) hb10
    have T0 := (T0.below hb9).below hb10
    have T1 := (T1.below hb9).below hb10
    clear x0 x1 d0 d1 y0 y1 o8 o9 o79 hs8 htoR BX8 BX9
    go_wp2_with (fail)
    refine (l_markGroup p _ n n _ l _ HN.out hl o710).mono ?_
    rintro e w11 ⟨rfl, _, g11⟩
    have T0 := T0.grown g11 (fun g hg => by simp [Value.ownBlock] at hg; omega)
    have T1 := T1.grown g11 (fun g hg => by simp [Value.ownBlock] at hg; omega)
    have z4' : w1.heap.size ≤ w4.heap.size := by have := b4z; omega
    have b11 := b10.grown g11 b10.size (fun g hg => by simp [Value.ownBlock] at hg; omega)
    clear v0 v1 BX10 o710 g11 hb9 hb10 b10
    go_wp2_with (fail)
    refine (heq A1 A0 c7 c4 _ _ vs1 vs0 w11 T1.own T1.rows T0.own T0.rows).mono ?_
    rintro e w12 ⟨rfl, hb12⟩
    have T0 := T0.below hb12
    have T1 := T1.below hb12
    have b12 := bel_call b11 hb12
    clear b11 hb12
    go_wp2_with (fail)
    refine (hmk A1 c7 _ vs1 w12 T1.own T1.rows).mono ?_
    rintro e w13 ⟨rfl, o13, r13, k13⟩
    have hrb := T1.sb
    have T0 := T0.kb k13 (fun g hg => by have := hrb g hg; omega)
    have b13 := below_of_kb b12 k13 (fun g hg => by have := hrb g hg; omega) b12.size
    have T1 : TS w13 _ _ A1 m c7 vs1 (ccS 1 ts cs m) (cuS 1 ts m) := ⟨o13, r13, T1.b1, T1.b2⟩
    clear o13 r13 k13 b12 hrb
    go_wp2_with (fail)
    refine (hhd A1 c7 _ vs1 w13 T1.own T1.rows).mono ?_
    rintro e w14 ⟨rfl, q14, rfl⟩
    obtain ⟨d0, d1, _, _⟩ := hB0 _ b13
    go_wp2_with (fail)
    refine (hto (w13.drewN q14) (hS0 _ (below_drewN b13 q14))).mono ?_
    rintro e w15 ⟨g15, rfl, o15, hb15⟩
    have hb15 := undrew hb15
    have b15 := bel_call b13 hb15
    have T0 := T0.below hb15
    have T1 := T1.below hb15
    go_wp2_with (fail)
    refine (h2 _ _ (hIS _ _ _ o15)).mono ?_
    rintro e w16 ⟨A2, c16, vs2, rfl, o2, r2, hb16⟩
    have T2 := TS.mk' o2 r2
    have b16 := bel_call b15 hb16
    have T0 := T0.below hb16
    have T1 := T1.below hb16
    clear o2 r2 b13 b15 hb15 hb16 d0 d1
    go_wp2_with (fail)
    refine (heq A2 A0 c16 c4 _ _ vs2 vs0 w16 T2.own T2.rows T0.own T0.rows).mono ?_
    rintro e w17 ⟨rfl, hb17⟩
    have T1 := T1.below hb17
    have b17 := bel_call b16 hb17
    go_wp2_with (fail)
    refine (hhd A1 c7 _ vs1 w17 T1.own T1.rows).mono ?_
    rintro e w18 ⟨rfl, q18, rfl⟩
    go_wp2_with (fail)
    go_ret
    exact ⟨rfl, below_drewN (hbw _ b17) _⟩
end Go.Proofs.Ytglijcdnnaekkaa
