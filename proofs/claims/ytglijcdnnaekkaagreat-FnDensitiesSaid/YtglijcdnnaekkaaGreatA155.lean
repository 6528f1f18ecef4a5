/- Several parts of the proof in one text; each part says what it shows. Nothing is assumed. -/
import Derived.Test.YtglijcdnnaekkaaGreatA74
import Derived.Test.YtglijcdnnaekkaaGreatA20
import Derived.Deep.Matrix
/- Tables of int64 ([][]int64) that a law opens, sizes, copies, compares, marks. -/
namespace Go.Proofs.YtglijcdnnaekkaaGreat
set_option linter.unusedVariables false
set_option linter.unusedSimpArgs false
open Go.RowKit Go.ChangeShapes Go.WideShapes Go.ChangeAt

/-- The rows' lengths up to row k, added. -/
def tot (ll : List (List Int)) (k : Nat) : Nat := ((ll.take k).map List.length).sum
theorem tot_zero (ll : List (List Int)) : tot ll 0 = 0 := by simp [tot]
theorem tot_succ {ll : List (List Int)} {k : Nat} (h : k < ll.length) : tot ll (k + 1) = tot ll k + (gl ll k).length := by
  have e : gl ll k = ll[k] := by simp [gl, List.getElem?_eq_getElem h]
  unfold tot
  rw [List.take_succ_eq_append_getElem h, List.map_append, List.sum_append, e]
  simp only [List.map_cons, List.map_nil, List.sum_cons, List.sum_nil]
  omega
theorem tot_le {ll : List (List Int)} : ∀ {n k : Nat}, k ≤ n → n ≤ ll.length → tot ll k ≤ tot ll n := by
  intro n
  induction n with
  | zero =>
    intro k h _
    obtain rfl : k = 0 := by omega
    exact Nat.le_refl _
  | succ n ih =>
    intro k h hn
    rcases Nat.lt_or_ge k (n + 1) with hlt | hge
    · have h1 := ih (show k ≤ n by omega) (by omega)
      have h2 := tot_succ (ll := ll) (k := n) (by omega)
      omega
    · obtain rfl : k = n + 1 := by omega
      exact Nat.le_refl _
theorem row_le_tot {ll : List (List Int)} {n k : Nat} (h : k < n) (hn : n ≤ ll.length) : (gl ll k).length ≤ tot ll n := by
  have h1 := tot_le (ll := ll) (show k + 1 ≤ n by omega) hn
  have h2 := tot_succ (ll := ll) (k := k) (by omega)
  omega
theorem open_iss {H : Type} {enc : TypeId × Value → H} {P : Program} {w : World} {B : Nat} {t e q : TypeId} {v : Value} {d : DataW H} {p : List MemPlace} (ht : P.underlying t = some (.slice e)) (he : P.underlying e = some (.slice q)) (hq : P.underlying q = some (.int .i64)) (ce : P.cellsOf e = 1) (cq : P.cellsOf q = 1)
    (hv : Value.okWide P w .any B t v) (h : DataW.Trod enc P w 0 (fun _ => true) true t v d p) (hlt : ∀ x ∈ p, x.block < w.heap.size) :
    ∃ A n c ll, v = .slice A n c ∧ n = ll.length ∧ n ≤ c ∧ c ≤ maxLen ∧ (∀ k, k < n → R64 (gl ll k) ∧ (gl ll k).length ≤ maxLen) ∧ II w w.heap.size A ll := by
  obtain ⟨A, n, c, rfl⟩ := okWide_slice ht hv
  obtain ⟨fuel, hf⟩ := h
  rcases Go.Deep.open_int_rows ht he hq ce cq hf with ⟨hcs, hx⟩ | ⟨a, len', cap', Ar, L, C, Z, hcs, _, hl, hm, hx, hrow⟩
  · simp [Value.cells] at hcs
    obtain ⟨rfl, rfl, rfl⟩ := hcs
    exact ⟨none, 0, 0, [], rfl, rfl, Nat.le_refl _, by simp [maxLen], fun k hk => by omega, fun h => by simp at h⟩
  · simp [Value.cells] at hcs
    obtain ⟨rfl, rfl, rfl⟩ := hcs
    simp only [Prod.mk.injEq] at hx
    have hgl : ∀ k, k < n → gl ((List.range n).map fun r => (Z r).take (L r)) k = (Z k).take (L k) := fun k hk => by simp [gl, hk]
    have hgn : ∀ k, k < n → ((Z k).take (L k)).length = L k := fun k hk => by
      obtain ⟨_, h2, _, h4, _⟩ := hrow k (by omega)
      rw [List.length_take, h4]; omega
    refine ⟨some a, n, c, (List.range n).map fun r => (Z r).take (L r), rfl, by simp, hl, hm, fun k hk => ?_, fun h => ?_⟩
    · rw [hgl k hk, hgn k hk]
      obtain ⟨_, h2, h3, h4, h5, _⟩ := hrow k (by omega)
      exact ⟨fun x hx => wf64 (h5 x (List.mem_of_mem_take hx)), by omega⟩
    · simp at h
      obtain ⟨b, off, spot⟩ := a
      have hspot : spot = none := by simpa [Addr.add] using World.cell?_spot (hrow 0 (by omega)).1
      subst hspot
      have hbl : b < w.heap.size := by
        have := hlt (.cell b off) (by rw [hx.2]; exact List.mem_append_left _ (MemPlace.mem_row.2 ⟨0, by omega, by simp⟩))
        exact this
      refine ⟨b, off, rfl, hbl, fun k hk => ?_⟩
      simp at hk
      obtain ⟨h1, h2, h3, h4, h5, h6, h7⟩ := hrow k (by omega)
      rw [hgl k hk, hgn k hk]
      refine ⟨Ar k, C k, by rw [← Go.WideShapes.add_plain]; exact h1, h2, h3, fun h0 => ?_⟩
      rw [hgn k hk] at h0
      cases hA : Ar k with
      | none => have := h6 hA; omega
      | some a' =>
        obtain ⟨_, hc'⟩ := h7 a' hA
        obtain ⟨b', off', spot⟩ := a'
        have hspot : spot = none := by simpa [Addr.add] using World.cell?_spot (hc' 0 (by omega))
        subst hspot
        refine ⟨b', off', rfl, ?_, fun j hj => ?_⟩
        · have := hlt (.cell b' off') (by
            rw [hx.2]
            refine List.mem_append_right _ (List.mem_flatMap.2 ⟨k, List.mem_range.2 (by omega), ?_⟩)
            rw [hA]
            exact MemPlace.mem_row.2 ⟨0, by rw [h4]; omega, by simp⟩)
          exact this
        · rw [hgn k hk] at hj
          have := hc' j (by omega)
          rw [← Go.WideShapes.add_plain, this]
          simp [gt, List.getElem?_take, hj]
theorem l_szYes (A : Option Addr) (n c lf : Nat) (w : World) (hl : lf ≤ 1048576) (hn : n ≤ lf) : Calls Tryz.prog 113 #[.slice A n c, .int .i64 lf] w (Q (.int .i64 ((lf - n : Nat) : Int)) w) := by
  have e : ((lf - n : Nat) : Int) = (lf : Int) - n := by omega
  rw [e]
  clear e
  go_enter Tryz.func113, Tryz.ntmps113
  go_wp2_with (fail)
  go_ret
  exact ⟨rfl, 0, rfl⟩
theorem l_szNo (A : Option Addr) (n c lf : Nat) (w : World) (hl : lf ≤ 1048576) (hm : n ≤ maxLen) (hn : lf < n) : Calls Tryz.prog 113 #[.slice A n c, .int .i64 lf] w (Q (.int .i64 (-1)) w) := by
  unfold maxLen at hm
  go_enter Tryz.func113, Tryz.ntmps113
  go_wp2_with (fail)
  go_ret
  exact ⟨rfl, 0, rfl⟩
def fillS (vs : List Value) (n : Nat) : List Value := vs ++ List.replicate (n - vs.length) (.slice none 0 0)
theorem fillS_set {vs : List Value} {n : Nat} {x : Value} (h : vs.length < n) : (fillS vs n).set vs.length x = fillS (vs ++ [x]) n := by
  unfold fillS
  rw [List.set_append_right _ _ (Nat.le_refl _), Nat.sub_self]
  obtain ⟨m, hm⟩ : ∃ m, n - vs.length = m + 1 := ⟨n - vs.length - 1, by omega⟩
  have h2 : n - (vs ++ [x]).length = m := by simp; omega
  rw [hm, h2, List.replicate_succ, List.set_cons_zero]
  simp
theorem fillS_all {vs : List Value} {n : Nat} (h : vs.length = n) : fillS vs n = vs := by
  unfold fillS; rw [h, Nat.sub_self]; simp
theorem fillS_len {vs : List Value} {n : Nat} (h : vs.length ≤ n) : (fillS vs n).length = n := by
  unfold fillS; simp; omega
/-- The rows all lie in blocks below hi. -/
def Up2 (hi : Nat) (vs : List Value) : Prop := ∀ i g, i < vs.length → (gv vs i).ownBlock = some g → g < hi
theorem made_own (w : World) (n : Nat) (hm : n ≤ maxLen) : (w.alloc (.cells (madeCells #[.slice none 0 0] n) 24)).ownsRow w.heap.size 24 1 (.slice (some ⟨w.heap.size, 0, none⟩) n n) n (fillS [] n) := by
  refine ⟨by simp [fillS], .inr ⟨w.heap.size, n, _, rfl, Nat.le_refl _, BK.new _ _ _, Nat.le_refl _, hm, by simp [size_madeCells], ?_⟩⟩
  apply List.ext_getElem
  · simp [fillS, size_madeCells]
  · intro j a b
    simp [fillS, madeCells, Nat.mod_one]
theorem RowsO.nil (w : World) (base : Nat) : RowsO w base [] [] := ⟨rfl, fun i h => by simp at h, fun i j _ h => by simp at h⟩
theorem gl_take_succ {ll : List (List Int)} {k : Nat} (h : k < ll.length) : ll.take (k + 1) = ll.take k ++ [gl ll k] := by
  rw [List.take_succ_eq_append_getElem h]
  simp [gl, List.getElem?_eq_getElem h]
set_option maxHeartbeats 1000000 in
theorem l_eqInt64SS (A A' : Option Addr) (n c c' : Nat) (ll : List (List Int)) (w : World) (B B' : Nat) (hn : n = ll.length) (hl : n ≤ 1048576) (hrl : ∀ k, k < n → (gl ll k).length ≤ 1048576) (hs : II w B A ll) (hs' : II w B' A' ll) :
    Calls Tryz.prog 52 #[.slice A n c, .slice A' n c'] w (Q (.bool true) w) := by
  have HN := Lib.hid hn
  have HR := Lib.hid hrl
  clear hn hrl
  go_enter Tryz.func52, Tryz.ntmps52
  go_wp2_with (fail)
  go_loopw [5] (fun u wr => ∃ k : Nat, k ≤ n ∧ u = .int .i64 k ∧ DR w wr) (fun u _ => n - (intOf u).toNat)
  case atStart => exact ⟨0, Nat.zero_le _, rfl, DR.refl _⟩
  case round =>
    obtain ⟨k, hk, rfl, hdr⟩ := hrel
    by_cases hlt : k < n
    · obtain ⟨b, off, rfl, hbb, hcell⟩ := hs.at (k := k) (by rw [← HN.out]; exact hlt)
      obtain ⟨b', off', rfl, hbb', hcell'⟩ := hs'.at (k := k) (by rw [← HN.out]; exact hlt)
      obtain ⟨Ar, cr, h1, _, _, i1⟩ := hcell k (by rw [← HN.out]; exact hlt)
      obtain ⟨Ar', cr', h2, _, _, i2⟩ := hcell' k (by rw [← HN.out]; exact hlt)
      have hml := HR.out k hlt
      have h1 := (hdr.cell _).trans h1
      have h2 := (hdr.cell _).trans h2
      have i1 : IS wr B Ar (gl ll k) := by obtain ⟨m, rfl⟩ := hdr; exact i1
      have i2 : IS wr B' Ar' (gl ll k) := by obtain ⟨m, rfl⟩ := hdr; exact i2
      clear hcell hcell'
      generalize hL : (gl ll k).length = L at *
      have HL := Lib.hid hL.symm
      clear hL
      go_wp2_with (go_quiet ((go_at_call 115; exact Calls.quiet_of (l_eqInt64S Ar Ar' L cr L cr' _ _ _ _ HL.out HL.out (by omega) (i1.drewN _) (i2.drewN _)))))
      go_roundw
      case rel => exact ⟨k + 1, by omega, by go_num, by repeat (first | assumption | refine DR.step ?_ _)⟩
      case measure => simp [intOf]; omega
    · obtain rfl : k = n := by omega
      go_wp2_with (fail)
      go_ret
      exact ⟨rfl, hdr⟩
end Go.Proofs.YtglijcdnnaekkaaGreat
/- Tables of int64: marking all rows, and asking whether the marks are held. -/
namespace Go.Proofs.YtglijcdnnaekkaaGreat
set_option linter.unusedVariables false
set_option linter.unusedSimpArgs false
open Go.RowKit

/-- Nothing but the blocks in S has changed. -/
def KB (S : Nat → Prop) (w w' : World) : Prop := w'.os = w.os ∧ w'.tape = w.tape ∧ w'.output = w.output ∧ w.heap.size ≤ w'.heap.size ∧ ∀ b, b < w.heap.size → ¬ S b → w'.heap[b]? = w.heap[b]?
theorem KB.refl (S : Nat → Prop) (w : World) : KB S w w := ⟨rfl, rfl, rfl, Nat.le_refl _, fun _ _ _ => rfl⟩
theorem KB.grown {S : Nat → Prop} {w wr w' : World} {row : Option Nat} (hk : KB S w wr) (hg : wr.grownBy w' row) (hr : ∀ g, row = some g → S g) : KB S w w' := by
  obtain ⟨h1, h2, h3, h4, h5⟩ := hk
  refine ⟨hg.os.trans h1, hg.tape.trans h2, hg.output.trans h3, Nat.le_trans h4 hg.size, fun b hb hn => ?_⟩
  exact (hg.block b (Nat.lt_of_lt_of_le hb h4) (fun e => hn (hr b e.symm))).trans (h5 b hb hn)
theorem KB.below {S : Nat → Prop} {w w' : World} {B : Nat} (hk : KB S w w') (hS : ∀ b, S b → B ≤ b) (hB : B ≤ w.heap.size) : Below B w w' := by
  obtain ⟨h1, h2, h3, h4, h5⟩ := hk
  exact ⟨h1, h2, h3, h4, fun b hb => h5 b (by omega) (fun h => by have := hS b h; omega)⟩
theorem KB.own {S : Nat → Prop} {w w' : World} {base n : Nat} {e : TypeId} {size : Nat} {v : Value} {xs : List Value} (hk : KB S w w') (h : w.ownsRow base e size v n xs) (hne : ∀ g, v.ownBlock = some g → ¬ S g) : w'.ownsRow base e size v n xs := by
  refine ⟨h.1, ?_⟩
  rcases h.2 with h1 | ⟨g, cap, cur, rfl, hg, hh, r⟩
  · exact .inl h1
  · exact .inr ⟨g, cap, cur, rfl, hg, by rw [hk.2.2.2.2 g (h.lt g rfl).2 (hne g rfl)]; exact hh, r⟩
theorem KB.rows {S : Nat → Prop} {w w' : World} {base : Nat} {vs : List Value} {ll : List (List Int)} (hk : KB S w w') (h : RowsO w base vs ll) (hne : ∀ i g, i < vs.length → (gv vs i).ownBlock = some g → ¬ S g) : RowsO w' base vs ll :=
  ⟨h.1, fun i hi => hk.own (h.2.1 i hi) (fun g hg => hne i g hi hg), h.2.2⟩
def RB (vs : List Value) (b : Nat) : Prop := ∃ i, i < vs.length ∧ (gv vs i).ownBlock = some b
/-- The rows as they are when the first i of them are marked, from k on. -/
def curL (k : Nat) (ll : List (List Int)) (i : Nat) : List (List Int) := (List.range ll.length).map fun j => if j < i then marks (k + tot ll j) (gl ll j).length else gl ll j
def mkL (k : Nat) (ll : List (List Int)) : List (List Int) := (List.range ll.length).map fun j => marks (k + tot ll j) (gl ll j).length
theorem curL_len (k : Nat) (ll : List (List Int)) (i : Nat) : (curL k ll i).length = ll.length := by simp [curL]
theorem mkL_len (k : Nat) (ll : List (List Int)) : (mkL k ll).length = ll.length := by simp [mkL]
theorem curL_at {k : Nat} {ll : List (List Int)} {i j : Nat} (h : j < ll.length) : gl (curL k ll i) j = if j < i then marks (k + tot ll j) (gl ll j).length else gl ll j := by
  unfold curL
  simp [gl, h]
theorem mkL_at {k : Nat} {ll : List (List Int)} {j : Nat} (h : j < ll.length) : gl (mkL k ll) j = marks (k + tot ll j) (gl ll j).length := by
  unfold mkL
  simp [gl, h]
theorem gl_eq {ll : List (List Int)} {i : Nat} (h : i < ll.length) : ll[i] = gl ll i := by simp [gl, List.getElem?_eq_getElem h]
theorem curL_zero (k : Nat) (ll : List (List Int)) : curL k ll 0 = ll := by
  apply List.ext_getElem (by rw [curL_len])
  intro i h1 h2
  rw [gl_eq, gl_eq, curL_at h2, if_neg (by omega)]
theorem curL_all (k : Nat) (ll : List (List Int)) : curL k ll ll.length = mkL k ll := by
  apply List.ext_getElem (by rw [curL_len, mkL_len])
  intro i h1 h2
  rw [mkL_len] at h2
  rw [gl_eq, gl_eq, curL_at h2, mkL_at h2, if_pos h2]
theorem rows_mark {w w' : World} {base k i : Nat} {vs : List Value} {ll : List (List Int)} (hr : RowsO w base vs (curL k ll i)) (hi : i < ll.length) (hm : OwnI w' base (gv vs i) (marks (k + tot ll i) (gl ll i).length)) (hg : w.grownBy w' (gv vs i).ownBlock) : RowsO w' base vs (curL k ll (i + 1)) := by
  obtain ⟨h1, h2, h3⟩ := hr
  rw [curL_len] at h1
  refine ⟨by rw [curL_len]; exact h1, fun j hj => ?_, h3⟩
  rw [curL_at (by omega)]
  by_cases hij : j = i
  · subst hij
    rw [if_pos (by omega)]
    exact hm
  · have h4 := h2 j hj
    rw [curL_at (by omega)] at h4
    have e : (if j < i + 1 then marks (k + tot ll j) (gl ll j).length else gl ll j) = (if j < i then marks (k + tot ll j) (gl ll j).length else gl ll j) := by
      by_cases hlt : j < i
      · rw [if_pos hlt, if_pos (by omega)]
      · rw [if_neg hlt, if_neg (by omega)]
    rw [e]
    refine World.ownsRow.kept h4 hg ?_
    cases hb : (gv vs j).ownBlock with
    | none => exact .inl rfl
    | some g =>
      right
      intro e2
      rcases Nat.lt_or_ge j i with hlt | hge
      · rcases h3 j i hlt (by omega) with h | h
        · rw [hb] at h; cases h
        · exact h (hb.trans e2)
      · rcases h3 i j (by omega) hj with h | h
        · rw [h] at e2; cases e2
        · exact h (e2.symm.trans hb.symm)
set_option maxHeartbeats 1000000 in
theorem l_markInt64SS (A : Option Addr) (n c k base : Nat) (vs : List Value) (ll : List (List Int)) (w : World) (hn : n = ll.length) (htot : n + tot ll n ≤ 1048576) (hk : k ≤ 1048576) (ho : w.ownsRow base 24 1 (.slice A n c) n vs) (hr : RowsO w base vs ll) :
    Calls Tryz.prog 55 #[.slice A n c, .int .i64 k] w (fun e w' => e = .returned (.int .i64 (((k + tot ll n : Nat)) : Int)) ∧ w'.ownsRow base 24 1 (.slice A n c) n vs ∧ RowsO w' base vs (mkL k ll) ∧ KB (RB vs) w w') := by
  have hvl : vs.length = n := by have := ho.1; omega
  have HVL := Lib.hid hvl
  have HN := Lib.hid hn
  have HT := Lib.hid htot
  have HC0 := Lib.hid (curL_zero k ll)
  have HT0 := Lib.hid (tot_zero ll)
  have HT1 := Lib.hid (tot_le (ll := ll) (n := n) (Nat.le_of_eq rfl) (Nat.le_of_eq hn))
  have hle : n ≤ 1048576 := by omega
  clear hvl hn htot HT1
  go_enter Tryz.func55, Tryz.ntmps55
  go_wp2_with (fail)
  go_loopw [1, 5] (fun u1 u5 wr => ∃ i t : Nat, i ≤ n ∧ u5 = .int .i64 i ∧ u1 = .int .i64 (((k + t : Nat)) : Int) ∧ Hid (t = tot ll i) ∧ wr.ownsRow base 24 1 (.slice A n c) n vs ∧ RowsO wr base vs (curL k ll i) ∧ KB (RB vs) w wr) (fun _ u5 _ => n - (intOf u5).toNat)
  case atStart => exact ⟨0, 0, Nat.zero_le _, rfl, by simp, by unfold Hid; rw [HT0.out], ho, by rw [HC0.out]; exact hr, KB.refl _ _⟩
  case round =>
    clear ho hr
    obtain ⟨ws, rfl⟩ : ∃ ws : World, ws = wr := ⟨_, rfl⟩
    obtain ⟨i, t, hi, rfl, rfl, HTI, ho, hr, hkb⟩ := hrel
    by_cases hlt : i < n
    · obtain ⟨g, rfl, _, _, hc⟩ := own_src ho (by omega)
      have hrow := hr.2.1 i (by rw [HVL.out]; exact hlt)
      rw [curL_at (by rw [← HN.out]; exact hlt), if_neg (by omega)] at hrow
      have hcell := hc i _ (gv_at (by rw [HVL.out]; exact hlt))
      have HRM := fun W => Lib.hid (fun (a : OwnI W base (gv vs i) (marks (k + tot ll i) (gl ll i).length)) (b : ws.grownBy W (gv vs i).ownBlock) => rows_mark hr (by rw [← HN.out]; exact hlt) a b)
      have HRB := Lib.hid (fun (b : Nat) (h : (gv vs i).ownBlock = some b) => (⟨i, by rw [HVL.out]; exact hlt, h⟩ : RB vs b))
      have HOK := fun W => Lib.hid (fun (b : ws.grownBy W (gv vs i).ownBlock) => World.ownsRow.kept ho b (by
        have := own_ne ho hrow (by decide)
        exact this))
      have HTS := Lib.hid (tot_succ (ll := ll) (k := i) (by rw [← HN.out]; exact hlt))
      have hbt : k + t + (gl ll i).length ≤ 2097152 := by
        have h1 := tot_le (ll := ll) (n := n) (k := i + 1) (by omega) (by rw [HN.out]; exact Nat.le_refl _)
        have h2 := HTS.out; have h3 := HTI.out; have h4 := HT.out
        omega
      have hbx : (gl ll i).length ≤ 1048576 := by
        have h1 := row_le_tot (ll := ll) (n := n) (k := i) hlt (by rw [HN.out]; exact Nat.le_refl _)
        have h4 := HT.out
        omega
      have hti := HTI.out
      rw [← hti] at HRM HTS
      obtain ⟨A', c', hv, _⟩ := own_slice' hrow
      rw [hv] at hrow hcell HRM HRB HOK
      unfold OwnI at hrow HRM
      generalize hxs : gl ll i = xs at *
      generalize hX : xs.length = X at *
      have HX := Lib.hid hX
      rw [marks_length] at HRM
      have hki : (((k + t : Nat)) : Int) = (k : Int) + t := by simp
      have hmk := l_markInt64S A' X c' (k + t) base xs ws HX.out.symm (by omega) (by omega) hrow
      rw [hki] at hmk ⊢
      clear hki hxs hX hv hti hrow hc
      go_wp2_with (go_at_call 116; refine hmk.mono ?_; rintro e w2 ⟨rfl, hm2, hg2⟩)
      go_roundw
      case rel => exact ⟨i + 1, t + X, by omega, by go_num, by rw [show (((k + (t + X) : Nat)) : Int) = (k : Int) + t + X by omega], by unfold Hid; rw [HTS.out], (HOK _).out hg2, (HRM _).out hm2 hg2, hkb.grown hg2 HRB.out⟩
      case measure => simp [intOf]; omega
    · obtain rfl : i = n := by omega
      go_wp2_with (fail)
      go_ret
      refine ⟨by rw [← HTI.out]; simp, ho, ?_, hkb⟩
      rw [HN.out, curL_all] at hr
      exact hr
set_option maxHeartbeats 1000000 in
theorem l_heldInt64SS (A : Option Addr) (n c k B : Nat) (ll : List (List Int)) (w : World) (hn : n = ll.length) (htot : n + tot ll n ≤ 1048576) (hk : k ≤ 1048576) (hs : II w B A (mkL k ll)) :
    Calls Tryz.prog 56 #[.slice A n c, .int .i64 k] w (Q (.int .i64 (((k + tot ll n : Nat)) : Int)) w) := by
  have HN := Lib.hid hn
  have HT := Lib.hid htot
  have HT0 := Lib.hid (tot_zero ll)
  have hle : n ≤ 1048576 := by omega
  clear hn htot
  go_enter Tryz.func56, Tryz.ntmps56
  go_wp2_with (fail)
  go_loopw [1, 5] (fun u1 u5 wr => ∃ i t : Nat, i ≤ n ∧ u5 = .int .i64 i ∧ u1 = .int .i64 (((k + t : Nat)) : Int) ∧ Hid (t = tot ll i) ∧ DR w wr) (fun _ u5 _ => n - (intOf u5).toNat)
  case atStart => exact ⟨0, 0, Nat.zero_le _, rfl, by simp, by unfold Hid; rw [HT0.out], DR.refl _⟩
  case round =>
    obtain ⟨i, t, hi, rfl, rfl, HTI, hdr⟩ := hrel
    by_cases hlt : i < n
    · obtain ⟨b, off, rfl, hbb, hcell⟩ := hs.at (k := i) (by rw [mkL_len, ← HN.out]; exact hlt)
      obtain ⟨A', c', e1, _, _, his⟩ := hcell i (by rw [mkL_len, ← HN.out]; exact hlt)
      have e1 := (hdr.cell ⟨b, off + i, none⟩).trans e1
      rw [mkL_at (by rw [← HN.out]; exact hlt)] at e1 his
      rw [marks_length] at e1
      have his : IS wr B A' (marks (k + tot ll i) (gl ll i).length) := by obtain ⟨m, rfl⟩ := hdr; exact his
      have HTS := Lib.hid (tot_succ (ll := ll) (k := i) (by rw [← HN.out]; exact hlt))
      have hbt : k + t + (gl ll i).length ≤ 2097152 := by
        have h1 := tot_le (ll := ll) (n := n) (k := i + 1) (by omega) (by rw [HN.out]; exact Nat.le_refl _)
        have h2 := HTS.out; have h3 := HTI.out; have h4 := HT.out
        omega
      have hbx : (gl ll i).length ≤ 1048576 := by
        have h1 := row_le_tot (ll := ll) (n := n) (k := i) hlt (by rw [HN.out]; exact Nat.le_refl _)
        have h4 := HT.out
        omega
      have hti := HTI.out
      rw [← hti] at his HTS
      generalize (gl ll i).length = X at *
      have hki : (((k + t : Nat)) : Int) = (k : Int) + t := by simp
      have hhd := l_heldInt64S A' X c' (k + t) B wr (by omega) (by omega) his
      rw [hki] at hhd ⊢
      clear hki hti his hcell
      have hpos : ¬ ((k : Int) + t + X < 0) := by omega
      go_wp2_with (go_at_call 117; refine hhd.mono ?_; rintro e w2 ⟨rfl, nq, rfl⟩)
      go_roundw
      case rel => exact ⟨i + 1, t + X, by omega, by go_num, by rw [show (((k + (t + X) : Nat)) : Int) = (k : Int) + t + X by omega], by unfold Hid; rw [HTS.out], by repeat (first | assumption | refine DR.step ?_ _)⟩
      case measure => simp [intOf]; omega
    · obtain rfl : i = n := by omega
      go_wp2_with (fail)
      go_ret
      exact ⟨by rw [← HTI.out]; simp, hdr⟩
end Go.Proofs.YtglijcdnnaekkaaGreat
