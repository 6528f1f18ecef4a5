/- Several parts of the proof in one text; each part says what it shows. Nothing is assumed. -/
import Derived.Test.YtglijcdnnaekkaaGreatA133
import Derived.Test.YtglijcdnnaekkaaGreatA88
/- All conjugates of a group; is one group part of another: the program's side. -/
namespace Go.Proofs.YtglijcdnnaekkaaGreat
set_option linter.unusedVariables false
set_option linter.unusedSimpArgs false
open Go.RowKit

theorem infoGrp : (Tryz.prog.info? 26).map (fun i => (i.zero, i.size, i.bytes)) = some (some (.agg #[.int .i64 0, .slice none 0 0]), 2, 32) := by kernel_rfl
/-- The cells of groups of n points. -/
def gcells (n : Nat) (vs : List Value) : List Value := vs.flatMap fun v => [.int .i64 (n : Int), v]
theorem gcells_len (n : Nat) : ∀ vs : List Value, (gcells n vs).length = vs.length * 2
  | [] => rfl
  | v :: vs => by
    have h := gcells_len n vs
    simp only [gcells, List.flatMap_cons, List.length_append, List.length_cons, List.length_nil] at h ⊢
    omega
theorem gcells_snoc (n : Nat) (vs : List Value) (v : Value) : gcells n (vs ++ [v]) = gcells n vs ++ [.int .i64 (n : Int), v] := by simp [gcells]
theorem gcells_at (n : Nat) : ∀ (vs : List Value) (k : Nat), k < vs.length → (gcells n vs)[k * 2]? = some (.int .i64 (n : Int)) ∧ (gcells n vs)[k * 2 + 1]? = some (gv vs k)
  | [], k, h => by simp at h
  | v :: vs, 0, _ => by simp [gcells, gv]
  | v :: vs, k + 1, h => by
    have h1 := gcells_at n vs k (by simpa using h)
    have e1 : (k + 1) * 2 = k * 2 + 2 := by omega
    have e2 : (k + 1) * 2 + 1 = k * 2 + 1 + 2 := by omega
    rw [e2, e1]
    simpa [gcells, gv] using h1
theorem row_moreG {base N : Nat} {wr w1 w4 : World} {vs xs : List Value} {ms : List (List Int)} {u5 v1 : Value} {b : List Int} {o : Obj}
    (hg4 : (w1.alloc o).grownBy w4 u5.ownBlock) (ho : wr.ownsRow base 26 2 u5 N xs) (hrows : RowsO wr base vs ms) (hbase : base ≤ wr.heap.size)
    (ho1 : w1.ownsRow wr.heap.size 2 1 v1 b.length (ints b)) (hb1 : Below wr.heap.size wr w1) : RowsO w4 base (vs ++ [v1]) (ms ++ [b]) := by
  have hsn := (hrows.below hb1).snoc (own_mono ho1 hbase) (fresh_ne hrows (fun g hg => (ho1.lt g hg).1))
  have hsn2 := hsn.kept (World.grownBy_alloc _ o none) (fun i _ => by cases (gv (vs ++ [v1]) i).ownBlock <;> simp)
  have hou := World.ownsRow.alloc (own_below ho hb1) o
  exact hsn2.kept hg4 (fun i hi => own_ne (hsn2.2.1 i hi) hou (by decide))
def cjA (n : Nat) (l : List Int) (k : Nat) : List (List Int) := (List.range k).map fun r => rkC (cjM n (wrL n r) l)
theorem cjA_len (n : Nat) (l : List Int) (k : Nat) : (cjA n l k).length = k := by simp [cjA]
theorem cjA_succ (n : Nat) (l : List Int) (k : Nat) : cjA n l (k + 1) = cjA n l k ++ [rkC (cjM n (wrL n k) l)] := by simp [cjA, List.range_succ]
theorem cells_two (w : World) (x y : Value) (t : TypeId) : ∀ j u, [x, y][j]? = some u → (w.alloc (.cells #[x, y] t)).cell? ((⟨w.heap.size, 0, none⟩ : Addr).add j) = some u := two_cells w x y t
end Go.Proofs.YtglijcdnnaekkaaGreat
/- Is one group part of another: the program's side. -/
namespace Go.Proofs.YtglijcdnnaekkaaGreat
set_option linter.unusedVariables false
set_option linter.unusedSimpArgs false
open Go.RowKit

set_option maxRecDepth 10000 in
set_option maxHeartbeats 1000000 in
theorem c_index (A : Option Addr) (L c : Nat) (x : Int) (l : List Int) (w : World) (B : Nat) (hL : L = l.length) (hl : L ≤ 1000) (hs : IS w B A l) :
    Calls Tryz.prog 139 #[.slice A L c, .int .i64 x] w (fun e w' => ∃ k : Int, e = .returned (.int .i64 k) ∧ decide (0 ≤ k) = decide (x ∈ l) ∧ ∃ m, w' = w.drewN m) := by
  have HL := Lib.hid hL
  clear hL
  go_enter Tryz.func139, Tryz.ntmps139
  go_wp2_with (fail)
  go_loopw [8] (fun u wr => ∃ k : Nat, k ≤ L ∧ u = .int .i64 k ∧ Hid (∀ j, j < k → gt l j ≠ x) ∧ ∃ m, wr = w.drewN m) (fun u _ => L - (intOf u).toNat)
  case atStart => exact ⟨0, Nat.zero_le _, rfl, fun j hj => by omega, 0, rfl⟩
  case round =>
    obtain ⟨k, hk, rfl, HI, m, rfl⟩ := hrel
    by_cases hlt : k < L
    · obtain ⟨b, off, rfl, hbb, hcell⟩ := IS.at hs (k := k) (by rw [← HL.out]; exact hlt)
      have h1 := hcell k (by rw [← HL.out]; exact hlt)
      clear hcell
      by_cases heq : gt l k = x
      · have hm : decide (x ∈ l) = true := by
          rw [decide_eq_true_eq, ← heq]
          exact gt_mem (by rw [← HL.out]; exact hlt)
        have HM := Lib.hid hm
        have ht : (x == gt l k) = true := by rw [beq_iff_eq]; exact heq.symm
        clear hm heq
        generalize gt l k = y at *
        go_wp2_with (go_quiet (fail))
        go_ret
        exact ⟨k, rfl, by rw [HM.out]; simp, by first | exact dq1 | exact dq2⟩
      · have hn : ∀ j, j < k + 1 → gt l j ≠ x := fun j hj => by
          by_cases hjk : j = k
          · subst hjk; exact heq
          · exact HI.out j (by omega)
        have HN := Lib.hid hn
        have ht : (x == gt l k) = false := by rw [beq_eq_false_iff_ne]; exact fun h => heq h.symm
        clear hn heq
        generalize gt l k = y at *
        go_wp2_with (go_quiet (fail))
        go_roundw
        case rel => exact ⟨k + 1, by omega, by go_num, HN.out, by first | exact dq1 | exact dq2⟩
        case measure => simp [intOf]; omega
    · obtain rfl : k = L := by omega
      have hm : decide (x ∈ l) = false := by
        rw [decide_eq_false_iff_not]
        intro h
        obtain ⟨j, hj, e⟩ := List.mem_iff_getElem.1 h
        exact HI.out j (by rw [HL.out]; exact hj) (by simp [gt, List.getElem?_eq_getElem hj, e])
      have HM := Lib.hid hm
      clear hm
      go_wp2_with (fail)
      go_ret
      exact ⟨-1, rfl, by rw [HM.out]; simp, by first | exact dq1 | exact dq2⟩
set_option maxHeartbeats 1000000 in
theorem c_hasInt (A : Option Addr) (L c : Nat) (x : Int) (l : List Int) (w : World) (B : Nat) (hL : L = l.length) (hl : L ≤ 1000) (hs : IS w B A l) :
    Calls Tryz.prog 72 #[.slice A L c, .int .i64 x] w (Q (.bool (decide (x ∈ l))) w) := by
  have hc := c_index A L c x l w B hL hl hs
  generalize decide (x ∈ l) = b at *
  clear hL hs
  cases b
  · have hc2 := hc.mono (R' := fun e w' => ∃ k : Int, e = .returned (.int .i64 k) ∧ k < 0 ∧ ∃ m, w' = w.drewN m) (fun e w' ⟨k, h1, h2, h3⟩ => ⟨k, h1, by have := of_decide_eq_false h2; omega, h3⟩)
    clear hc
    go_enter Tryz.func72, Tryz.ntmps72
    go_wp2_with (go_at_call 139; refine hc2.mono ?_; rintro e w1 ⟨k, rfl, hk, m, rfl⟩)
    go_ret
    exact ⟨ret_bool (by first | rfl | (simp; omega)), m, rfl⟩
  · have hc2 := hc.mono (R' := fun e w' => ∃ k : Int, e = .returned (.int .i64 k) ∧ 0 ≤ k ∧ ∃ m, w' = w.drewN m) (fun e w' ⟨k, h1, h2, h3⟩ => ⟨k, h1, of_decide_eq_true h2, h3⟩)
    clear hc
    go_enter Tryz.func72, Tryz.ntmps72
    go_wp2_with (go_at_call 139; refine hc2.mono ?_; rintro e w1 ⟨k, rfl, hk, m, rfl⟩)
    go_ret
    exact ⟨ret_bool (by first | rfl | (simp; omega)), m, rfl⟩
def partB (l l' : List Int) : Bool := l.all fun x => decide (x ∈ l')
theorem partB_any (l l' : List Int) : (l.any fun x => !decide (x ∈ l')) = !partB l l' := by
  unfold partB
  rw [List.not_all_eq_any_not]
end Go.Proofs.YtglijcdnnaekkaaGreat
/- SubgroupNames: the program's closures. -/
namespace Go.Proofs.YtglijcdnnaekkaaGreat
set_option linter.unusedVariables false
set_option linter.unusedSimpArgs false
open Go.RowKit

/-- A conjugate of the first group lies in the second. -/
def sbB (n : Nat) (l l' : List Int) : Bool := (cjA n l (fact n)).any fun x => partB x l'
end Go.Proofs.YtglijcdnnaekkaaGreat
