/- Several parts of the proof in one text; each part says what it shows. Nothing is assumed. -/
import Derived.Test.YtifaccppbhbfhaaA16
import Derived.Test.YtifaccppbhbfhaaA8
import Derived.Test.YtifaccppbhbfhaaA13
/- Contracts: marking a slice and asking whether the marks are held. -/
namespace Go.Proofs.Ytifaccppbhbfhaa
set_option linter.unusedVariables false
set_option linter.unusedSimpArgs false
open Go.RowKit

def marks (k n : Nat) : List Int := (List.range n).map fun j => ((k + j : Nat) : Int)
theorem marks_length (k n : Nat) : (marks k n).length = n := by simp [marks]
theorem marks_at {k n j : Nat} (h : j < n) : gt (marks k n) j = ((k + j : Nat) : Int) := by simp [gt, marks, h]
def cur (k : Nat) (l : List Int) (i : Nat) : List Int := (List.range l.length).map fun j => if j < i then ((k + j : Nat) : Int) else gt l j
theorem cur_length (k : Nat) (l : List Int) (i : Nat) : (cur k l i).length = l.length := by simp [cur]
theorem cur_zero (k : Nat) (l : List Int) : cur k l 0 = l := by
  apply gt_ext (by simp [cur])
  intro j hj
  rw [cur_length] at hj
  simp [gt, cur, hj]
theorem cur_all (k : Nat) (l : List Int) : cur k l l.length = marks k l.length := by
  unfold cur marks
  apply List.map_congr_left
  intro j hj
  rw [List.mem_range] at hj
  rw [if_pos hj]
theorem cur_set {k : Nat} {l : List Int} {i : Nat} (h : i < l.length) : (ints (cur k l i)).set i (.int .i64 ((k + i : Nat) : Int)) = ints (cur k l (i + 1)) := by
  apply List.ext_getElem
  · simp [ints, cur]
  · intro j h1 h2
    simp [ints, cur] at h1 h2 ⊢
    rw [List.getElem_set]
    by_cases hj : i = j
    · subst hj; simp
    · rw [if_neg hj]
      simp
      by_cases hlt : j < i
      · rw [if_pos hlt, if_pos (by omega)]
      · rw [if_neg hlt, if_neg (by omega)]
theorem grown_trans {a b c : World} {row : Option Nat} (h : a.grownBy b row) (k : b.grownBy c row) : a.grownBy c row :=
  ⟨k.os.trans h.os, k.tape.trans h.tape, k.output.trans h.output, Nat.le_trans h.size k.size, fun i hi hn => (k.block i (Nat.lt_of_lt_of_le hi h.size) hn).trans (h.block i hi hn)⟩
theorem grown_drewN {a b : World} {row : Option Nat} (h : a.grownBy b row) (n : Nat) : a.grownBy (b.drewN n) row := ⟨h.os, h.tape, h.output, h.size, h.block⟩
theorem NS.own {w : World} {B g : Nat} {xs : List Int} (h : NS w B g xs) (hm : xs.length ≤ maxLen) : w.ownsRow B 2 1 (.slice (some ⟨g, 0, none⟩) xs.length xs.length) xs.length (ints xs) := by
  obtain ⟨h0, cs, h1, h2, h3⟩ := h
  refine ⟨by simp [ints], .inr ⟨g, xs.length, cs, rfl, h0, h1, Nat.le_refl _, hm, by omega, ?_⟩⟩
  apply List.ext_getElem
  · simp [ints]; omega
  · intro j a b
    have hj : j < xs.length := by simpa [ints] using b
    have := h3 j hj
    rw [Array.getElem?_eq_getElem (by omega)] at this
    injection this with this
    simp [ints, this, gt, List.getElem?_eq_getElem hj]
theorem own_isn {w : World} {base n c : Nat} {A : Option Addr} {l : List Int} (h : w.ownsRow base 2 1 (.slice A n c) n (ints l)) (hn : n = l.length) : IS w w.heap.size A l := by
  subst hn; exact OwnI.is h rfl
set_option maxHeartbeats 1000000 in
theorem l_markInt64S (A : Option Addr) (n c k base : Nat) (l : List Int) (w : World) (hn : n = l.length) (hl : n ≤ 1048576) (hk : k ≤ 4294967296) (ho : w.ownsRow base 2 1 (.slice A n c) n (ints l)) :
    Calls Try.prog 15 #[.slice A n c, .int .i64 k] w (fun e w' => e = .returned (.int .i64 (((k + n : Nat)) : Int)) ∧ w'.ownsRow base 2 1 (.slice A n c) n (ints (marks k n)) ∧ w.grownBy w' (Value.slice A n c).ownBlock) := by
  have HN := Lib.hid hn
  clear hn
  go_enter Try.func15, Try.ntmps15
  go_wp2_with (fail)
  go_loopw [1, 5] (fun u1 u5 wr => ∃ i : Nat, i ≤ n ∧ u5 = .int .i64 i ∧ u1 = .int .i64 (((k + i : Nat)) : Int) ∧ wr.ownsRow base 2 1 (.slice A n c) n (ints (cur k l i)) ∧ w.grownBy wr (Value.slice A n c).ownBlock) (fun _ u5 _ => n - (intOf u5).toNat)
  case atStart => exact ⟨0, Nat.zero_le _, rfl, by simp, by rw [cur_zero]; exact ho, World.grownBy.refl _ _⟩
  case round =>
    obtain ⟨i, hi, rfl, rfl, ho', hg⟩ := hrel
    by_cases hlt : i < n
    · obtain ⟨g, rfl, _, _, hc⟩ := own_src ho' (by omega)
      have hcell := hc i _ (ints_at (l := cur k l i) (by rw [cur_length, ← HN.out]; exact hlt))
      have hfr := ho'.frozenAt i
      have hst := ho'.stored i (.int .i64 (((k + i : Nat)) : Int))
      rw [cur_set (by rw [← HN.out]; exact hlt)] at hst
      have HST := Lib.hid hst
      clear hst hc
      generalize gt (cur k l i) i = ov at hcell
      have hki : (((k + i : Nat)) : Int) = (k : Int) + i := by simp
      rw [hki] at HST ⊢
      clear hki
      go_wp2_with (go_quiet (fail))
      go_roundw
      case rel => exact ⟨i + 1, by omega, by go_num, by simp; omega, HST.out.1, grown_trans hg HST.out.2⟩
      case measure => simp [intOf]; omega
    · obtain rfl : i = n := by omega
      go_wp2_with (fail)
      go_ret
      refine ⟨rfl, ?_, hg⟩
      rw [HN.out, cur_all, ← HN.out] at ho'
      exact ho'
set_option maxHeartbeats 1000000 in
theorem l_heldInt64S (A : Option Addr) (n c k B : Nat) (w : World) (hl : n ≤ 1048576) (hk : k ≤ 4294967296) (hs : IS w B A (marks k n)) :
    Calls Try.prog 16 #[.slice A n c, .int .i64 k] w (Q (.int .i64 (((k + n : Nat)) : Int)) w) := by
  go_enter Try.func16, Try.ntmps16
  go_wp2_with (fail)
  go_loopw [1, 5] (fun u1 u5 wr => ∃ i : Nat, i ≤ n ∧ u5 = .int .i64 i ∧ u1 = .int .i64 (((k + i : Nat)) : Int) ∧ DR w wr) (fun _ u5 _ => n - (intOf u5).toNat)
  case atStart => exact ⟨0, Nat.zero_le _, rfl, by simp, DR.refl _⟩
  case round =>
    obtain ⟨i, hi, rfl, rfl, hdr⟩ := hrel
    by_cases hlt : i < n
    · obtain ⟨b, off, rfl, hbb, hcell⟩ := IS.at hs (k := i) (by rw [marks_length]; exact hlt)
      have hc1 := (hdr.cell _).trans (hcell i (by rw [marks_length]; exact hlt))
      rw [marks_at hlt] at hc1
      clear hcell
      have hki : (((k + i : Nat)) : Int) = (k : Int) + i := by simp
      rw [hki] at hc1 ⊢
      clear hki
      go_wp2_with (go_quiet (fail))
      go_roundw
      case rel => exact ⟨i + 1, by omega, by go_num, by simp; omega, by repeat (first | assumption | refine DR.step ?_ _)⟩
      case measure => simp [intOf]; omega
    · obtain rfl : i = n := by omega
      go_wp2_with (fail)
      go_ret
      exact ⟨rfl, hdr⟩
end Go.Proofs.Ytifaccppbhbfhaa
/- Contracts: SumPolynomial, CubicResolvent; laws whose result is a slice of int64. -/
namespace Go.Proofs.Ytifaccppbhbfhaa
set_option linter.unusedVariables false
set_option linter.unusedSimpArgs false
open Go.RowKit

theorem mul_bd {x y : Int} {a b : Nat} (hx : x.natAbs ≤ a) (hy : y.natAbs ≤ b) : (x * y).natAbs ≤ a * b := by
  rw [Int.natAbs_mul]; exact Nat.mul_le_mul hx hy
noncomputable def codeM (xs : List Int) (lo hi : Int) : Int := if polyB xs then (if modB xs then (if lo ≤ (xs.length : Int) - 1 ∧ (xs.length : Int) - 1 ≤ hi then 0 else 5) else 2) else 1
theorem codeM_0 {xs : List Int} {lo hi : Int} (h : codeM xs lo hi = 0) : polyB xs = true ∧ modB xs = true ∧ lo ≤ (xs.length : Int) - 1 ∧ (xs.length : Int) - 1 ≤ hi := by
  unfold codeM at h
  cases h1 : polyB xs <;> cases h2 : modB xs <;> rw [h1, h2] at h <;> simp at h
  exact ⟨rfl, rfl, h.1, h.2⟩
theorem modB_all {xs : List Int} (h : modB xs = true) : ∀ k, k < xs.length → -20 ≤ gt xs k ∧ gt xs k ≤ 20 := by
  unfold modB at h
  simp only [Bool.and_eq_true] at h
  intro k hk
  exact inB_true (allB_p h.1 k hk)
/-- What a call gives that returns a slice of its own and a code. -/
def RS (l : List Int) (c : Int) (w : World) (e : Ending) (w' : World) : Prop :=
  ∃ A cap, e = .returned (.tuple #[.slice A l.length cap, .int .i64 c]) ∧ w'.ownsRow w.heap.size 2 1 (.slice A l.length cap) l.length (ints l) ∧ Below w.heap.size w w'
theorem RS.nil {w w' : World} {c : Int} (hb : Below w.heap.size w w') : RS [] c w (.returned (.tuple #[.slice none 0 0, .int .i64 c])) w' :=
  ⟨none, 0, rfl, World.ownsRow_nil _ _ _ _, hb⟩
theorem RS.lit {w : World} {c : Int} (l : List Int) (hm : l.length ≤ maxLen) : RS l c w (.returned (.tuple #[.slice (some ⟨w.heap.size, 0, none⟩) l.length l.length, .int .i64 c])) (w.alloc (.cells (ints l).toArray 2)) := by
  refine ⟨_, _, rfl, ?_, (Below.refl _ _).alloc (Nat.le_refl _) _⟩
  have h := World.ownsRow_lit (base := w.heap.size) (size := 1) (e := 2) w (ints l).toArray l.length (Nat.le_refl _) hm (by simp [ints])
  simpa using h
theorem RS.pre {w w1 : World} {l : List Int} {c : Int} {e : Ending} {w' : World} (h : RS l c w1 e w') (hb : Below w.heap.size w w1) : RS l c w e w' := by
  obtain ⟨A, cap, h1, h2, h3⟩ := h
  exact ⟨A, cap, h1, own_mono h2 hb.size, bel_call hb h3⟩
theorem RS.drewN {w w' : World} {l : List Int} {c : Int} {e : Ending} (h : RS l c w e w') (n : Nat) : RS l c w e (w'.drewN n) := by
  obtain ⟨A, cap, h1, h2, h3⟩ := h
  exact ⟨A, cap, h1, h2, below_drewN h3 n⟩
noncomputable def spL (xs : List Int) : List Int := if codeM xs 3 3 = 0 then [gt xs 2 * gt xs 1 - gt xs 0, gt xs 2 * gt xs 2 + gt xs 1, 2 * gt xs 2, 1] else []
end Go.Proofs.Ytifaccppbhbfhaa
/- Walks of laws with one slice as argument and a slice of int64 and a code as results. -/
namespace Go.Proofs.Ytifaccppbhbfhaa
set_option linter.unusedVariables false
set_option linter.unusedSimpArgs false
open Go.RowKit

theorem undrew {B : Nat} {w w' : World} {n : Nat} (h : Below B (w.drewN n) w') : Below B w w' := ⟨h.os, h.tape, h.output, h.size, h.block⟩
theorem undrewG {w w' : World} {n : Nat} {row : Option Nat} (h : (w.drewN n).grownBy w' row) : w.grownBy w' row := ⟨h.os, h.tape, h.output, h.size, h.block⟩
theorem NS.own' {w : World} {B g n : Nat} {xs : List Int} (h : NS w B g xs) (hn : n = xs.length) (hl : n ≤ 1048576) : w.ownsRow B 2 1 (.slice (some ⟨g, 0, none⟩) n n) n (ints xs) := by
  subst hn; exact h.own (by simp only [maxLen]; omega)
theorem kept_ge {w2 w' w'' : World} {b e s n : Nat} {v : Value} {xs : List Value} {row : Option Nat} (h : w2.ownsRow b e s v n xs) (hk : w'.ownsRow b e s v n xs) (hg : w'.grownBy w'' row) (hr : ∀ g, row = some g → w2.heap.size ≤ g) : w''.ownsRow b e s v n xs := by
  refine hk.kept hg ?_
  cases hv : v.ownBlock with
  | none => exact .inl rfl
  | some g =>
    refine .inr fun he => ?_
    have h1 := (h.lt g hv).2
    have h2 := hr g he.symm
    omega
theorem kept_lt {w' w'' : World} {b e s n : Nat} {v : Value} {xs : List Value} {row : Option Nat} (hk : w'.ownsRow b e s v n xs) (hg : w'.grownBy w'' row) (hr : ∀ g, row = some g → g < b) : w''.ownsRow b e s v n xs := by
  refine hk.kept hg ?_
  cases hv : v.ownBlock with
  | none => exact .inl rfl
  | some g =>
    refine .inr fun he => ?_
    have h1 := (hk.lt g hv).1
    have h2 := hr g he.symm
    omega
theorem l_mark1 (A : Option Addr) (n c base : Nat) (l : List Int) (w : World) (hn : n = l.length) (hl : n ≤ 1048576) (ho : w.ownsRow base 2 1 (.slice A n c) n (ints l)) :
    Calls Try.prog 15 #[.slice A n c, .int .i64 1] w (fun e w' => e = .returned (.int .i64 (1 + (n : Int))) ∧ w'.ownsRow base 2 1 (.slice A n c) n (ints (marks 1 n)) ∧ w.grownBy w' (Value.slice A n c).ownBlock) := by
  have h := l_markInt64S A n c 1 base l w hn hl (by omega) ho
  have e : (((1 + n : Nat)) : Int) = 1 + (n : Int) := by simp
  rw [e] at h
  exact h
theorem l_held1 (A : Option Addr) (n c B : Nat) (w : World) (hl : n ≤ 1048576) (hs : IS w B A (marks 1 n)) :
    Calls Try.prog 16 #[.slice A n c, .int .i64 1] w (Q (.int .i64 (1 + (n : Int))) w) := by
  have h := l_heldInt64S A n c 1 B w hl (by omega) hs
  have e : (((1 + n : Nat)) : Int) = 1 + (n : Int) := by simp
  rw [e] at h
  exact h
theorem spL_len (xs : List Int) : (spL xs).length ≤ 1048576 := by unfold spL; split <;> simp
end Go.Proofs.Ytifaccppbhbfhaa
/- Contracts and walks: CubicResolvent, ResolventRoots. -/
namespace Go.Proofs.Ytifaccppbhbfhaa
set_option linter.unusedVariables false
set_option linter.unusedSimpArgs false
open Go.RowKit

def cubE (xs : List Int) : List Int := [-(gt xs 3 * gt xs 3 * gt xs 0 - 4 * gt xs 2 * gt xs 0 + gt xs 1 * gt xs 1), gt xs 3 * gt xs 1 - 4 * gt xs 0, -gt xs 2, 1]
/-- A slice of the call's own. -/
def RV (l : List Int) (w : World) (e : Ending) (w' : World) : Prop :=
  ∃ A cap, e = .returned (.slice A l.length cap) ∧ w'.ownsRow w.heap.size 2 1 (.slice A l.length cap) l.length (ints l) ∧ Below w.heap.size w w'
theorem RV.lit {w : World} (l : List Int) (hm : l.length ≤ maxLen) : RV l w (.returned (.slice (some ⟨w.heap.size, 0, none⟩) l.length l.length)) (w.alloc (.cells (ints l).toArray 2)) := by
  refine ⟨_, _, rfl, ?_, (Below.refl _ _).alloc (Nat.le_refl _) _⟩
  have h := World.ownsRow_lit (base := w.heap.size) (size := 1) (e := 2) w (ints l).toArray l.length (Nat.le_refl _) hm (by simp [ints])
  simpa using h
theorem RV.drewN {w w' : World} {l : List Int} {e : Ending} (h : RV l w e w') (n : Nat) : RV l w e (w'.drewN n) := by
  obtain ⟨A, cap, h1, h2, h3⟩ := h
  exact ⟨A, cap, h1, h2, below_drewN h3 n⟩
noncomputable def cubL (xs : List Int) : List Int := if codeM xs 4 4 = 0 then cubE xs else []
theorem cubL_len (xs : List Int) : (cubL xs).length ≤ 1048576 := by unfold cubL cubE; split <;> simp
end Go.Proofs.Ytifaccppbhbfhaa
