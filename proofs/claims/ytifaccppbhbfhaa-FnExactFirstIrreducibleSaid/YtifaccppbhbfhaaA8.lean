/- Several parts of the proof in one text; each part says what it shows. Nothing is assumed. -/
import Derived.Test.YtifaccppbhbfhaaA2
import Derived.Deep.OwnRows
/- Contracts: slices of int64 that are copied, compared, summed. -/
namespace Go.Proofs.Ytifaccppbhbfhaa
set_option linter.unusedVariables false
set_option linter.unusedSimpArgs false
open Go.RowKit Go.Deep

/-- Block g is just the cells cs of type t, none frozen. -/
def BK (w : World) (g : Nat) (t : TypeId) (cs : Array Value) : Prop := w.heap[g]? = some (.cells cs t (0, 0))
section
variable {w w' : World} {g : Nat} {t : TypeId} {cs : Array Value}
theorem BK.lt (h : BK w g t cs) : g < w.heap.size := by
  rcases Nat.lt_or_ge g w.heap.size with hlt | hge
  · exact hlt
  · unfold BK at h; rw [Array.getElem?_eq_none hge] at h; cases h
theorem BK.cell (h : BK w g t cs) (i : Nat) : w.cell? ⟨g, i, none⟩ = cs[i]? := by
  unfold BK at h; simp [World.cell?, h]
theorem BK.frozen (h : BK w g t cs) (i : Nat) : w.frozen? ⟨g, i, none⟩ = false := by
  unfold BK at h; simp [World.frozen?, h]
theorem BK.new (w : World) (t : TypeId) (cs : Array Value) : BK (w.alloc (.cells cs t)) w.heap.size t cs := heap_alloc_new w _
theorem BK.drewN (h : BK w g t cs) (n : Nat) : BK (w.drewN n) g t cs := h
theorem BK.alloc (h : BK w g t cs) (o : Obj) : BK (w.alloc o) g t cs := (Below.heap_alloc w o g h.lt).trans h
theorem BK.set (h : BK w g t cs) (i : Nat) (u : Value) : BK (w.setCell ⟨g, i, none⟩ u) g t (cs.setIfInBounds i u) := by
  unfold BK at h ⊢; simp [World.setCell, Array.getElem?_modify, h]
theorem BK.far (h : BK w g t cs) {p : Addr} (hp : g ≠ p.block) (u : Value) : BK (w.setCell p u) g t cs := (Below.heap_setCell w p u g hp).trans h
theorem BK.below {B : Nat} (h : BK w g t cs) (hb : Below B w w') (hg : g < B) : BK w' g t cs := (hb.block g hg).trans h
end
section
variable {w w' : World} {B : Nat} {A : Option Addr} {xs : List Int}
theorem IS.below (h : IS w B A xs) (hb : Below B w w') : IS w' B A xs := fun hp => by
  obtain ⟨b, off, h1, h2, h3⟩ := h hp
  exact ⟨b, off, h1, h2, fun k hk => (hb.cell (p := ⟨b, off + k, none⟩) h2).trans (h3 k hk)⟩
theorem IS.more {B' : Nat} (h : IS w B A xs) (hB : B ≤ B') : IS w B' A xs := fun hp => by
  obtain ⟨b, off, h1, h2, h3⟩ := h hp
  exact ⟨b, off, h1, by omega, h3⟩
theorem IS.at (h : IS w B A xs) {k : Nat} (hk : k < xs.length) : ∃ b off, A = some ⟨b, off, none⟩ ∧ b < B ∧ ∀ j, j < xs.length → w.cell? ⟨b, off + j, none⟩ = some (.int .i64 (gt xs j)) := h (by omega)
end
theorem gt_mem {xs : List Int} {k : Nat} (h : k < xs.length) : gt xs k ∈ xs := by
  unfold gt; rw [List.getD_eq_getElem?_getD, List.getElem?_eq_getElem h]; exact List.getElem_mem h
theorem R64.gt {xs : List Int} (h : R64 xs) {k : Nat} (hk : k < xs.length) : -9223372036854775808 ≤ gt xs k ∧ gt xs k ≤ 9223372036854775807 := h _ (gt_mem hk)
theorem gt_ext {xs ys : List Int} (h : xs.length = ys.length) (h' : ∀ k, k < xs.length → Go.Proofs.Ytifaccppbhbfhaa.gt xs k = Go.Proofs.Ytifaccppbhbfhaa.gt ys k) : xs = ys := by
  apply List.ext_getElem h
  intro i h1 h2
  have := h' i h1
  simpa [Go.Proofs.Ytifaccppbhbfhaa.gt, List.getElem?_eq_getElem h1, List.getElem?_eq_getElem h2] using this
/-- A slice of int64 made by the call: block g from B on, all of it. -/
def NS (w : World) (B : Nat) (g : Nat) (xs : List Int) : Prop := B ≤ g ∧ ∃ cs : Array Value, BK w g 2 cs ∧ cs.size = xs.length ∧ ∀ k, k < xs.length → cs[k]? = some (.int .i64 (gt xs k))
theorem NS.is {w : World} {B g : Nat} {xs : List Int} (h : NS w B g xs) : IS w w.heap.size (some ⟨g, 0, none⟩) xs := fun _ => by
  obtain ⟨_, cs, h1, h2, h3⟩ := h
  exact ⟨g, 0, rfl, h1.lt, fun k hk => by rw [Nat.zero_add, h1.cell]; exact h3 k hk⟩
theorem NS.below {w w' : World} {B B' g : Nat} {xs : List Int} (h : NS w B g xs) (hb : Below B' w w') (hg : g < B') : NS w' B g xs := by
  obtain ⟨h0, cs, h1, h2, h3⟩ := h
  exact ⟨h0, cs, h1.below hb hg, h2, h3⟩
theorem NS.lt {w : World} {B g : Nat} {xs : List Int} (h : NS w B g xs) : g < w.heap.size := by
  obtain ⟨h0, cs, h1, h2, h3⟩ := h
  exact h1.lt
theorem infoI64 : (Try.prog.info? 2).map (fun i => (i.zero, i.size, i.bytes)) = some (some (.int .i64 0), 1, 8) := by kernel_rfl
set_option maxHeartbeats 1000000 in
theorem l_toInt64S (A : Option Addr) (n c : Nat) (xs : List Int) (w : World) (hn : n = xs.length) (hl : n ≤ 1048576) (hs : IS w w.heap.size A xs) :
    Calls Try.prog 8 #[.slice A n c] w fun e w' => ∃ g, e = .returned (.slice (some ⟨g, 0, none⟩) n n) ∧ NS w' w.heap.size g xs ∧ Below w.heap.size w w' := by
  have hmk := fun W => run_make_row' (P := Try.prog) 22 2 (.int .i64 0) 8 Try.underlying22 infoI64 rfl .i64 .i64 n (by omega) (by omega) W
  have HN := Lib.hid hn
  clear hn
  go_enter Try.func8, Try.ntmps8
  go_wp2_with (fail)
  go_loopw [4] (fun u wr => ∃ k : Nat, k ≤ n ∧ u = .int .i64 k ∧ Below w.heap.size w wr ∧ ∃ cs : Array Value, BK wr w.heap.size 2 cs ∧ cs.size = n ∧ ∀ j, j < k → cs[j]? = some (.int .i64 (gt xs j))) (fun u _ => n - (intOf u).toNat)
  case atStart => exact ⟨0, Nat.zero_le _, rfl, (Below.refl _ _).alloc (Nat.le_refl _) _, _, BK.new _ _ _, by simp [madeCells], fun j hj => by omega⟩
  case round =>
    obtain ⟨k, hk, rfl, hb, cs, hB, hz, hj⟩ := hrel
    have HZ := Lib.hid hz
    have HJ := Lib.hid hj
    clear hz hj
    by_cases hlt : k < n
    · obtain ⟨b, off, rfl, hbb, hcell⟩ := IS.at hs (k := k) (by rw [← HN.out]; exact hlt)
      have hin := (hb.cell (p := ⟨b, off + k, none⟩) hbb).trans (hcell k (by rw [← HN.out]; exact hlt))
      have hf := hB.frozen k
      have hout := hB.cell k
      rw [Array.getElem?_eq_getElem (by rw [HZ.out]; exact hlt)] at hout
      have HC := Lib.hid hcell
      clear hcell
      generalize cs[k]'(by rw [HZ.out]; exact hlt) = ov at hout
      go_wp2_with (fail)
      go_roundw
      case rel =>
        refine ⟨k + 1, by omega, by go_num, hb.setCell (Nat.le_refl _) _, _, hB.set k _, by rw [Array.size_setIfInBounds]; exact HZ.out, fun j hj => ?_⟩
        rw [Array.getElem?_setIfInBounds]
        by_cases hx : k = j
        · subst hx
          rw [if_pos rfl, if_pos (by rw [HZ.out]; exact hlt)]
        · rw [if_neg hx]
          exact HJ.out j (by omega)
      case measure => simp [intOf]; omega
    · obtain rfl : k = n := by omega
      go_wp2_with (fail)
      go_ret
      exact ⟨_, rfl, ⟨Nat.le_refl _, cs, hB, by rw [HZ.out, HN.out], fun j hj => HJ.out j (by rw [HN.out]; exact hj)⟩, hb⟩

set_option maxHeartbeats 1000000 in
theorem l_eqInt64S (A A' : Option Addr) (n c n' c' : Nat) (xs : List Int) (w : World) (B B' : Nat) (hn : n = xs.length) (hn' : n' = xs.length) (hl : n ≤ 9223372036854775807) (hs : IS w B A xs) (hs' : IS w B' A' xs) :
    Calls Try.prog 10 #[.slice A n c, .slice A' n' c'] w (Q (.bool true) w) := by
  obtain rfl : n' = n := by omega
  have HN := Lib.hid hn
  clear hn hn'
  go_enter Try.func10, Try.ntmps10
  go_wp2_with (fail)
  go_loopw [5] (fun u wr => ∃ k : Nat, k ≤ n' ∧ u = .int .i64 k ∧ ∃ m, wr = w.drewN m) (fun u _ => n' - (intOf u).toNat)
  case atStart => exact ⟨0, Nat.zero_le _, rfl, 0, rfl⟩
  case round =>
    obtain ⟨k, hk, rfl, m, rfl⟩ := hrel
    by_cases hlt : k < n'
    · obtain ⟨b, off, rfl, hbb, hcell⟩ := IS.at hs (k := k) (by rw [← HN.out]; exact hlt)
      obtain ⟨b', off', rfl, hbb', hcell'⟩ := IS.at hs' (k := k) (by rw [← HN.out]; exact hlt)
      have h1 := hcell k (by rw [← HN.out]; exact hlt)
      have h2 := hcell' k (by rw [← HN.out]; exact hlt)
      clear hcell hcell'
      go_wp2_with (go_quiet (fail))
      go_roundw
      case rel => exact ⟨k + 1, by omega, by go_num, by first | exact dq1 | exact dq2⟩
      case measure => simp [intOf]; omega
    · obtain rfl : k = n' := by omega
      go_wp2_with (fail)
      go_ret
      exact ⟨rfl, dq1⟩
end Go.Proofs.Ytifaccppbhbfhaa
/- Contracts and walks: IsType, SignOfType, SizeOfType. -/
namespace Go.Proofs.Ytifaccppbhbfhaa
set_option linter.unusedVariables false
set_option linter.unusedSimpArgs false
open Go.RowKit

/-- wr is w behind some draws. -/
def DR (w wr : World) : Prop := ∃ m, wr = w.drewN m
theorem DR.refl (w : World) : DR w w := ⟨0, rfl⟩
theorem DR.step {w wr : World} (h : DR w wr) (k : Nat) : DR w (wr.drewN k) := by
  obtain ⟨m, rfl⟩ := h; exact ⟨m + k, by rw [World.drewN_drewN]⟩
theorem DR.cell {w wr : World} (h : DR w wr) (a : Addr) : wr.cell? a = w.cell? a := by
  obtain ⟨m, rfl⟩ := h; rfl
theorem DR.out {w wr : World} (h : DR w wr) : ∃ m, wr = w.drewN m := h
theorem DR.more {w wr : World} {n : Nat} (h : DR (w.drewN n) wr) : DR w wr := by
  obtain ⟨m, rfl⟩ := h; exact ⟨n + m, by rw [World.drewN_drewN]⟩
/-- The list is a type: from 1 to 6, not falling, the sum from 1 to 6. -/
def TypeP (xs : List Int) : Prop := (∀ k, k < xs.length → 1 ≤ gt xs k ∧ gt xs k ≤ 6 ∧ (0 < k → gt xs (k - 1) ≤ gt xs k)) ∧ 1 ≤ xs.sum ∧ xs.sum ≤ 6
noncomputable def typeB (xs : List Int) : Bool := @decide (TypeP xs) (Classical.propDecidable _)
theorem typeB_t {xs : List Int} (h : TypeP xs) : true = typeB xs := by simp [typeB, h]
theorem typeB_f {xs : List Int} (h : ¬ TypeP xs) : false = typeB xs := by simp [typeB, h]
theorem typeB_p {xs : List Int} (h : typeB xs = true) : TypeP xs := by simpa [typeB] using h
def sumTo (xs : List Int) (k : Nat) : Int := (xs.take k).sum
theorem sumTo_zero (xs : List Int) : sumTo xs 0 = 0 := by simp [sumTo]
theorem sumTo_succ {xs : List Int} {k : Nat} (h : k < xs.length) : sumTo xs (k + 1) = sumTo xs k + gt xs k := by
  unfold sumTo gt
  rw [List.take_succ_eq_append_getElem h, List.sum_append, List.getD_eq_getElem?_getD, List.getElem?_eq_getElem h]
  simp
theorem sumTo_all (xs : List Int) : sumTo xs xs.length = xs.sum := by simp [sumTo]
theorem sumTo_bd {xs : List Int} {lo hi : Int} : ∀ k, k ≤ xs.length → (∀ j, j < k → lo ≤ gt xs j ∧ gt xs j ≤ hi) → lo * k ≤ sumTo xs k ∧ sumTo xs k ≤ hi * k := by
  intro k
  induction k with
  | zero => intro _ _; rw [sumTo_zero]; simp
  | succ k ih =>
    intro hk h
    have h1 := ih (by omega) (fun j hj => h j (by omega))
    have h2 := h k (by omega)
    rw [sumTo_succ (by omega)]
    have e1 : lo * ((k + 1 : Nat) : Int) = lo * k + lo := by rw [Int.natCast_succ, Int.mul_add, Int.mul_one]
    have e2 : hi * ((k + 1 : Nat) : Int) = hi * k + hi := by rw [Int.natCast_succ, Int.mul_add, Int.mul_one]
    omega
theorem sumTo_mono {xs : List Int} : ∀ m k, k ≤ m → m ≤ xs.length → (∀ j, j < xs.length → 0 ≤ gt xs j) → sumTo xs k ≤ sumTo xs m := by
  intro m
  induction m with
  | zero => intro k hk _ _; obtain rfl : k = 0 := by omega
            omega
  | succ m ih =>
    intro k hk hm h
    rcases Nat.lt_or_ge m k with h1 | h1
    · obtain rfl : k = m + 1 := by omega
      omega
    · have h2 := ih k h1 (by omega) h
      rw [sumTo_succ (by omega)]
      have := h m (by omega)
      omega
theorem TypeP.len {xs : List Int} (h : TypeP xs) : 1 ≤ xs.length ∧ xs.length ≤ 6 := by
  have h1 := sumTo_bd (xs := xs) (lo := 1) (hi := 6) xs.length (Nat.le_refl _) (fun j hj => ⟨(h.1 j hj).1, (h.1 j hj).2.1⟩)
  rw [sumTo_all] at h1
  have := h.2
  omega
end Go.Proofs.Ytifaccppbhbfhaa
/- Walks of the laws: IsType, SignOfType, SizeOfType. -/
namespace Go.Proofs.Ytifaccppbhbfhaa
set_option linter.unusedVariables false
set_option linter.unusedSimpArgs false
open Go.RowKit

theorem IS.drewN {w : World} {B : Nat} {A : Option Addr} {xs : List Int} (h : IS w B A xs) (n : Nat) : IS (w.drewN n) B A xs := h
theorem NS.drewN {w : World} {B g : Nat} {xs : List Int} (h : NS w B g xs) (n : Nat) : NS (w.drewN n) B g xs := h
theorem IS.call {w w' : World} {A : Option Addr} {xs : List Int} (h : IS w w.heap.size A xs) (hb : Below w.heap.size w w') : IS w' w'.heap.size A xs := (h.below hb).more hb.size
theorem TypeP.bd {xs : List Int} (h : TypeP xs) : ∀ k, k < xs.length → -1000000000 ≤ gt xs k ∧ gt xs k ≤ 1000000000 := fun k hk => by
  have := h.1 k hk; omega
theorem TypeP.sum_ge {xs : List Int} (h : TypeP xs) : (xs.length : Int) ≤ xs.sum := by
  have h1 := sumTo_bd (xs := xs) (lo := 1) (hi := 6) xs.length (Nat.le_refl _) (fun j hj => ⟨(h.1 j hj).1, (h.1 j hj).2.1⟩)
  rw [sumTo_all] at h1
  omega
def sgnI (n : Int) : Int := if n % 2 = 1 then -1 else 1
noncomputable def sgV (xs : List Int) : Int := if typeB xs then sgnI (xs.sum - xs.length) else 0
noncomputable def sgC (xs : List Int) : Int := if typeB xs then 0 else 1
set_option maxHeartbeats 400000 in
theorem i_size (A : Option Addr) (n c : Nat) (w : World) : Calls Try.prog 53 #[.slice A n c] w (Q (.int .i64 n) w) := by
  go_enter Try.func53, Try.ntmps53
  go_wp2_with (fail)
  go_ret
  exact ⟨rfl, 0, rfl⟩
def fact : Nat → Nat
  | 0 => 1
  | k + 1 => (k + 1) * fact k
theorem fact_le {k : Nat} (h : k ≤ 6) : 1 ≤ fact k ∧ fact k ≤ 720 := by
  have : k = 0 ∨ k = 1 ∨ k = 2 ∨ k = 3 ∨ k = 4 ∨ k = 5 ∨ k = 6 := by omega
  rcases this with rfl | rfl | rfl | rfl | rfl | rfl | rfl <;> decide
theorem fact_pos : ∀ k : Nat, 1 ≤ fact k
  | 0 => Nat.le_refl _
  | k + 1 => by
    have h := fact_pos k
    have : k + 1 ≤ (k + 1) * fact k := Nat.le_mul_of_pos_right _ h
    rw [fact]; omega
theorem fact_self : ∀ k : Nat, k ≤ fact k
  | 0 => by simp
  | k + 1 => Nat.le_mul_of_pos_right _ (fact_pos k)
end Go.Proofs.Ytifaccppbhbfhaa
/- Contracts and walk: SizeOfType. -/
namespace Go.Proofs.Ytifaccppbhbfhaa
set_option linter.unusedVariables false
set_option linter.unusedSimpArgs false
open Go.RowKit

/-- What is left of the count, and how many equal numbers stand behind one another, after k numbers. -/
def szF (xs : List Int) : Nat → Int × Int
  | 0 => ((fact xs.sum.toNat : Nat), 0)
  | k + 1 =>
    let e := if 0 < k ∧ gt xs k = gt xs (k - 1) then (szF xs k).2 + 1 else 1
    ((szF xs k).1 / gt xs k / e, e)
theorem szF_succ (xs : List Int) (k : Nat) : szF xs (k + 1) = ((szF xs k).1 / gt xs k / (if 0 < k ∧ gt xs k = gt xs (k - 1) then (szF xs k).2 + 1 else 1), if 0 < k ∧ gt xs k = gt xs (k - 1) then (szF xs k).2 + 1 else 1) := rfl
theorem szF_bd {xs : List Int} (h : TypeP xs) : ∀ k, k ≤ xs.length → 0 ≤ (szF xs k).1 ∧ (szF xs k).1 ≤ 720 ∧ 0 ≤ (szF xs k).2 ∧ (szF xs k).2 ≤ k := by
  intro k
  induction k with
  | zero =>
    intro _
    have := fact_le (k := xs.sum.toNat) (by have := h.2.2; omega)
    simp only [szF]; omega
  | succ k ih =>
    intro hk
    have h1 := ih (by omega)
    have h2 := h.1 k (by omega)
    rw [szF_succ]
    have h3 : 1 ≤ (if 0 < k ∧ gt xs k = gt xs (k - 1) then (szF xs k).2 + 1 else 1) ∧ (if 0 < k ∧ gt xs k = gt xs (k - 1) then (szF xs k).2 + 1 else 1) ≤ k + 1 := by split <;> omega
    have h4 : 0 ≤ (szF xs k).1 / gt xs k := Int.ediv_nonneg h1.1 (by omega)
    have h5 : (szF xs k).1 / gt xs k ≤ (szF xs k).1 := Int.ediv_le_self _ h1.1
    exact ⟨Int.ediv_nonneg h4 (by omega), Int.le_trans (Int.ediv_le_self _ h4) (by omega), by omega, by omega⟩
noncomputable def soV (xs : List Int) : Int := if typeB xs then (szF xs xs.length).1 else 0
end Go.Proofs.Ytifaccppbhbfhaa
