/- Several parts of the proof in one text; each part says what it shows. Nothing is assumed. -/
import Derived.Test.YthjoegoeaiemdaaA2
import Derived.Deep.OwnRows
/- Contracts: slices of int64 that are copied, compared, summed. -/
namespace Go.Proofs.Ythjoegoeaiemdaa
set_option linter.unusedVariables false
set_option linter.unusedSimpArgs false
open Go.RowKit Go.Deep

/-- Block g is just the cells cs of type t, none frozen. -/
def BK (w : World) (g : Nat) (t : TypeId) (cs : Array Value) : Prop := w.heap[g]? = some (.cells cs t (0, 0))
section
variable {w w' : World} {g : Nat} {t : TypeId} {cs : Array Value}
theorem BK.lt (h : BK w g t cs) : g < w.heap.size := by
  rcases Nat.lt_or_ge g w.heap.size with hlt | hge
  · exact hlt
  · unfold BK at h; rw [Array.getElem?_eq_none hge] at h; cases h
theorem BK.cell (h : BK w g t cs) (i : Nat) : w.cell? ⟨g, i, none⟩ = cs[i]? := by
  unfold BK at h; simp [World.cell?, h]
theorem BK.frozen (h : BK w g t cs) (i : Nat) : w.frozen? ⟨g, i, none⟩ = false := by
  unfold BK at h; simp [World.frozen?, h]
theorem BK.new (w : World) (t : TypeId) (cs : Array Value) : BK (w.alloc (.cells cs t)) w.heap.size t cs := heap_alloc_new w _
theorem BK.drewN (h : BK w g t cs) (n : Nat) : BK (w.drewN n) g t cs := h
theorem BK.alloc (h : BK w g t cs) (o : Obj) : BK (w.alloc o) g t cs := (Below.heap_alloc w o g h.lt).trans h
theorem BK.set (h : BK w g t cs) (i : Nat) (u : Value) : BK (w.setCell ⟨g, i, none⟩ u) g t (cs.setIfInBounds i u) := by
  unfold BK at h ⊢; simp [World.setCell, Array.getElem?_modify, h]
theorem BK.far (h : BK w g t cs) {p : Addr} (hp : g ≠ p.block) (u : Value) : BK (w.setCell p u) g t cs := (Below.heap_setCell w p u g hp).trans h
theorem BK.below {B : Nat} (h : BK w g t cs) (hb : Below B w w') (hg : g < B) : BK w' g t cs := (hb.block g hg).trans h
end
section
variable {w w' : World} {B : Nat} {A : Option Addr} {xs : List Int}
theorem IS.below (h : IS w B A xs) (hb : Below B w w') : IS w' B A xs := fun hp => by
  obtain ⟨b, off, h1, h2, h3⟩ := h hp
  exact ⟨b, off, h1, h2, fun k hk => (hb.cell (p := ⟨b, off + k, none⟩) h2).trans (h3 k hk)⟩
theorem IS.more {B' : Nat} (h : IS w B A xs) (hB : B ≤ B') : IS w B' A xs := fun hp => by
  obtain ⟨b, off, h1, h2, h3⟩ := h hp
  exact ⟨b, off, h1, by omega, h3⟩
theorem IS.at (h : IS w B A xs) {k : Nat} (hk : k < xs.length) : ∃ b off, A = some ⟨b, off, none⟩ ∧ b < B ∧ ∀ j, j < xs.length → w.cell? ⟨b, off + j, none⟩ = some (.int .i64 (gt xs j)) := h (by omega)
end
theorem gt_mem {xs : List Int} {k : Nat} (h : k < xs.length) : gt xs k ∈ xs := by
  unfold gt; rw [List.getD_eq_getElem?_getD, List.getElem?_eq_getElem h]; exact List.getElem_mem h
theorem R64.gt {xs : List Int} (h : R64 xs) {k : Nat} (hk : k < xs.length) : -9223372036854775808 ≤ gt xs k ∧ gt xs k ≤ 9223372036854775807 := h _ (gt_mem hk)
theorem gt_ext {xs ys : List Int} (h : xs.length = ys.length) (h' : ∀ k, k < xs.length → Go.Proofs.Ythjoegoeaiemdaa.gt xs k = Go.Proofs.Ythjoegoeaiemdaa.gt ys k) : xs = ys := by
  apply List.ext_getElem h
  intro i h1 h2
  have := h' i h1
  simpa [Go.Proofs.Ythjoegoeaiemdaa.gt, List.getElem?_eq_getElem h1, List.getElem?_eq_getElem h2] using this
/-- A slice of int64 made by the call: block g from B on, all of it. -/
def NS (w : World) (B : Nat) (g : Nat) (xs : List Int) : Prop := B ≤ g ∧ ∃ cs : Array Value, BK w g 2 cs ∧ cs.size = xs.length ∧ ∀ k, k < xs.length → cs[k]? = some (.int .i64 (gt xs k))
theorem NS.is {w : World} {B g : Nat} {xs : List Int} (h : NS w B g xs) : IS w w.heap.size (some ⟨g, 0, none⟩) xs := fun _ => by
  obtain ⟨_, cs, h1, h2, h3⟩ := h
  exact ⟨g, 0, rfl, h1.lt, fun k hk => by rw [Nat.zero_add, h1.cell]; exact h3 k hk⟩
theorem NS.below {w w' : World} {B B' g : Nat} {xs : List Int} (h : NS w B g xs) (hb : Below B' w w') (hg : g < B') : NS w' B g xs := by
  obtain ⟨h0, cs, h1, h2, h3⟩ := h
  exact ⟨h0, cs, h1.below hb hg, h2, h3⟩
theorem NS.lt {w : World} {B g : Nat} {xs : List Int} (h : NS w B g xs) : g < w.heap.size := by
  obtain ⟨h0, cs, h1, h2, h3⟩ := h
  exact h1.lt
theorem infoI64 : (Try.prog.info? 2).map (fun i => (i.zero, i.size, i.bytes)) = some (some (.int .i64 0), 1, 8) := by kernel_rfl
end Go.Proofs.Ythjoegoeaiemdaa
/- Contracts and walks: IsType, SignOfType, SizeOfType. -/
namespace Go.Proofs.Ythjoegoeaiemdaa
set_option linter.unusedVariables false
set_option linter.unusedSimpArgs false
open Go.RowKit

/-- wr is w behind some draws. -/
def DR (w wr : World) : Prop := ∃ m, wr = w.drewN m
theorem DR.refl (w : World) : DR w w := ⟨0, rfl⟩
theorem DR.step {w wr : World} (h : DR w wr) (k : Nat) : DR w (wr.drewN k) := by
  obtain ⟨m, rfl⟩ := h; exact ⟨m + k, by rw [World.drewN_drewN]⟩
theorem DR.cell {w wr : World} (h : DR w wr) (a : Addr) : wr.cell? a = w.cell? a := by
  obtain ⟨m, rfl⟩ := h; rfl
theorem DR.out {w wr : World} (h : DR w wr) : ∃ m, wr = w.drewN m := h
theorem DR.more {w wr : World} {n : Nat} (h : DR (w.drewN n) wr) : DR w wr := by
  obtain ⟨m, rfl⟩ := h; exact ⟨n + m, by rw [World.drewN_drewN]⟩
/-- The list is a type: from 1 to 6, not falling, the sum from 1 to 6. -/
def TypeP (xs : List Int) : Prop := (∀ k, k < xs.length → 1 ≤ gt xs k ∧ gt xs k ≤ 6 ∧ (0 < k → gt xs (k - 1) ≤ gt xs k)) ∧ 1 ≤ xs.sum ∧ xs.sum ≤ 6
noncomputable def typeB (xs : List Int) : Bool := @decide (TypeP xs) (Classical.propDecidable _)
theorem typeB_t {xs : List Int} (h : TypeP xs) : true = typeB xs := by simp [typeB, h]
theorem typeB_f {xs : List Int} (h : ¬ TypeP xs) : false = typeB xs := by simp [typeB, h]
theorem typeB_p {xs : List Int} (h : typeB xs = true) : TypeP xs := by simpa [typeB] using h
def sumTo (xs : List Int) (k : Nat) : Int := (xs.take k).sum
theorem sumTo_zero (xs : List Int) : sumTo xs 0 = 0 := by simp [sumTo]
theorem sumTo_succ {xs : List Int} {k : Nat} (h : k < xs.length) : sumTo xs (k + 1) = sumTo xs k + gt xs k := by
  unfold sumTo gt
  rw [List.take_succ_eq_append_getElem h, List.sum_append, List.getD_eq_getElem?_getD, List.getElem?_eq_getElem h]
  simp
theorem sumTo_all (xs : List Int) : sumTo xs xs.length = xs.sum := by simp [sumTo]
theorem sumTo_bd {xs : List Int} {lo hi : Int} : ∀ k, k ≤ xs.length → (∀ j, j < k → lo ≤ gt xs j ∧ gt xs j ≤ hi) → lo * k ≤ sumTo xs k ∧ sumTo xs k ≤ hi * k := by
  intro k
  induction k with
  | zero => intro _ _; rw [sumTo_zero]; simp
  | succ k ih =>
    intro hk h
    have h1 := ih (by omega) (fun j hj => h j (by omega))
    have h2 := h k (by omega)
    rw [sumTo_succ (by omega)]
    have e1 : lo * ((k + 1 : Nat) : Int) = lo * k + lo := by rw [Int.natCast_succ, Int.mul_add, Int.mul_one]
    have e2 : hi * ((k + 1 : Nat) : Int) = hi * k + hi := by rw [Int.natCast_succ, Int.mul_add, Int.mul_one]
    omega
theorem sumTo_mono {xs : List Int} : ∀ m k, k ≤ m → m ≤ xs.length → (∀ j, j < xs.length → 0 ≤ gt xs j) → sumTo xs k ≤ sumTo xs m := by
  intro m
  induction m with
  | zero => intro k hk _ _; obtain rfl : k = 0 := by omega
            omega
  | succ m ih =>
    intro k hk hm h
    rcases Nat.lt_or_ge m k with h1 | h1
    · obtain rfl : k = m + 1 := by omega
      omega
    · have h2 := ih k h1 (by omega) h
      rw [sumTo_succ (by omega)]
      have := h m (by omega)
      omega
theorem TypeP.len {xs : List Int} (h : TypeP xs) : 1 ≤ xs.length ∧ xs.length ≤ 6 := by
  have h1 := sumTo_bd (xs := xs) (lo := 1) (hi := 6) xs.length (Nat.le_refl _) (fun j hj => ⟨(h.1 j hj).1, (h.1 j hj).2.1⟩)
  rw [sumTo_all] at h1
  have := h.2
  omega
end Go.Proofs.Ythjoegoeaiemdaa
/- Walks of the laws: IsType, SignOfType, SizeOfType. -/
namespace Go.Proofs.Ythjoegoeaiemdaa
set_option linter.unusedVariables false
set_option linter.unusedSimpArgs false
open Go.RowKit

theorem IS.drewN {w : World} {B : Nat} {A : Option Addr} {xs : List Int} (h : IS w B A xs) (n : Nat) : IS (w.drewN n) B A xs := h
theorem NS.drewN {w : World} {B g : Nat} {xs : List Int} (h : NS w B g xs) (n : Nat) : NS (w.drewN n) B g xs := h
theorem IS.call {w w' : World} {A : Option Addr} {xs : List Int} (h : IS w w.heap.size A xs) (hb : Below w.heap.size w w') : IS w' w'.heap.size A xs := (h.below hb).more hb.size
theorem TypeP.bd {xs : List Int} (h : TypeP xs) : ∀ k, k < xs.length → -1000000000 ≤ gt xs k ∧ gt xs k ≤ 1000000000 := fun k hk => by
  have := h.1 k hk; omega
theorem TypeP.sum_ge {xs : List Int} (h : TypeP xs) : (xs.length : Int) ≤ xs.sum := by
  have h1 := sumTo_bd (xs := xs) (lo := 1) (hi := 6) xs.length (Nat.le_refl _) (fun j hj => ⟨(h.1 j hj).1, (h.1 j hj).2.1⟩)
  rw [sumTo_all] at h1
  omega
def sgnI (n : Int) : Int := if n % 2 = 1 then -1 else 1
noncomputable def sgV (xs : List Int) : Int := if typeB xs then sgnI (xs.sum - xs.length) else 0
noncomputable def sgC (xs : List Int) : Int := if typeB xs then 0 else 1
def fact : Nat → Nat
  | 0 => 1
  | k + 1 => (k + 1) * fact k
theorem fact_le {k : Nat} (h : k ≤ 6) : 1 ≤ fact k ∧ fact k ≤ 720 := by
  have : k = 0 ∨ k = 1 ∨ k = 2 ∨ k = 3 ∨ k = 4 ∨ k = 5 ∨ k = 6 := by omega
  rcases this with rfl | rfl | rfl | rfl | rfl | rfl | rfl <;> decide
theorem fact_pos : ∀ k : Nat, 1 ≤ fact k
  | 0 => Nat.le_refl _
  | k + 1 => by
    have h := fact_pos k
    have : k + 1 ≤ (k + 1) * fact k := Nat.le_mul_of_pos_right _ h
    rw [fact]; omega
theorem fact_self : ∀ k : Nat, k ≤ fact k
  | 0 => by simp
  | k + 1 => Nat.le_mul_of_pos_right _ (fact_pos k)
set_option maxHeartbeats 400000 in
theorem i_factorial (n : Int) (w : World) (h0 : 1 ≤ n) (h1 : n ≤ 6) : Calls Try.prog 154 #[.int .i64 n] w (Q (.int .i64 (fact n.toNat : Nat)) w) := by
  obtain ⟨n, rfl⟩ := Int.eq_ofNat_of_zero_le (show 0 ≤ n by omega)
  go_enter Try.func154, Try.ntmps154
  go_wp2_with (fail)
  go_loop [3, 4] (fun u v => ∃ k o : Nat, 2 ≤ k ∧ k ≤ n + 1 ∧ u = .int .i64 o ∧ v = .int .i64 k ∧ Hid (o = fact (k - 1))) (fun _ v => 10 - (intOf v).toNat)
  case atStart => exact ⟨2, 1, by omega, by omega, rfl, rfl, rfl⟩
  case round =>
    obtain ⟨k, o, hk, hk', rfl, rfl, HO⟩ := hrel
    by_cases hlt : k ≤ n
    · have hf := fact_le (k := k) (by omega)
      have he : fact k = o * k := by rw [HO.out]; cases k with
        | zero => omega
        | succ k => rw [fact, Nat.mul_comm]; rfl
      rw [he] at hf
      have hm : (o : Int) * (k : Int) = ((o * k : Nat) : Int) := by simp
      have hm1 : 0 ≤ (o : Int) * (k : Int) := by rw [hm]; omega
      have hm2 : (o : Int) * (k : Int) ≤ 720 := by rw [hm]; omega
      have HE := Lib.hid he
      clear hm he
      go_wp2_with (fail)
      go_round
      case rel => exact ⟨k + 1, o * k, by omega, by omega, by simp, by go_num, HE.out.symm⟩
      case measure => simp [intOf]; omega
    · obtain rfl : k = n + 1 := by omega
      go_wp2_with (fail)
      go_ret
      exact ⟨ret_int (by rw [HO.out]; simp), 0, rfl⟩
set_option maxHeartbeats 400000 in
theorem s_l21Factorial (n : Int) (w : World) (h0 : 1 ≤ n) (h1 : n ≤ 6) : Calls Try.prog 119 #[.int .i64 n] w (Q (.int .i64 (fact n.toNat : Nat)) w) := by
  obtain ⟨n, rfl⟩ := Int.eq_ofNat_of_zero_le (show 0 ≤ n by omega)
  have hn6 := fact_le (k := n) (by omega)
  go_enter Try.func119, Try.ntmps119
  go_wp2_with (fail)
  go_loop [0, 3] (fun v u => ∃ m o : Nat, 1 ≤ m ∧ m ≤ n ∧ u = .int .i64 o ∧ v = .int .i64 m ∧ Hid (o * fact m = fact n)) (fun v _ => (intOf v).toNat)
  case atStart => exact ⟨n, 1, by omega, by omega, rfl, rfl, by unfold Hid; omega⟩
  case round =>
    obtain ⟨m, o, hm, hm', rfl, rfl, HO⟩ := hrel
    by_cases hlt : 1 < m
    · have hle : o * m ≤ 720 := by
        have h1 := Nat.mul_le_mul_left o (fact_self m)
        have h2 := HO.out
        omega
      have hx : (o : Int) * (m : Int) = ((o * m : Nat) : Int) := by simp
      have hx1 : 0 ≤ (o : Int) * (m : Int) := by rw [hx]; omega
      have hx2 : (o : Int) * (m : Int) ≤ 720 := by rw [hx]; omega
      clear hx
      go_wp2_with (fail)
      go_round
      case rel => exact ⟨m - 1, o * m, by omega, by omega, by simp, by congr 1; omega, by
        obtain ⟨m, rfl⟩ : ∃ q, m = q + 1 := ⟨m - 1, by omega⟩
        have := HO.out
        rw [fact, ← Nat.mul_assoc] at this
        exact this⟩
      case measure => simp [intOf]; omega
    · obtain rfl : m = 1 := by omega
      go_wp2_with (fail)
      go_ret
      refine ⟨ret_int ?_, 0, rfl⟩
      have := HO.out
      simp [fact] at this
      rw [this]
end Go.Proofs.Ythjoegoeaiemdaa
/- Contracts and walk: SizeOfType. -/
namespace Go.Proofs.Ythjoegoeaiemdaa
set_option linter.unusedVariables false
set_option linter.unusedSimpArgs false
open Go.RowKit

/-- What is left of the count, and how many equal numbers stand behind one another, after k numbers. -/
def szF (xs : List Int) : Nat → Int × Int
  | 0 => ((fact xs.sum.toNat : Nat), 0)
  | k + 1 =>
    let e := if 0 < k ∧ gt xs k = gt xs (k - 1) then (szF xs k).2 + 1 else 1
    ((szF xs k).1 / gt xs k / e, e)
theorem szF_succ (xs : List Int) (k : Nat) : szF xs (k + 1) = ((szF xs k).1 / gt xs k / (if 0 < k ∧ gt xs k = gt xs (k - 1) then (szF xs k).2 + 1 else 1), if 0 < k ∧ gt xs k = gt xs (k - 1) then (szF xs k).2 + 1 else 1) := rfl
theorem szF_bd {xs : List Int} (h : TypeP xs) : ∀ k, k ≤ xs.length → 0 ≤ (szF xs k).1 ∧ (szF xs k).1 ≤ 720 ∧ 0 ≤ (szF xs k).2 ∧ (szF xs k).2 ≤ k := by
  intro k
  induction k with
  | zero =>
    intro _
    have := fact_le (k := xs.sum.toNat) (by have := h.2.2; omega)
    simp only [szF]; omega
  | succ k ih =>
    intro hk
    have h1 := ih (by omega)
    have h2 := h.1 k (by omega)
    rw [szF_succ]
    have h3 : 1 ≤ (if 0 < k ∧ gt xs k = gt xs (k - 1) then (szF xs k).2 + 1 else 1) ∧ (if 0 < k ∧ gt xs k = gt xs (k - 1) then (szF xs k).2 + 1 else 1) ≤ k + 1 := by split <;> omega
    have h4 : 0 ≤ (szF xs k).1 / gt xs k := Int.ediv_nonneg h1.1 (by omega)
    have h5 : (szF xs k).1 / gt xs k ≤ (szF xs k).1 := Int.ediv_le_self _ h1.1
    exact ⟨Int.ediv_nonneg h4 (by omega), Int.le_trans (Int.ediv_le_self _ h4) (by omega), by omega, by omega⟩
noncomputable def soV (xs : List Int) : Int := if typeB xs then (szF xs xs.length).1 else 0
end Go.Proofs.Ythjoegoeaiemdaa
