/- Contracts: the points of a polynomial; StrassmannCount. -/
import Derived.Test.YthjoegoeaiemdaaA30
import Derived.Test.YthjoegoeaiemdaaA16
import Derived.Test.YthjoegoeaiemdaaA13
namespace Go.Proofs.Ythjoegoeaiemdaa
set_option linter.unusedVariables false
set_option linter.unusedSimpArgs false
open Go.RowKit

theorem own_drewN {w : World} {base n : Nat} {e : TypeId} {size : Nat} {v : Value} {xs : List Value} (h : w.ownsRow base e size v n xs) (k : Nat) : (w.drewN k).ownsRow base e size v n xs := h
/-- The points of the first k coefficients. -/
def ptl (p : Nat) (xs : List Int) : Nat → List (Int × Int)
  | 0 => []
  | k + 1 => if gt xs k = 0 then ptl p xs k else ptl p xs k ++ [((k : Int), (val p (gt xs k).natAbs : Int))]
theorem ptl_no {p : Nat} {xs : List Int} {k : Nat} (h : gt xs k = 0) : ptl p xs (k + 1) = ptl p xs k := if_pos h
theorem ptl_yes {p : Nat} {xs : List Int} {k : Nat} (h : ¬ gt xs k = 0) : ptl p xs (k + 1) = ptl p xs k ++ [((k : Int), (val p (gt xs k).natAbs : Int))] := if_neg h
theorem ptl_len (p : Nat) (xs : List Int) : ∀ k, (ptl p xs k).length ≤ k := by
  intro k
  induction k with
  | zero => exact Nat.le_refl _
  | succ k ih =>
    by_cases h : gt xs k = 0
    · rw [ptl_no h]; omega
    · rw [ptl_yes h, List.length_append]; simp; exact ih
theorem ptl_pos (p : Nat) (xs : List Int) : ∀ k, ∀ x ∈ ptl p xs k, 0 ≤ x.1 := by
  intro k
  induction k with
  | zero => intro x hx; simp [ptl] at hx
  | succ k ih =>
    intro x hx
    by_cases h : gt xs k = 0
    · rw [ptl_no h] at hx; exact ih x hx
    · rw [ptl_yes h] at hx
      rcases List.mem_append.1 hx with h1 | h1
      · exact ih x h1
      · simp at h1; rw [h1]; exact Int.natCast_nonneg _
theorem gp_mem {l : List (Int × Int)} {k : Nat} (h : k < l.length) : gp l k ∈ l := by
  unfold gp; rw [List.getD_eq_getElem?_getD, List.getElem?_eq_getElem h]; exact List.getElem_mem h
theorem infoCor : (Try.prog.info? 101).map (fun i => (i.zero, i.size, i.bytes)) = some (some (.agg #[.int .i64 0, .int .i64 0]), 2, 16) := by kernel_rfl
theorem two_src (w : World) (a b : Value) (t : TypeId) : ∀ ad, some (⟨w.heap.size, 0, none⟩ : Addr) = some ad → ∀ j u, [a, b][j]? = some u → (w.alloc (.cells #[a, b] t)).cell? (ad.add j) = some u := by
  intro ad h
  injection h with h
  subst h
  exact two_cells w a b t
theorem cell_heap {w w' : World} {b : Nat} (h : w'.heap[b]? = w.heap[b]?) (o : Nat) : w'.cell? ⟨b, o, none⟩ = w.cell? ⟨b, o, none⟩ := by simp [World.cell?, h]
theorem Mid.set {s1 : Nat} {w wr : World} (hm : Mid s1 w wr) {p : Addr} (hp : p.block < s1) (u : Value) : Mid s1 w (wr.setCell p u) :=
  ⟨by rw [World.size_setCell]; exact hm.1, fun b h1 h2 => (Below.heap_setCell wr p u b (by omega)).trans (hm.2 b h1 h2)⟩
theorem Mid.draws {s1 : Nat} {w wr : World} (hm : Mid s1 w wr) (n : Nat) : Mid s1 w (wr.drewN n) := hm
/-- What an owned slice of pairs reads as, in a world that has kept its block. -/
theorem own_pair {w wr : World} {base n c : Nat} {e : TypeId} {A : Option Addr} {l : List (Int × Int)} (h : w.ownsRow base e 2 (.slice A n c) n (pcells l)) (hm : Mid base w wr) (hn : n = l.length) {k : Nat} (hk : k < l.length) :
    ∃ g, A = some ⟨g, 0, none⟩ ∧ base ≤ g ∧ g < w.heap.size ∧ wr.cell? ⟨g, k * 2, none⟩ = some (.int .i64 (gp l k).1) ∧ wr.cell? ⟨g, k * 2 + 1, none⟩ = some (.int .i64 (gp l k).2) := by
  obtain ⟨g, rfl, h1, h2, h3⟩ := own_src h (by omega)
  have h4 := pcells_at l k hk
  refine ⟨g, rfl, h1, h2, ?_, ?_⟩
  · rw [cell_heap (hm.2 g h1 h2)]; exact h3 _ _ h4.1
  · rw [cell_heap (hm.2 g h1 h2)]; exact h3 _ _ h4.2
/-- A slice of pairs, made by the call. -/
def FC (l : List (Int × Int)) (w : World) (e : Ending) (w' : World) : Prop := ∃ A cap, e = .returned (.slice A l.length cap) ∧ w'.ownsRow w.heap.size 101 2 (.slice A l.length cap) l.length (pcells l) ∧ Below w.heap.size w w'
set_option maxHeartbeats 2000000 in
theorem s_l13Points (p : Int) (A : Option Addr) (n c : Nat) (xs : List Int) (w : World) (hn : n = xs.length) (hl : n ≤ 9) (hs : IS w w.heap.size A xs) (hb : ∀ k, k < xs.length → -1000000 ≤ gt xs k ∧ gt xs k ≤ 1000000) (hp : 2 ≤ p) (hp' : p ≤ 97) :
    Calls Try.prog 97 #[.int .i64 p, .slice A n c] w (FC (ptl p.toNat xs n) w) := by
  obtain ⟨i0, hi, hz0, hz1, hz2⟩ := info_parts infoCor
  have HN := Lib.hid hn
  have HB := Lib.hid hb
  clear hn hb
  go_enter Try.func97, Try.ntmps97
  go_wp2_with (fail)
  go_loopw [5, 6] (fun u5 u6 wr => ∃ k L : Nat, k ≤ n ∧ L ≤ k ∧ u6 = .int .i64 k ∧ Hid (L = (ptl p.toNat xs k).length) ∧ wr.ownsRow w.heap.size 101 2 u5 L (pcells (ptl p.toNat xs k)) ∧ Below w.heap.size w wr) (fun _ u6 _ => n - (intOf u6).toNat)
  case atStart =>
    refine ⟨0, 0, by omega, by omega, rfl, rfl, ?_, ?_⟩
    · exact World.ownsRow_lit w #[] 0 (Nat.le_refl _) (by simp [maxLen]) rfl
    · exact (Below.refl _ _).alloc (Nat.le_refl _) _
  case round =>
    obtain ⟨k, L, hk, hL, rfl, HL, hown, hbw⟩ := hrel
    obtain ⟨A1, c1, rfl, _⟩ := own_slice' hown
    by_cases hlt : k < n
    · obtain ⟨b, off, rfl, hbb, hcell⟩ := IS.at hs (k := k) (by rw [← HN.out]; exact hlt)
      have hc1 := (hbw.cell (p := ⟨b, off + k, none⟩) hbb).trans (hcell k (by rw [← HN.out]; exact hlt))
      clear hcell
      obtain ⟨hg1, hg2⟩ := HB.out k (by rw [← HN.out]; exact hlt)
      by_cases h0 : gt xs k = 0
      · have hz : (gt xs k != 0) = false := by rw [h0]; rfl
        have HP : Hid (ptl p.toNat xs (k + 1) = ptl p.toNat xs k) := ptl_no h0
        clear h0
        go_wp2_with (fail)
        go_roundw
        case rel => exact ⟨k + 1, L, by omega, by omega, by go_num, by rw [HP.out]; exact HL, by rw [HP.out]; exact hown, hbw⟩
        case measure => simp [intOf]; omega
      · have hz : (gt xs k != 0) = true := by simpa using h0
        have HP : Hid (ptl p.toNat xs (k + 1) = ptl p.toNat xs k ++ [((k : Int), (val p.toNat (gt xs k).natAbs : Int))]) := ptl_yes h0
        have H0 := Lib.hid h0
        clear h0
        generalize hvv : (val p.toNat (gt xs k).natAbs : Int) = vv at HP
        have HVV := Lib.hid hvv
        clear hvv
        have hsz := hbw.size
        obtain ⟨wo, rfl⟩ : ∃ wo : World, wo = wr := ⟨_, rfl⟩
        go_wp2_with (fail)
        refine (s_l01Valuation _ _ _ (by omega) (by omega) H0.out hp hp').mono ?_
        rw [HVV.out]
        rintro e w' ⟨rfl, nq, rfl⟩
        go_wp2_with (at_builtin; go_loud (refine wpList_append_src rfl (.tmp 19) (.tmp 28) 102 rfl w.heap.size 101 i0 (.agg #[.int .i64 0, .int .i64 0]) 2 16 Try.underlying102 hi hz0 hz1 hz2 rfl (by omega) (.slice A1 L c1) L (pcells (ptl p.toNat xs k)) rfl (World.ownsRow.alloc (own_drewN hown nq) _) (some ⟨wo.heap.size, 0, none⟩) 1 1 [.int .i64 (k : Int), .int .i64 vv] rfl rfl (two_src (wo.drewN nq) _ _ _) (by intro h; cases h) (by intro u hu; simp at hu; rcases hu with rfl | rfl <;> rfl) (by simp only [maxLen]; omega) (by omega) (by simp; omega) ?_); intro v2 w3 hown2 hg2 hat2; clear hat2)
        have hb1 : Below w.heap.size w w3 := ((below_drewN hbw nq).alloc hbw.size _).grown hg2 (by simp; omega) (fun g hg => (hown.lt g hg).1)
        clear hg2
        go_roundw
        case rel =>
          refine ⟨k + 1, L + 1, by omega, by omega, by go_num, ?_, by rw [HP.out, pcells_snoc]; exact hown2, hb1⟩
          unfold Hid; rw [HP.out, List.length_append, HL.out]; rfl
        case measure => simp [intOf]; omega
    · obtain rfl : k = n := by omega
      go_wp2_with (fail)
      go_ret
      rw [HL.out]
      refine ⟨A1, c1, rfl, ?_, hbw⟩
      rw [HL.out] at hown
      exact hown
set_option maxHeartbeats 2000000 in
theorem i_points (p : Int) (A : Option Addr) (n c : Nat) (xs : List Int) (w : World) (hn : n = xs.length) (hl : n ≤ 9) (hs : IS w w.heap.size A xs) (hb : ∀ k, k < xs.length → -1000000 ≤ gt xs k ∧ gt xs k ≤ 1000000) (hp : 2 ≤ p) (hp' : p ≤ 97) :
    Calls Try.prog 95 #[.int .i64 p, .slice A n c] w (FC (ptl p.toNat xs n) w) := by
  obtain ⟨i0, hi, hz0, hz1, hz2⟩ := info_parts infoCor
  have HN := Lib.hid hn
  have HB := Lib.hid hb
  clear hn hb
  go_enter Try.func95, Try.ntmps95
  go_wp2_with (fail)
  go_loopw [5, 10] (fun u5 u6 wr => ∃ k L : Nat, k ≤ n ∧ L ≤ k ∧ u6 = .int .i64 k ∧ Hid (L = (ptl p.toNat xs k).length) ∧ wr.ownsRow w.heap.size 101 2 u5 L (pcells (ptl p.toNat xs k)) ∧ Below w.heap.size w wr) (fun _ u6 _ => n - (intOf u6).toNat)
  case atStart =>
    refine ⟨0, 0, by omega, by omega, rfl, rfl, ?_, ?_⟩
    · exact World.ownsRow_nil _ _ _ _
    · exact Below.refl _ _
  case round =>
    obtain ⟨k, L, hk, hL, rfl, HL, hown, hbw⟩ := hrel
    obtain ⟨A1, c1, rfl, _⟩ := own_slice' hown
    by_cases hlt : k < n
    · obtain ⟨b, off, rfl, hbb, hcell⟩ := IS.at hs (k := k) (by rw [← HN.out]; exact hlt)
      have hc1 := (hbw.cell (p := ⟨b, off + k, none⟩) hbb).trans (hcell k (by rw [← HN.out]; exact hlt))
      clear hcell
      obtain ⟨hg1, hg2⟩ := HB.out k (by rw [← HN.out]; exact hlt)
      by_cases h0 : gt xs k = 0
      · have hz : (gt xs k != 0) = false := by rw [h0]; rfl
        have HP : Hid (ptl p.toNat xs (k + 1) = ptl p.toNat xs k) := ptl_no h0
        clear h0
        go_wp2_with (fail)
        go_roundw
        case rel => exact ⟨k + 1, L, by omega, by omega, by go_num, by rw [HP.out]; exact HL, by rw [HP.out]; exact hown, hbw⟩
        case measure => simp [intOf]; omega
      · have hz : (gt xs k != 0) = true := by simpa using h0
        have HP : Hid (ptl p.toNat xs (k + 1) = ptl p.toNat xs k ++ [((k : Int), (val p.toNat (gt xs k).natAbs : Int))]) := ptl_yes h0
        have H0 := Lib.hid h0
        clear h0
        generalize hvv : (val p.toNat (gt xs k).natAbs : Int) = vv at HP
        have HVV := Lib.hid hvv
        clear hvv
        have hsz := hbw.size
        obtain ⟨wo, rfl⟩ : ∃ wo : World, wo = wr := ⟨_, rfl⟩
        go_wp2_with (fail)
        refine (i_valuation _ _ _ (by omega) (by omega) H0.out hp hp').mono ?_
        rw [HVV.out]
        rintro e w' ⟨rfl, nq, rfl⟩
        go_wp2_with (at_builtin; go_loud (refine wpList_append_src rfl (.tmp 17) (.tmp 23) 102 rfl w.heap.size 101 i0 (.agg #[.int .i64 0, .int .i64 0]) 2 16 Try.underlying102 hi hz0 hz1 hz2 rfl (by omega) (.slice A1 L c1) L (pcells (ptl p.toNat xs k)) rfl (World.ownsRow.alloc (own_drewN hown nq) _) (some ⟨wo.heap.size, 0, none⟩) 1 1 [.int .i64 (k : Int), .int .i64 vv] rfl rfl (two_src (wo.drewN nq) _ _ _) (by intro h; cases h) (by intro u hu; simp at hu; rcases hu with rfl | rfl <;> rfl) (by simp only [maxLen]; omega) (by omega) (by simp; omega) ?_); intro v2 w3 hown2 hg2 hat2; clear hat2)
        have hb1 : Below w.heap.size w w3 := ((below_drewN hbw nq).alloc hbw.size _).grown hg2 (by simp; omega) (fun g hg => (hown.lt g hg).1)
        clear hg2
        go_roundw
        case rel =>
          refine ⟨k + 1, L + 1, by omega, by omega, by go_num, ?_, by rw [HP.out, pcells_snoc]; exact hown2, hb1⟩
          unfold Hid; rw [HP.out, List.length_append, HL.out]; rfl
        case measure => simp [intOf]; omega
    · obtain rfl : k = n := by omega
      go_wp2_with (fail)
      go_ret
      rw [HL.out]
      refine ⟨A1, c1, rfl, ?_, hbw⟩
      rw [HL.out] at hown
      exact hown
end Go.Proofs.Ythjoegoeaiemdaa
