/- RationalRoots: the law's own looks at lists of rational numbers. -/
import Derived.Test.YtglijcdnnaekkaaA296
import Derived.Test.YtglijcdnnaekkaaA20
namespace Go.Proofs.Ytglijcdnnaekkaa
set_option linter.unusedVariables false
set_option linter.unusedSimpArgs false
open Go.RowKit

/-- Pairs, one number behind the other. -/
def flQ : List (Int × Int) → List Int
  | [] => []
  | x :: l => x.1 :: x.2 :: flQ l
theorem flQ_len : ∀ l, (flQ l).length = l.length * 2
  | [] => rfl
  | x :: l => by simp [flQ, flQ_len l]; omega
theorem rC_fl : ∀ l, rC l = ints (flQ l)
  | [] => rfl
  | x :: l => by
    have h := rC_fl l
    simp only [rC, flQ, ints, List.map_cons] at h ⊢
    rw [h]
theorem fl_cell {w : World} {base g n c k : Nat} {xs : List Int} (ho : w.ownsRow base 46 2 (.slice (some ⟨g, 0, none⟩) n c) n (ints xs)) (hn : xs.length = n * 2) (hk : k < n) :
    w.cell? ⟨g, k * 2, none⟩ = some (.int .i64 (gt xs (k * 2))) ∧ w.cell? ⟨g, k * 2 + 1, none⟩ = some (.int .i64 (gt xs (k * 2 + 1))) := by
  obtain ⟨g', hg, _, _, hc⟩ := own_src ho (by omega)
  have hg : g = g' := by injection hg with h; injection h
  subst hg
  exact ⟨hc _ _ (ints_at (by omega)), hc _ _ (ints_at (by omega))⟩
set_option maxHeartbeats 1000000 in
theorem l_eqRationalS (A A' : Option Addr) (n c c' base base' : Nat) (l : List (Int × Int)) (w : World) (hn : n = l.length) (hl : n ≤ 1000)
    (ho : w.ownsRow base 46 2 (.slice A n c) n (rC l)) (ho' : w.ownsRow base' 46 2 (.slice A' n c') n (rC l)) :
    Calls Try.prog 10 #[.slice A n c, .slice A' n c'] w (M (.bool true) w) := by
  rw [rC_fl] at ho ho'
  have hxl := flQ_len l
  rw [← hn] at hxl
  generalize flQ l = xs at *
  have HX := Lib.hid hxl
  clear hn hxl
  go_enter Try.func10, Try.ntmps10
  go_wp2_with (fail)
  go_loopw [5] (fun u wr => ∃ k : Nat, k ≤ n ∧ u = .int .i64 k ∧ Below w.heap.size w wr) (fun u _ => n - (intOf u).toNat)
  case atStart => exact ⟨0, Nat.zero_le _, rfl, Below.refl _ _⟩
  case round =>
    obtain ⟨ws, rfl⟩ : ∃ ws : World, ws = wr := ⟨_, rfl⟩
    obtain ⟨k, hk, rfl, hb⟩ := hrel
    by_cases hlt : k < n
    · have ow := own_below ho hb
      have ow' := own_below ho' hb
      obtain ⟨g, rfl, _⟩ := own_src ow (by omega)
      obtain ⟨g', rfl, _⟩ := own_src ow' (by omega)
      obtain ⟨e1, e2⟩ := fl_cell ow HX.out hlt
      obtain ⟨e1', e2'⟩ := fl_cell ow' HX.out hlt
      have hz := hb.size
      generalize gt xs (k * 2) = x at *
      generalize gt xs (k * 2 + 1) = y at *
      have hc1 := l_eqRational x y ws.drew
      clear ow ow'
      go_wp2_with (fail)
      go_region_law
        (go_simp; first
          | (go_at_call 26; refine hc1.mono ?_; rintro e w2 ⟨rfl, hb2⟩; have hb2 : Below ws.heap.size ws w2 := undrew (n := 1) hb2))
      all_goals
        go_wp2_with (fail)
        go_roundw
        case rel => exact ⟨k + 1, by omega, by go_num, hb.trans (hb2.mono hz)⟩
        case measure => simp [intOf]; omega
    · obtain rfl : k = n := by omega
      go_wp2_with (fail)
      go_ret
      exact ⟨rfl, hb⟩
set_option maxHeartbeats 1000000 in
theorem l_markRationalS (A : Option Addr) (n c k base : Nat) (xs : List Int) (w : World) (hn : xs.length = n * 2) (hl : n ≤ 1000) (hk : k ≤ 1000) (ho : w.ownsRow base 46 2 (.slice A n c) n (ints xs)) :
    Calls Try.prog 13 #[.slice A n c, .int .i64 k] w (fun e w' => e = .returned (.int .i64 (((k + n * 2 : Nat)) : Int)) ∧ w'.ownsRow base 46 2 (.slice A n c) n (ints (marks k (n * 2))) ∧ w.grownBy w' (Value.slice A n c).ownBlock) := by
  have HN := Lib.hid hn
  clear hn
  go_enter Try.func13, Try.ntmps13
  go_wp2_with (fail)
  go_loopw [1, 5] (fun u1 u5 wr => ∃ i : Nat, i ≤ n ∧ u5 = .int .i64 i ∧ u1 = .int .i64 ((k : Int) + (i : Int) * 2) ∧ Hid (wr.ownsRow base 46 2 (.slice A n c) n (ints (cur k xs (i * 2)))) ∧ w.grownBy wr (Value.slice A n c).ownBlock) (fun _ u5 _ => n - (intOf u5).toNat)
  case atStart => exact ⟨0, Nat.zero_le _, rfl, by go_num, by show World.ownsRow _ _ _ _ _ _ _; rw [Nat.zero_mul, cur_zero]; exact ho, World.grownBy.refl _ _⟩
  case round =>
    obtain ⟨ws, rfl⟩ : ∃ ws : World, ws = wr := ⟨_, rfl⟩
    obtain ⟨i, hi, rfl, rfl, HO, hg⟩ := hrel
    by_cases hlt : i < n
    · have ho' := HO.out
      obtain ⟨g, rfl, _⟩ := own_src ho' (by omega)
      have hl0 : (cur k xs (i * 2)).length = n * 2 := by rw [cur_length, HN.out]
      obtain ⟨c0, c1⟩ := fl_cell ho' hl0 hlt
      have f0 := ho'.frozenAt (i * 2)
      have s0 := ho'.stored (i * 2) (.int .i64 (((k + i * 2 : Nat)) : Int))
      rw [cur_set (by rw [HN.out]; omega)] at s0
      have f1 := s0.1.frozenAt (i * 2 + 1)
      have c1' := (fl_cell s0.1 (show (cur k xs (i * 2 + 1)).length = n * 2 by rw [cur_length, HN.out]) hlt).2
      have s1 := s0.1.stored (i * 2 + 1) (.int .i64 (((k + (i * 2 + 1) : Nat)) : Int))
      rw [cur_set (by rw [HN.out]; omega), show i * 2 + 1 + 1 = (i + 1) * 2 by omega] at s1
      have k0 : (((k + i * 2 : Nat)) : Int) = (k : Int) + (i : Int) * 2 := by omega
      have k1 : (((k + (i * 2 + 1) : Nat)) : Int) = (k : Int) + (i : Int) * 2 + 1 := by omega
      rw [k1] at s1
      rw [k0] at s0 s1 f1 c1'
      have HS1 := Lib.hid s1
      have HG0 := Lib.hid s0.2
      generalize gt (cur k xs (i * 2)) (i * 2) = v0 at *
      generalize gt (cur k xs (i * 2)) (i * 2 + 1) = v1 at *
      generalize gt (cur k xs (i * 2 + 1)) (i * 2 + 1) = v2 at *
      clear s0 s1 k0 k1 hl0 ho'
      go_wp2_with (fail)
      go_roundw
      case rel => exact ⟨i + 1, by omega, by go_num, by go_num, HS1.out.1, grown_trans hg (grown_trans HG0.out HS1.out.2)⟩
      case measure => simp [intOf]; omega
    · obtain rfl : i = n := by omega
      go_wp2_with (fail)
      go_ret
      refine ⟨by go_num, ?_, hg⟩
      have ho' := HO.out
      rw [← HN.out, cur_all, HN.out] at ho'
      exact ho'
set_option maxHeartbeats 1000000 in
theorem l_heldRationalS (A : Option Addr) (n c k base : Nat) (w : World) (hl : n ≤ 1000) (hk : k ≤ 1000) (ho : w.ownsRow base 46 2 (.slice A n c) n (ints (marks k (n * 2)))) :
    Calls Try.prog 14 #[.slice A n c, .int .i64 k] w (Q (.int .i64 (((k + n * 2 : Nat)) : Int)) w) := by
  go_enter Try.func14, Try.ntmps14
  go_wp2_with (fail)
  go_loopw [1, 5] (fun u1 u5 wr => ∃ i : Nat, i ≤ n ∧ u5 = .int .i64 i ∧ u1 = .int .i64 ((k : Int) + (i : Int) * 2) ∧ DR w wr) (fun _ u5 _ => n - (intOf u5).toNat)
  case atStart => exact ⟨0, Nat.zero_le _, rfl, by go_num, DR.refl _⟩
  case round =>
    obtain ⟨ws, rfl⟩ : ∃ ws : World, ws = wr := ⟨_, rfl⟩
    obtain ⟨i, hi, rfl, rfl, hdr⟩ := hrel
    by_cases hlt : i < n
    · have how : ws.ownsRow base 46 2 (.slice A n c) n (ints (marks k (n * 2))) := by obtain ⟨q, rfl⟩ := hdr; exact ho
      obtain ⟨g, rfl, _⟩ := own_src how (by omega)
      obtain ⟨c0, c1⟩ := fl_cell how (by rw [marks_length]) hlt
      rw [marks_at (by omega)] at c0 c1
      have k0 : (((k + i * 2 : Nat)) : Int) = (k : Int) + (i : Int) * 2 := by omega
      have k1 : (((k + (i * 2 + 1) : Nat)) : Int) = (k : Int) + (i : Int) * 2 + 1 := by omega
      rw [k0] at c0
      rw [k1] at c1
      clear how k0 k1
      go_wp2_with (fail)
      go_roundw
      case rel => exact ⟨i + 1, by omega, by go_num, by go_num, by repeat (first | exact hdr | refine DR.step ?_ _)⟩
      case measure => simp [intOf]; omega
    · obtain rfl : i = n := by omega
      go_wp2_with (fail)
      go_ret
      exact ⟨by go_num, hdr⟩
end Go.Proofs.Ytglijcdnnaekkaa
