/- Contracts and walk: ClosenessAt. -/
import Derived.Test.YtlhkpepnklbnfaaA29
import Derived.Test.YtlhkpepnklbnfaaA24
import Derived.IntWalk
namespace Go.Proofs.Ytlhkpepnklbnfaa
set_option linter.unusedVariables false
set_option linter.unusedSimpArgs false
open Go.RowKit

theorem two_boxes (w : World) (t t' : TypeId) (cs cs' : Array Value) : BK ((w.alloc (.cells cs t)).alloc (.cells cs' t')) w.heap.size t cs ∧ BK ((w.alloc (.cells cs t)).alloc (.cells cs' t')) (w.heap.size + 1) t' cs' := by
  refine ⟨(BK.new w t cs).alloc _, ?_⟩
  have h := BK.new (w.alloc (.cells cs t)) t' cs'
  rw [World.size_alloc] at h
  exact h
theorem BK.two {w : World} {g : Nat} {t : TypeId} {x y : Value} (h : BK w g t #[x, y]) : w.cell? ⟨g, 0, none⟩ = some x ∧ w.cell? ⟨g, 1, none⟩ = some y ∧ w.frozen? ⟨g, 0, none⟩ = false ∧ w.frozen? ⟨g, 1, none⟩ = false :=
  ⟨h.cell 0, h.cell 1, h.frozen 0, h.frozen 1⟩
theorem BK.of_below {w w' : World} {g : Nat} {t : TypeId} {cs : Array Value} (h : BK w g t cs) (hb : Below w.heap.size w w') : BK w' g t cs := h.below hb h.lt
def sm4 (a b c d : Int) : Bool := inB a (-1000000) 1000000 && (inB b (-1000000) 1000000 && (inB c (-1000000) 1000000 && inB d (-1000000) 1000000))
def twoC (a b c d : Int) : Int := if sm4 a b c d then 0 else 2
theorem inB_le {d : Int} (h1 : 1 ≤ d) : inB d (-1000000) 1000000 = decide (d ≤ 1000000) := by
  rw [Bool.eq_iff_iff, decide_eq_true_iff]
  exact ⟨fun h => (inB_true h).2, fun h => inB_mk (by omega) h⟩
set_option maxHeartbeats 1000000 in
theorem s_l05Two (a b c d : Int) (w : World) (h1 : ratB a b = true) (h2 : ratB c d = true) : Calls Try.prog 54 #[.agg #[.int .i64 a, .int .i64 b], .agg #[.int .i64 c, .int .i64 d]] w (M (.int .i64 (twoC a b c d)) w) := by
  have x1 := ratB_bd h1
  have x2 := ratB_bd h2
  have e1 := inB_le (d := b) (by omega)
  have e2 := inB_le (d := d) (by omega)
  have HT : Hid (twoC a b c d = if inB a (-1000000) 1000000 && (decide (b ≤ 1000000) && (inB c (-1000000) 1000000 && decide (d ≤ 1000000))) then 0 else 2) := by unfold Hid twoC sm4; rw [e1, e2]
  clear x1 x2 e1 e2
  cases k1 : inB a (-1000000) 1000000 <;> cases k2 : inB c (-1000000) 1000000 <;> by_cases k3 : b ≤ 1000000 <;> by_cases k4 : d ≤ 1000000
  all_goals
    have HX := HT.out
    simp only [k1, k2, k3, k4] at HX
    simp at HX
    have HY := Lib.hid HX
    clear HX HT
    go_enter Try.func54, Try.ntmps54
    go_wp2_with (fail)
    obtain ⟨B1, B2⟩ := two_boxes w 26 26 #[.int .i64 a, .int .i64 b] #[.int .i64 c, .int .i64 d]
    refine (s_IsRational _ _ _).mono ?_
    rw [h1]
    rintro e w1 ⟨rfl, hb1⟩
    have b1 := bel_call (two_alloc w _ _) hb1
    obtain ⟨c1, c2, c3, c4⟩ := (B1.of_below hb1).two
    obtain ⟨d1, d2, d3, d4⟩ := (B2.of_below hb1).two
    go_wp2_with (fail)
    refine (s_IsRational _ _ _).mono ?_
    rw [h2]
    rintro e w2 ⟨rfl, hb2⟩
    have b2 := bel_call b1 hb2
    obtain ⟨e1, e2, e3, e4⟩ := ((B1.of_below hb1).of_below hb2).two
    obtain ⟨f1, f2, f3, f4⟩ := ((B2.of_below hb1).of_below hb2).two
    clear c1 c2 c3 c4 d1 d2 d3 d4 hb1 hb2 b1 B1 B2
    go_wp2_with (go_at_call 64; refine (s_l01In _ _ _ _).mono ?_; rintro e w' ⟨rfl, nq, rfl⟩; first | rw [k1] | rw [k2])
    go_ret
    refine ⟨ret_int HY.out.symm, ?_⟩
    repeat (first | exact b2 | refine below_drewN ?_ _)
def g4 (a b c d : Int) (k : Nat) : Int := gt [a, b, c, d] k
theorem g4_all {a b c d : Int} (h : ∀ k, k < 4 → inB (g4 a b c d k) (-1000000) 1000000 = true) : sm4 a b c d = true := by
  have h0 := h 0 (by omega)
  have h1 := h 1 (by omega)
  have h2 := h 2 (by omega)
  have h3 := h 3 (by omega)
  simp [g4, gt] at h0 h1 h2 h3
  unfold sm4
  rw [h0, h1, h2, h3]; rfl
theorem g4_not {a b c d : Int} {k : Nat} (hk : k < 4) (h : inB (g4 a b c d k) (-1000000) 1000000 = false) : sm4 a b c d = false := by
  have hk' : k = 0 ∨ k = 1 ∨ k = 2 ∨ k = 3 := by omega
  unfold sm4
  rcases hk' with rfl | rfl | rfl | rfl <;> simp [g4, gt] at h <;> simp [h]
set_option maxHeartbeats 1000000 in
theorem i_areSmall (a b c d : Int) (w : World) (h1 : ratB a b = true) (h2 : ratB c d = true) : Calls Try.prog 58 #[.agg #[.int .i64 a, .int .i64 b], .agg #[.int .i64 c, .int .i64 d]] w (M (.int .i64 (twoC a b c d)) w) := by
  go_enter Try.func58, Try.ntmps58
  go_wp2_with (fail)
  obtain ⟨B1, B2⟩ := two_boxes w 26 26 #[.int .i64 a, .int .i64 b] #[.int .i64 c, .int .i64 d]
  refine (i_IsRational _ _ _).mono ?_
  rw [h1]
  rintro e w1 ⟨rfl, hb1⟩
  have b1 := bel_call (two_alloc w _ _) hb1
  obtain ⟨c1, c2, c3, c4⟩ := (B1.of_below hb1).two
  obtain ⟨d1, d2, d3, d4⟩ := (B2.of_below hb1).two
  go_wp2_with (fail)
  refine (i_IsRational _ _ _).mono ?_
  rw [h2]
  rintro e w2 ⟨rfl, hb2⟩
  have b2 := bel_call b1 hb2
  obtain ⟨e1, e2, e3, e4⟩ := ((B1.of_below hb1).of_below hb2).two
  obtain ⟨f1, f2, f3, f4⟩ := ((B2.of_below hb1).of_below hb2).two
  clear c1 c2 c3 c4 d1 d2 d3 d4 hb1 hb2 b1 B1 B2
  go_wp2_with (fail)
  have hB := BK.new w2 2 #[.int .i64 a, .int .i64 b, .int .i64 c, .int .i64 d]
  have hs2 := b2.size
  have b3 := b2.alloc b2.size (.cells #[.int .i64 a, .int .i64 b, .int .i64 c, .int .i64 d] 2)
  generalize hwo : w2.alloc (.cells #[.int .i64 a, .int .i64 b, .int .i64 c, .int .i64 d] 2) = wo at *
  clear hwo e1 e2 e3 e4 f1 f2 f3 f4
  go_loopw [25] (fun u wr => ∃ k : Nat, k ≤ 4 ∧ u = .int .i64 k ∧ Hid (∀ j, j < k → inB (g4 a b c d j) (-1000000) 1000000 = true) ∧ DR wo wr) (fun u _ => 4 - (intOf u).toNat)
  case atStart => exact ⟨0, by omega, rfl, fun j hj => by omega, DR.refl _⟩
  case round =>
    obtain ⟨k, hk, rfl, HI, hdr⟩ := hrel
    by_cases hlt : k < 4
    · have hcell : wr.cell? ⟨w2.heap.size, k, none⟩ = some (.int .i64 (g4 a b c d k)) := by
        rw [hdr.cell, hB.cell]
        have hk' : k = 0 ∨ k = 1 ∨ k = 2 ∨ k = 3 := by omega
        rcases hk' with rfl | rfl | rfl | rfl <;> simp [g4, gt]
      cases hin : inB (g4 a b c d k) (-1000000) 1000000
      · have HX : Hid (twoC a b c d = 2) := by unfold Hid twoC; rw [g4_not hlt hin]; rfl
        go_wp2_with (go_at_call 106; refine (i_within _ _ _ _).mono ?_; rintro e w' ⟨rfl, nq, rfl⟩; rw [hin])
        go_ret
        refine ⟨ret_int HX.out.symm, ?_⟩
        obtain ⟨m, rfl⟩ := hdr
        repeat (first | exact b3 | refine below_drewN ?_ _)
      · go_wp2_with (go_at_call 106; refine (i_within _ _ _ _).mono ?_; rintro e w' ⟨rfl, nq, rfl⟩; rw [hin])
        go_roundw
        case rel =>
          refine ⟨k + 1, by omega, by go_num, fun j hj => ?_, by repeat (first | assumption | refine DR.step ?_ _)⟩
          by_cases hjk : j = k
          · subst hjk; exact hin
          · exact HI.out j (by omega)
        case measure => simp [intOf]; omega
    · obtain rfl : k = 4 := by omega
      have HX : Hid (twoC a b c d = 0) := by unfold Hid twoC; rw [g4_all HI.out]; rfl
      go_wp2_with (fail)
      go_ret
      refine ⟨ret_int HX.out.symm, ?_⟩
      obtain ⟨m, rfl⟩ := hdr
      repeat (first | exact b3 | refine below_drewN ?_ _)
end Go.Proofs.Ytlhkpepnklbnfaa
