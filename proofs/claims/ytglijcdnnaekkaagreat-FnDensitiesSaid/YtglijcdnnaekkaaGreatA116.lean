/- Several parts of the proof in one text; each part says what it shows. Nothing is assumed. -/
import Derived.Test.YtglijcdnnaekkaaGreatA112
import Derived.Test.YtglijcdnnaekkaaGreatA88
import Derived.Test.YtglijcdnnaekkaaGreatA101
import Derived.Deep.RegionLaw
import Derived.Laws.Bits64b
/- The laws' dice: numbers that follow from a code. -/
namespace Go.Proofs.YtglijcdnnaekkaaGreat
set_option linter.unusedVariables false
set_option linter.unusedSimpArgs false
open Go.RowKit

/-- Block g holds dice over a code that lies below. -/
def DIC (w : World) (g : Nat) : Prop := ∃ (A : Option Addr) (n c i h : Nat), BK w g 100 #[.slice A n c, .int .i64 (i : Int), .int .u64 (h : Int)] ∧ i ≤ n ∧ n ≤ 4096 ∧ h < 18446744073709551616 ∧ YB w g A n
theorem DIC.lt {w : World} {g : Nat} (h : DIC w g) : g < w.heap.size := by
  obtain ⟨A, n, c, i, s, h1, _⟩ := h
  exact h1.lt
theorem DIC.below {w w' : World} {g B : Nat} (h : DIC w g) (hb : Below B w w') (hg : g < B) : DIC w' g := by
  obtain ⟨A, n, c, i, s, h1, h2, h3, h4, h5⟩ := h
  exact ⟨A, n, c, i, s, h1.below hb hg, h2, h3, h4, h5.below (hb.mono (by omega))⟩
theorem DIC.call {w w' : World} {g : Nat} (h : DIC w g) (hb : Below w.heap.size w w') : DIC w' g := h.below hb h.lt
theorem u64_wrap (v : Int) : ∃ h : Nat, IntKind.u64.wrap v = (h : Int) ∧ h < 18446744073709551616 := by
  refine ⟨(v % 18446744073709551616).toNat, ?_, ?_⟩
  · have h0 : 0 ≤ v % 18446744073709551616 := Int.emod_nonneg _ (by omega)
    rw [Int.toNat_of_nonneg h0]
    first
      | rfl
      | (unfold IntKind.wrap; simp [IntKind.bits, IntKind.signed])
  · have h0 : 0 ≤ v % 18446744073709551616 := Int.emod_nonneg _ (by omega)
    have h1 : v % 18446744073709551616 < 18446744073709551616 := Int.emod_lt_of_pos _ (by omega)
    omega
def DIX (w : World) (g : Nat) (A : Option Addr) (n c : Nat) (i : Int) : Prop := ∃ h : Nat, h < 18446744073709551616 ∧ BK w g 100 #[.slice A n c, .int .i64 i, .int .u64 (h : Int)]
theorem dix_new {w : World} {A : Option Addr} {n c : Nat} {v : Int} : DIX (w.alloc (.cells #[.slice A n c, .int .i64 0, .int .u64 (IntKind.u64.wrap v)] 100)) w.heap.size A n c 0 := by
  obtain ⟨h, e, hl⟩ := u64_wrap v
  rw [e]
  exact ⟨h, hl, BK.new _ _ _⟩
theorem dix_set {w : World} {g : Nat} {A : Option Addr} {n c : Nat} {i v : Int} {z : Value} (hb : BK w g 100 #[.slice A n c, .int .i64 i, z]) : DIX (w.setCell ⟨g, 2, none⟩ (.int .u64 (IntKind.u64.wrap v))) g A n c i := by
  obtain ⟨h, e, hl⟩ := u64_wrap v
  rw [e]
  exact ⟨h, hl, hb.set 2 _⟩
set_option maxHeartbeats 2000000 in
theorem l_roll (A : Option Addr) (n c : Nat) (seed : Int) (w : World) (hn : n ≤ 4096) (hs : YB w w.heap.size A n) :
    Calls Tryz.prog 22 #[.slice A n c, .int .u64 seed] w (fun e w' => e = .returned (.pointer (some ⟨w.heap.size, 0, none⟩)) ∧ DIC w' w.heap.size ∧ Below w.heap.size w w') := by
  go_enter Tryz.func22, Tryz.ntmps22
  go_wp2_with (fail)
  go_loopw [6] (fun u wr => ∃ k : Nat, k ≤ n ∧ u = .int .i64 k ∧ DIX wr w.heap.size A n c 0 ∧ Below w.heap.size w wr) (fun u _ => n - (intOf u).toNat)
  case atStart => exact ⟨0, Nat.zero_le _, rfl, dix_new, (Below.refl _ _).alloc (Nat.le_refl _) _⟩
  case round =>
    obtain ⟨wo, rfl⟩ : ∃ wo : World, wo = wr := ⟨_, rfl⟩
    obtain ⟨k, hk, rfl, ⟨h, hl, hB⟩, hb⟩ := hrel
    by_cases hlt : k < n
    · obtain ⟨b, off, rfl, hbb, x, hx, hc⟩ := hs.at hlt
      have e1 := (hb.cell (p := ⟨b, off + k, none⟩) hbb).trans hc
      obtain ⟨c0, c1, c2, f0, f1, f2⟩ := tri hB
      go_wp2_with (fail)
      go_region_law (fail)
      all_goals
        go_wp2_with (fail)
        go_roundw
        case rel => exact ⟨k + 1, by omega, by go_num, dix_set hB, (hb.setCell (p := ⟨w.heap.size, 2, none⟩) (Nat.le_refl _) _).drew⟩
        case measure => simp [intOf]; omega
    · go_wp2_with (fail)
      go_ret
      exact ⟨rfl, ⟨A, n, c, 0, h, hB, Nat.zero_le _, hn, hl, hs.below hb⟩, hb⟩
theorem yb_up {g B : Nat} {w w' : World} {A : Option Addr} {n : Nat} (h : YB w g A n) (hu : Up g B w w') (hB : g ≤ B) : YB w' g A n := fun h0 => by
  obtain ⟨b, off, e1, e2, e3⟩ := h h0
  refine ⟨b, off, e1, e2, fun k hk => ?_⟩
  obtain ⟨x, hx, hc⟩ := e3 k hk
  exact ⟨x, hx, (hu.cell (p := ⟨b, off + k, none⟩) (by show b < _; omega) (by show b ≠ g; omega)).trans hc⟩
theorem x_fact (V : Int) : ∃ q : Nat, q ≤ 16777215 ∧ wrap64 (bits BinOp.and IntKind.u64 (IntKind.u64.wrap V / 8589934592) 16777215) = (q : Int) := by
  obtain ⟨h, e, hl⟩ := u64_wrap V
  rw [e]
  have e2 : (h : Int) / 8589934592 = ((h / 8589934592 : Nat) : Int) := by omega
  have e3 : (16777215 : Int) = ((16777215 : Nat) : Int) := rfl
  rw [e2, e3, bits_and_u64_nat _ _ (by omega) (by omega)]
  obtain ⟨q, hq⟩ : ∃ q, q = h / 8589934592 &&& 16777215 := ⟨_, rfl⟩
  have hle : q ≤ 16777215 := by rw [hq]; exact Nat.and_le_right
  rw [← hq]
  exact ⟨q, hle, IntWalk.wrap64_in _ (by omega)⟩
set_option maxHeartbeats 2000000 in
theorem l_below (g m : Nat) (w : World) (h1 : 1 ≤ m) (hm : m ≤ 1000) (hs : DIC w g) :
    Calls Tryz.prog 23 #[.pointer (some ⟨g, 0, none⟩), .int .i64 m] w (fun e w' => ∃ r : Nat, e = .returned (.int .i64 r) ∧ r < m ∧ DIC w' g ∧ Up g w.heap.size w w') := by
  obtain ⟨A, n, c, i, h, hB, hi, hn, hl, hib⟩ := hs
  obtain ⟨c0, c1, c2, f0, f1, f2⟩ := tri hB
  have hgw := hB.lt
  obtain ⟨q, hq, hqe⟩ := x_fact (IntKind.u64.wrap ((h : Int) * 6364136223846793005) + 1442695040888963407)
  obtain ⟨h2, hl2, hB2⟩ := dix_set (v := IntKind.u64.wrap ((h : Int) * 6364136223846793005) + 1442695040888963407) hB
  have hup : Up g w.heap.size w (w.setCell ⟨g, 2, none⟩ (.int .u64 (IntKind.u64.wrap (IntKind.u64.wrap ((h : Int) * 6364136223846793005) + 1442695040888963407)))) := Up.refl.setCell 2 _
  have hlz : ((m : Int) == 0) = false := by rw [beq_eq_false_iff_ne]; omega
  go_enter Tryz.func23, Tryz.ntmps23
  go_wp2_with (fail)
  rw [hqe]
  generalize w.setCell ⟨g, 2, none⟩ (.int .u64 (IntKind.u64.wrap (IntKind.u64.wrap ((h : Int) * 6364136223846793005) + 1442695040888963407))) = w2 at *
  clear c0 c1 c2 f0 f1 f2 hqe
  obtain ⟨c0, c1, c2, f0, f1, f2⟩ := tri hB2
  by_cases hlt : i < n
  · obtain ⟨b, off, rfl, hbg, x, hx, hc⟩ := hib.at hlt
    have e1 := (hup.cell (p := ⟨b, off + i, none⟩) (by show b < _; omega) (by show b ≠ g; omega)).trans hc
    have w1 : IntKind.i64.wrap (x : Int) = (x : Int) := IntWalk.i64_in _ (by omega)
    have w3 : IntKind.i64.wrap ((q : Int) + (x : Int)) = (q : Int) + (x : Int) := IntWalk.i64_in _ (by omega)
    have w4 : IntKind.i64.wrap ((i : Int) + 1) = (i : Int) + 1 := IntWalk.i64_in _ (by omega)
    have hrem : Int.tmod ((q : Int) + (x : Int)) (m : Int) = (((q + x) % m : Nat) : Int) := by rw [show (q : Int) + (x : Int) = ((q + x : Nat) : Int) by omega, Int.tmod_eq_emod_of_nonneg (by omega)]; simp
    have hR : (q + x) % m < m := Nat.mod_lt _ (by omega)
    generalize (q + x) % m = R at *
    go_wp2_with (go_quiet (fail))
    go_wp2_with (go_quiet (fail))
    go_ret
    refine ⟨R, rfl, hR, ⟨some ⟨b, off, none⟩, n, c, i + 1, h2, ?_, by omega, hn, hl2, ?_⟩, ?_⟩
    · have e9 : (((i + 1 : Nat)) : Int) = (i : Int) + 1 := by omega
      rw [e9]
      exact (hB2.drewN _).set 1 (.int .i64 ((i : Int) + 1))
    · exact yb_up hib ((hup.drewN _).setCell 1 _) (by omega)
    · exact (hup.drewN _).setCell 1 _
  · have hrem : Int.tmod (q : Int) (m : Int) = ((q % m : Nat) : Int) := by rw [Int.tmod_eq_emod_of_nonneg (by omega)]; simp
    have hR : q % m < m := Nat.mod_lt _ (by omega)
    generalize q % m = R at *
    go_wp2_with (go_quiet (fail))
    go_ret
    exact ⟨R, rfl, hR, ⟨A, n, c, i, h2, hB2.drewN _, hi, hn, hl2, yb_up hib (hup.drewN _) (by omega)⟩, hup.drewN _⟩
end Go.Proofs.YtglijcdnnaekkaaGreat
/- Draws: a name of the library, a type. -/
namespace Go.Proofs.YtglijcdnnaekkaaGreat
set_option linter.unusedVariables false
set_option linter.unusedSimpArgs false
open Go.RowKit

/-- A draw that hands back one value of a kind. -/
def NXV (g : Nat) (P : Value → Prop) (w : World) (e : Ending) (w' : World) : Prop := ∃ v : Value, e = .returned v ∧ P v ∧ SRC w' g ∧ Up g w.heap.size w w'
set_option maxRecDepth 10000 in
set_option maxHeartbeats 1000000 in
theorem s_l24DrawName (g : Nat) (w : World) (hs : SRC w g) : Calls Tryz.prog 155 #[.pointer (some ⟨g, 0, none⟩)] w (NXV g (fun v => ∃ nb : ByteArray, v = .string nb) w) := by
  have hnx := fun W n h1 h => s_nextI g n h1 W h
  have hnm := fun W => s_l24Names W
  go_enter Tryz.func155, Tryz.ntmps155
  go_wp2_with (fail)
  refine (hnx _ 24 (by omega) hs).mono ?_
  rintro e w1 ⟨r, rfl, hr, hs1, hu1⟩
  by_cases hr0 : r = 0
  · have hz : ((r : Int) == 0) = true := by rw [beq_iff_eq]; omega
    have hs2 := hs1.call ((Below.refl w1.heap.size w1).alloc (Nat.le_refl _) (.cells #[.string ⟨#[]⟩, .string ⟨#[68, 51]⟩, .string ⟨#[99, 52]⟩, .string ⟨#[83, 54]⟩] 9))
    have hB := BK.new w1 9 #[.string ⟨#[]⟩, .string ⟨#[68, 51]⟩, .string ⟨#[99, 52]⟩, .string ⟨#[83, 54]⟩]
    have hg1 := hs1.lt
    clear hr0
    go_wp2_with (fail)
    refine (hnx _ 4 (by omega) hs2).mono ?_
    rintro e w2 ⟨k, rfl, hk, hs3, hu3⟩
    have hc : ∃ nb : ByteArray, w2.cell? ⟨w1.heap.size, k, none⟩ = some (.string nb) := by
      have h1 := (hu3.cell (p := ⟨w1.heap.size, k, none⟩) (by simp) (by show w1.heap.size ≠ g; omega)).trans (hB.cell k)
      have hk4 : k = 0 ∨ k = 1 ∨ k = 2 ∨ k = 3 := by omega
      rcases hk4 with rfl | rfl | rfl | rfl
      · exact ⟨_, h1⟩
      · exact ⟨_, h1⟩
      · exact ⟨_, h1⟩
      · exact ⟨_, h1⟩
    obtain ⟨nb, hc⟩ := hc
    have hup := (hu1.thenB ((Below.refl w1.heap.size w1).alloc (Nat.le_refl _) (.cells #[.string ⟨#[]⟩, .string ⟨#[68, 51]⟩, .string ⟨#[99, 52]⟩, .string ⟨#[83, 54]⟩] 9))).call hu3
    clear hB hs2 hu3 hu1
    go_wp2_with (fail)
    go_ret
    exact ⟨_, rfl, ⟨nb, rfl⟩, hs3, hup⟩
  · have hz : ((r : Int) == 0) = false := by rw [beq_eq_false_iff_ne]; omega
    clear hr0
    go_wp2_with (fail)
    refine (hnm _).mono ?_
    rintro e w2 ⟨b, rfl, hnb, hb2, hbw⟩
    have hs2 := hs1.call hb2
    have hg1 := hs1.lt
    go_wp2_with (fail)
    refine (hnx _ 14 (by omega) hs2).mono ?_
    rintro e w3 ⟨k, rfl, hk, hs3, hu3⟩
    obtain ⟨nb, _, hc⟩ := hnb.2 k (by omega)
    have hc := (hu3.cell (p := ⟨b, k, none⟩) hnb.1 (by show b ≠ g; omega)).trans hc
    have hup := (hu1.thenB hb2).call hu3
    clear hnb hs2 hu3 hu1 hb2
    go_wp2_with (fail)
    go_ret
    exact ⟨_, rfl, ⟨nb, rfl⟩, hs3, hup⟩
end Go.Proofs.YtglijcdnnaekkaaGreat
