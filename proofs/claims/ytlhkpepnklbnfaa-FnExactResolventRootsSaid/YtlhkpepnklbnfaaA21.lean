/- Contracts and walks: ResolventRoots. -/
import Derived.Test.YtlhkpepnklbnfaaA20
import Derived.Test.YtlhkpepnklbnfaaA16
namespace Go.Proofs.Ytlhkpepnklbnfaa
set_option linter.unusedVariables false
set_option linter.unusedSimpArgs false
open Go.RowKit

def pv (g : List Int) (y : Int) : Int := ((y + gt g 2) * y + gt g 1) * y + gt g 0
/-- The roots among k numbers from y on. -/
def rt (g : List Int) (y : Int) : Nat → List Int
  | 0 => []
  | k + 1 => (if pv g y = 0 then [y] else []) ++ rt g (y + 1) k
theorem rt_succ (g : List Int) (y : Int) (k : Nat) : rt g y (k + 1) = (if pv g y = 0 then [y] else []) ++ rt g (y + 1) k := rfl
theorem rt_split (g : List Int) : ∀ (a b : Nat) (y : Int), rt g y (a + b) = rt g y a ++ rt g (y + a) b := by
  intro a
  induction a with
  | zero => intro b y; simp [rt]
  | succ a ih =>
    intro b y
    rw [show a + 1 + b = (a + b) + 1 by omega, rt_succ, rt_succ, ih b (y + 1), List.append_assoc]
    congr 3
    omega
theorem rt_none (g : List Int) : ∀ (k : Nat) (y : Int), (∀ z, y ≤ z → z < y + k → pv g z ≠ 0) → rt g y k = [] := by
  intro k
  induction k with
  | zero => intro y _; rfl
  | succ k ih =>
    intro y h
    rw [rt_succ, if_neg (h y (by omega) (by omega)), ih (y + 1) (fun z h1 h2 => h z (by omega) (by omega))]
    rfl
theorem rt_len (g : List Int) : ∀ (k : Nat) (y : Int), (rt g y k).length ≤ k := by
  intro k
  induction k with
  | zero => intro y; simp [rt]
  | succ k ih =>
    intro y
    have := ih (y + 1)
    rw [rt_succ]
    split <;> simp <;> omega
theorem cauchy {g : List Int} {m y : Int} (h0 : -m ≤ gt g 0) (h0' : gt g 0 ≤ m) (h1 : -m ≤ gt g 1) (h2 : -m ≤ gt g 2) (h2' : gt g 2 ≤ m) (hm : 0 ≤ m) (hy : m + 2 ≤ y ∨ y ≤ -(m + 2)) : pv g y ≠ 0 := by
  unfold pv
  generalize gt g 0 = c at *
  generalize gt g 1 = b at *
  generalize gt g 2 = a at *
  rcases hy with hy | hy
  · have e1 : 2 * y ≤ (y + a) * y := Int.mul_le_mul_of_nonneg_right (by omega) (by omega)
    have e2 : 2 * y ≤ ((y + a) * y + b) * y := by
      have : 2 ≤ (y + a) * y + b := by omega
      exact Int.mul_le_mul_of_nonneg_right this (by omega)
    omega
  · have e1 : 2 * -y ≤ -(y + a) * -y := Int.mul_le_mul_of_nonneg_right (by omega) (by omega)
    rw [Int.neg_mul_neg] at e1
    have e2 : 2 * -y ≤ ((y + a) * y + b) * -y := by
      have : 2 ≤ (y + a) * y + b := by omega
      exact Int.mul_le_mul_of_nonneg_right this (by omega)
    have e3 : ((y + a) * y + b) * -y = -(((y + a) * y + b) * y) := Int.mul_neg _ _
    omega
theorem rt_bound {g : List Int} {b N0 : Nat} (hN0 : N0 = 40001) (hb : b ≤ 20000) (h0 : (gt g 0).natAbs + 1 ≤ b) (h1 : (gt g 1).natAbs + 1 ≤ b) (h2 : (gt g 2).natAbs + 1 ≤ b) : rt g (-(b : Int)) (2 * b + 1) = rt g (-20000) N0 := by
  have e : N0 = (20000 - b) + ((2 * b + 1) + (20000 - b)) := by omega
  clear hN0
  have f1 := rt_split g (20000 - b) ((2 * b + 1) + (20000 - b)) (-20000)
  have f2 := rt_split g (2 * b + 1) (20000 - b) (-20000 + ((20000 - b : Nat) : Int))
  have n1 := rt_none g (20000 - b) (-20000) (fun z z1 z2 => cauchy (m := b - 1) (by omega) (by omega) (by omega) (by omega) (by omega) (by omega) (by omega))
  have n2 := rt_none g (20000 - b) (-20000 + ((20000 - b : Nat) : Int) + ((2 * b + 1 : Nat) : Int)) (fun z z1 z2 => cauchy (m := b - 1) (by omega) (by omega) (by omega) (by omega) (by omega) (by omega) (by omega))
  rw [e, f1, f2, n1, n2, List.nil_append, List.append_nil]
  congr 1
  omega
/-- All roots of the cubic. -/
def rootsL (g : List Int) : List Int := rt g (-20000) 40001
theorem rootsL_eq {g : List Int} {N0 : Nat} (h : N0 = 40001) : rootsL g = rt g (-20000) N0 := by subst h; rfl
set_option maxHeartbeats 1000000 in
theorem s_l27Roots (N0 : Nat) (hN0 : (N0 : Int) = 40001) (A : Option Addr) (c : Nat) (g : List Int) (w1 : World) (hn : 4 = g.length) (hs : IS w1 w1.heap.size A g) (b0 : (gt g 0).natAbs ≤ 10000) (b1 : (gt g 1).natAbs ≤ 10000) (b2 : (gt g 2).natAbs ≤ 10000) :
    Calls Try.prog 96 #[.slice A 4 c] w1 (RV (rt g (-20000) N0) w1) := by
  have hN1 : N0 = 40001 := by omega
  have HN0 := Lib.hid hN0
  have HN1 := Lib.hid hN1
  have HG4 := Lib.hid hn
  clear hN0 hN1 hn
  obtain ⟨i0, hi, hz0, hz1, hz2⟩ := info_parts infoI64
  go_enter Try.func96, Try.ntmps96
  go_wp2_with (fail)
  go_loopw [3, 4] (fun u3 u4 wr => ∃ (y : Int) (k K : Nat) (acc : List Int), -(20000) ≤ y ∧ y + K = 20000 + 1 ∧ k ≤ 40001 ∧ k + K ≤ 40001 ∧ u4 = .int .i64 y ∧ Hid (acc ++ rt g y K = rt g (-(20000)) N0 ∧ k = acc.length) ∧ wr.ownsRow w1.heap.size 2 1 u3 k (ints acc) ∧ Below w1.heap.size w1 wr) (fun _ u4 _ => (20000 + 1 - intOf u4).toNat)
  case atStart => exact ⟨-20000, 0, N0, [], by omega, by have := HN0.out; omega, by omega, by have := HN1.out; omega, rfl, ⟨List.nil_append _, rfl⟩, World.ownsRow_lit w1 #[] 0 (Nat.le_refl _) (by simp [maxLen]) rfl, (Below.refl _ _).alloc (Nat.le_refl _) _⟩
  case round =>
    obtain ⟨y, k, K, acc, hy, hyK, hk, hkK, rfl, HG, hown, hb⟩ := hrel
    obtain ⟨A1, c1, rfl, _⟩ := own_slice' hown
    obtain ⟨wo, rfl⟩ : ∃ wo : World, wo = wr := ⟨_, rfl⟩
    have hsz := hb.size
    by_cases hlt : y ≤ 20000
    · obtain ⟨K, rfl⟩ : ∃ q, K = q + 1 := ⟨K - 1, by omega⟩
      obtain ⟨bk, off, rfl, _, hc⟩ := hs.at (k := 0) (by have := HG4.out; omega)
      have k0 := (hb.cell (p := ⟨bk, off + 0, none⟩) (by assumption)).trans (hc 0 (by have := HG4.out; omega))
      have k1 := (hb.cell (p := ⟨bk, off + 1, none⟩) (by assumption)).trans (hc 1 (by have := HG4.out; omega))
      have k2 := (hb.cell (p := ⟨bk, off + 2, none⟩) (by assumption)).trans (hc 2 (by have := HG4.out; omega))
      rw [Nat.add_zero] at k0
      have m1 := mul_bd (x := y + gt g 2) (y := y) (a := 40000) (b := 20000) (by omega) (by omega)
      have m2 := mul_bd (x := (y + gt g 2) * y + gt g 1) (y := y) (a := 1000000000) (b := 20000) (by omega) (by omega)
      clear hc
      by_cases hz : pv g y = 0
      · have hx : (((y + gt g 2) * y + gt g 1) * y + gt g 0 == 0) = true := by rw [beq_iff_eq]; exact hz
        have HZ := Lib.hid hz
        clear hz
        go_wp2_with (first | go_quiet (fail) | (at_builtin; refine wpList_append_src rfl (.tmp 28) (.tmp 30) 29 rfl w1.heap.size 2 i0 (.int .i64 0) 1 8 Try.underlying29 hi hz0 hz1 hz2 rfl (by omega) (.slice A1 k c1) k (ints acc) rfl (World.ownsRow.alloc hown _) (some ⟨wo.heap.size, 0, none⟩) 1 1 [.int .i64 y] rfl rfl (one_src wo _ _) (by intro h; cases h) (by intro u hu; simp at hu; subst hu; rfl) (by simp only [maxLen]; omega) (by omega) (by simp; omega) ?_; intro v2 w3 hown2 hg2 hat2))
        have hb3 : Below w1.heap.size w1 w3 := ((below_drewN hb nq).alloc hb.size _).grown hg2 (by simp; omega) (fun g hg => (hown.lt g hg).1)
        clear hg2 hat2
        go_roundw
        case rel =>
          first | refine ⟨y + 1, k + 1, K, acc ++ [y], by omega, by omega, by omega, by omega, rfl, ⟨?_, ?_⟩, ?_, hb3⟩ | ((repeat apply Exists.intro); refine ⟨⟨y + 1, k + 1, K, acc ++ [y], by omega, by omega, by omega, by omega, rfl, ⟨?_, ?_⟩, ?_, hb3⟩, rfl⟩)
          · have h1 := HG.out.1
            rw [rt_succ, if_pos HZ.out, ← List.append_assoc] at h1
            exact h1
          · have h1 := HG.out.2
            simp; exact h1
          · simpa [ints] using hown2
        case measure => simp [intOf]; omega
      · have hx : (((y + gt g 2) * y + gt g 1) * y + gt g 0 == 0) = false := by rw [beq_eq_false_iff_ne]; exact hz
        have HZ := Lib.hid hz
        clear hz
        go_wp2_with (first | go_quiet (fail))
        go_roundw
        case rel =>
          refine ⟨y + 1, k, K, acc, by omega, by omega, by omega, by omega, rfl, ⟨?_, HG.out.2⟩, hown, by repeat (first | exact hb | refine below_drewN ?_ _)⟩
          have h1 := HG.out.1
          rw [rt_succ, if_neg HZ.out, List.nil_append] at h1
          exact h1
        case measure => simp [intOf]; omega
    · obtain rfl : K = 0 := by omega
      have hfin : acc = rt g (-(20000)) N0 := by
        have h1 := HG.out.1
        rwa [rt, List.append_nil] at h1
      have hlen : k = (rt g (-(20000)) N0).length := by rw [← hfin]; exact HG.out.2
      have HF := Lib.hid hfin
      have HL := Lib.hid hlen
      clear hfin hlen
      go_wp2_with (fail)
      go_ret
      rw [HF.out] at hown
      rw [HL.out] at hown ⊢
      exact ⟨_, _, rfl, hown, hb⟩
theorem cubE_bd {xs : List Int} (hn : 5 = xs.length) (hall : ∀ k, k < xs.length → -20 ≤ gt xs k ∧ gt xs k ≤ 20) : (gt (cubE xs) 0).natAbs ≤ 10000 ∧ (gt (cubE xs) 1).natAbs ≤ 10000 ∧ (gt (cubE xs) 2).natAbs ≤ 10000 := by
  have e0 : gt (cubE xs) 0 = -(gt xs 3 * gt xs 3 * gt xs 0 - 4 * gt xs 2 * gt xs 0 + gt xs 1 * gt xs 1) := rfl
  have e1 : gt (cubE xs) 1 = gt xs 3 * gt xs 1 - 4 * gt xs 0 := rfl
  have e2 : gt (cubE xs) 2 = -gt xs 2 := rfl
  obtain ⟨d0, d1⟩ := hall 0 (by omega)
  obtain ⟨c0, c1⟩ := hall 1 (by omega)
  obtain ⟨b0, b1⟩ := hall 2 (by omega)
  obtain ⟨a0, a1⟩ := hall 3 (by omega)
  have m1 := mul_bd (x := gt xs 3) (y := gt xs 3) (a := 20) (b := 20) (by omega) (by omega)
  have m2 := mul_bd (x := gt xs 3 * gt xs 3) (y := gt xs 0) (a := 400) (b := 20) (by omega) (by omega)
  have m3 := mul_bd (x := 4 * gt xs 2) (y := gt xs 0) (a := 80) (b := 20) (by omega) (by omega)
  have m4 := mul_bd (x := gt xs 1) (y := gt xs 1) (a := 20) (b := 20) (by omega) (by omega)
  have m5 := mul_bd (x := gt xs 3) (y := gt xs 1) (a := 20) (b := 20) (by omega) (by omega)
  rw [e0, e1, e2]
  omega
theorem cubE_len (xs : List Int) : (cubE xs).length = 4 := rfl
theorem cubE_3 (xs : List Int) : gt (cubE xs) 3 = 1 := rfl
set_option maxRecDepth 100000 in
set_option maxHeartbeats 2000000 in
theorem i_resolventRoots (N0 : Nat) (hN0 : (N0 : Int) = 40001) (A : Option Addr) (c : Nat) (xs : List Int) (w : World) (B : Nat) (hn : 5 = xs.length) (hs : IS w B A xs) (hall : ∀ k, k < xs.length → -20 ≤ gt xs k ∧ gt xs k ≤ 20) :
    Calls Try.prog 97 #[.slice A 5 c] w (RV (rt (cubE xs) (-20000) N0) w) := by
  obtain ⟨i0, hi, hz0, hz1, hz2⟩ := info_parts infoI64
  have hN1 : N0 = 40001 := by omega
  have HN1 := Lib.hid hN1
  clear hN0 hN1
  obtain ⟨q0, q1, q2⟩ := cubE_bd hn hall
  have q3 := cubE_3 xs
  have HALL := Lib.hid hall
  have HN := Lib.hid hn
  clear hall hn
  go_enter Try.func97, Try.ntmps97
  go_wp2_with (fail)
  refine (i_cubicResolvent _ _ xs _ B HN.out hs HALL.out).mono ?_
  rintro e w1 ⟨A1, c1, rfl, o1, hb1⟩
  rw [cubE_len] at o1 ⊢
  have hlen4 := cubE_len xs
  generalize cubE xs = g at *
  have HG4 := Lib.hid hlen4.symm
  have hs := own_isn o1 HG4.out
  clear hlen4
  have H3 := Lib.hid q3
  clear q3
  go_wp2_with (fail)
  go_loopw [4, 13] (fun u4 u13 wr => ∃ (i : Nat) (b : Int), i ≤ 4 ∧ u13 = .int .i64 i ∧ u4 = .int .i64 b ∧ 1 ≤ b ∧ b ≤ 10001 ∧ Hid (∀ j, j < i → ((gt g j).natAbs : Int) + 1 ≤ b) ∧ DR w1 wr) (fun _ u13 _ => 4 - (intOf u13).toNat)
  case atStart => exact ⟨0, 1, by omega, rfl, rfl, by omega, by omega, fun j hj => by omega, DR.refl _⟩
  case round =>
    obtain ⟨i, b, hi4, rfl, rfl, hb0, hb1', HB, hdr⟩ := hrel
    by_cases hlt : i < 4
    · obtain ⟨bb, off, rfl, _, hcell⟩ := IS.at hs (k := i) (by rw [← HG4.out]; exact hlt)
      have hc1 := (hdr.cell _).trans (hcell i (by rw [← HG4.out]; exact hlt))
      clear hcell
      have hgi : (gt g i).natAbs ≤ 10000 := by
        have : i = 0 ∨ i = 1 ∨ i = 2 ∨ i = 3 := by omega
        rcases this with rfl | rfl | rfl | rfl
        · exact q0
        · exact q1
        · exact q2
        · rw [H3.out]; decide
      have ha := abs64_eq (n := gt g i) (by omega) (by omega)
      have HA := Lib.hid ha
      clear ha q0 q1 q2
      go_wp2_with (first | (go_at_call 114; refine (i_abs _ _).mono ?_; rintro e w' ⟨rfl, nq, rfl⟩; rw [HA.out]) | go_quiet ((go_at_call 114; first | exact Calls.quiet_of (i_abs _ _))))
      go_roundw
      case rel =>
        refine ⟨i + 1, _, by omega, by go_num, rfl, by split <;> omega, by split <;> omega, fun j hj => ?_, hdr.step _⟩
        by_cases hji : j = i
        · subst hji; split <;> omega
        · have := HB.out j (by omega)
          split <;> omega
      case measure => simp [intOf]; omega
    · obtain rfl : i = 4 := by omega
      obtain ⟨b, rfl⟩ := Int.eq_ofNat_of_zero_le (show 0 ≤ b by omega)
      obtain ⟨m, rfl⟩ := hdr
      have hE : rt g (-(b : Int)) (2 * b + 1) = rt g (-20000) N0 := rt_bound HN1.out (by omega) (by have := HB.out 0 (by omega); omega) (by have := HB.out 1 (by omega); omega) (by have := HB.out 2 (by omega); omega)
      have HE := Lib.hid hE
      clear hE
      go_wp2_with (fail)
      go_loopw [7, 8] (fun u3 u4 wr => ∃ (y : Int) (k K : Nat) (acc : List Int), -((b : Int)) ≤ y ∧ y + K = (b : Int) + 1 ∧ k ≤ 40001 ∧ k + K ≤ 40001 ∧ u4 = .int .i64 y ∧ Hid (acc ++ rt g y K = rt g (-((b : Int))) (2 * b + 1) ∧ k = acc.length) ∧ wr.ownsRow w1.heap.size 2 1 u3 k (ints acc) ∧ Below w1.heap.size w1 wr) (fun _ u4 _ => ((b : Int) + 1 - intOf u4).toNat)
      case atStart => exact ⟨-(b : Int), 0, 2 * b + 1, [], by omega, by omega, by omega, by omega, rfl, ⟨List.nil_append _, rfl⟩, World.ownsRow_nil _ _ _ _, below_drewN (Below.refl _ _) _⟩
      case round =>
        obtain ⟨y, k, K, acc, hy, hyK, hk, hkK, rfl, HG, hown, hb⟩ := hrel
        obtain ⟨A1, c1, rfl, _⟩ := own_slice' hown
        obtain ⟨wo, rfl⟩ : ∃ wo : World, wo = wr := ⟨_, rfl⟩
        have hsz := hb.size
        by_cases hlt : y ≤ (b : Int)
        · obtain ⟨K, rfl⟩ : ∃ q, K = q + 1 := ⟨K - 1, by omega⟩
          obtain ⟨bk, off, rfl, _, hc⟩ := hs.at (k := 0) (by have := HG4.out; omega)
          have k0 := (hb.cell (p := ⟨bk, off + 0, none⟩) (by assumption)).trans (hc 0 (by have := HG4.out; omega))
          have k1 := (hb.cell (p := ⟨bk, off + 1, none⟩) (by assumption)).trans (hc 1 (by have := HG4.out; omega))
          have k2 := (hb.cell (p := ⟨bk, off + 2, none⟩) (by assumption)).trans (hc 2 (by have := HG4.out; omega))
          rw [Nat.add_zero] at k0
          have m1 := mul_bd (x := y + gt g 2) (y := y) (a := 40000) (b := 20000) (by omega) (by omega)
          have m2 := mul_bd (x := (y + gt g 2) * y + gt g 1) (y := y) (a := 1000000000) (b := 20000) (by omega) (by omega)
          clear hc
          by_cases hz : pv g y = 0
          · have hx : (((y + gt g 2) * y + gt g 1) * y + gt g 0 == 0) = true := by rw [beq_iff_eq]; exact hz
            have HZ := Lib.hid hz
            clear hz
            go_wp2_with (first | go_quiet (fail) | (at_builtin; refine wpList_append_src rfl (.tmp 48) (.tmp 50) 29 rfl w1.heap.size 2 i0 (.int .i64 0) 1 8 Try.underlying29 hi hz0 hz1 hz2 rfl (by omega) (.slice A1 k c1) k (ints acc) rfl (World.ownsRow.alloc hown _) (some ⟨wo.heap.size, 0, none⟩) 1 1 [.int .i64 y] rfl rfl (one_src wo _ _) (by intro h; cases h) (by intro u hu; simp at hu; subst hu; rfl) (by simp only [maxLen]; omega) (by omega) (by simp; omega) ?_; intro v2 w3 hown2 hg2 hat2))
            have hb3 : Below w1.heap.size w1 w3 := ((below_drewN hb nq).alloc hb.size _).grown hg2 (by simp; omega) (fun g hg => (hown.lt g hg).1)
            clear hg2 hat2
            go_roundw
            case rel =>
              first | refine ⟨y + 1, k + 1, K, acc ++ [y], by omega, by omega, by omega, by omega, rfl, ⟨?_, ?_⟩, ?_, hb3⟩ | ((repeat apply Exists.intro); refine ⟨⟨y + 1, k + 1, K, acc ++ [y], by omega, by omega, by omega, by omega, rfl, ⟨?_, ?_⟩, ?_, hb3⟩, rfl⟩)
              · have h1 := HG.out.1
                rw [rt_succ, if_pos HZ.out, ← List.append_assoc] at h1
                exact h1
              · have h1 := HG.out.2
                simp; exact h1
              · simpa [ints] using hown2
            case measure => simp [intOf]; omega
          · have hx : (((y + gt g 2) * y + gt g 1) * y + gt g 0 == 0) = false := by rw [beq_eq_false_iff_ne]; exact hz
            have HZ := Lib.hid hz
            clear hz
            go_wp2_with (first | go_quiet (fail))
            go_roundw
            case rel =>
              refine ⟨y + 1, k, K, acc, by omega, by omega, by omega, by omega, rfl, ⟨?_, HG.out.2⟩, hown, by repeat (first | exact hb | refine below_drewN ?_ _)⟩
              have h1 := HG.out.1
              rw [rt_succ, if_neg HZ.out, List.nil_append] at h1
              exact h1
            case measure => simp [intOf]; omega
        · obtain rfl : K = 0 := by omega
          have hfin : acc = rt g (-((b : Int))) (2 * b + 1) := by
            have h1 := HG.out.1
            rwa [rt, List.append_nil] at h1
          have hlen : k = (rt g (-((b : Int))) (2 * b + 1)).length := by rw [← hfin]; exact HG.out.2
          have HF := Lib.hid hfin
          have HL := Lib.hid hlen
          clear hfin hlen
          go_wp2_with (fail)
          go_ret
          rw [HF.out, HE.out] at hown
          rw [HL.out, HE.out] at hown ⊢
          exact ⟨_, _, rfl, own_mono hown hb1.size, bel_call hb1 hb⟩
noncomputable def rrL (xs : List Int) : List Int := if codeM xs 4 4 = 0 then rootsL (cubE xs) else []
theorem rrL_len (xs : List Int) : (rrL xs).length ≤ 1048576 := by
  unfold rrL
  split
  · have := rt_len (cubE xs) 40001 (-20000)
    unfold rootsL
    omega
  · simp
set_option maxHeartbeats 1000000 in
theorem s_ResolventRoots (A : Option Addr) (n c : Nat) (xs : List Int) (w : World) (B : Nat) (hn : n = xs.length) (hl : n ≤ 1048576) (hs : IS w B A xs) :
    Calls Try.prog 43 #[.slice A n c] w (RS (rrL xs) (codeM xs 4 4) w) := by
  have HN := Lib.hid hn
  clear hn
  by_cases h0 : codeM xs 4 4 = 0
  · obtain ⟨N0, hN0⟩ : ∃ N0 : Nat, (N0 : Int) = 40001 := ⟨40001, rfl⟩
    have HX : Hid (rrL xs = rt (cubE xs) (-20000) N0) := by unfold Hid rrL; rw [if_pos h0]; exact rootsL_eq (by omega)
    obtain ⟨_, hm, hlo, hhi⟩ := codeM_0 h0
    have HALL := Lib.hid (modB_all hm)
    rw [← HN.out] at hlo hhi
    obtain rfl : n = 5 := by omega
    have H0 := Lib.hid h0
    have HQ := Lib.hid (cubE_bd HN.out HALL.out)
    have HN0 := Lib.hid hN0
    clear hm hlo hhi h0 hN0
    go_enter Try.func43, Try.ntmps43
    go_wp2_with (first | (go_at_call 60; refine (s_l27Code _ _ _ xs _ _ _ B HN.out hl hs).mono ?_; rintro e w' ⟨rfl, nq, rfl⟩; rw [H0.out]))
    refine (s_l27Cubic _ _ xs _ B HN.out (hs.drewN _) HALL.out).mono ?_
    rintro e w1 ⟨A0, c0, rfl, o0, hbx⟩
    have hbx := bel_call (below_drewN (Below.refl w.heap.size w) _) hbx
    rw [cubE_len] at o0 ⊢
    go_wp2_with (fail)
    refine (s_l27Roots N0 HN0.out _ _ (cubE xs) _ (cubE_len xs).symm (own_isn o0 (cubE_len xs).symm) HQ.out.1 HQ.out.2.1 HQ.out.2.2).mono ?_
    rintro e w2 ⟨A1, c1, rfl, o1, hb1⟩
    have hsz1 := hbx.size
    go_wp2_with (fail)
    rw [HX.out, H0.out]
    go_ret2
    exact ⟨A1, c1, rfl, own_mono o1 hsz1, bel_call hbx hb1⟩
  · have HX : Hid (rrL xs = []) := by unfold Hid rrL; rw [if_neg h0]
    have h0' : (codeM xs 4 4 != 0) = true := by simpa using h0
    clear h0
    go_enter Try.func43, Try.ntmps43
    go_wp2_with (first | (go_at_call 60; refine (s_l27Code _ _ _ xs _ _ _ B HN.out hl hs).mono ?_; rintro e w' ⟨rfl, nq, rfl⟩))
    rw [HX.out]
    go_ret2
    exact RS.nil (below_drewN (Below.refl _ _) _)
set_option maxHeartbeats 1000000 in
theorem i_ResolventRoots (A : Option Addr) (n c : Nat) (xs : List Int) (w : World) (B : Nat) (hn : n = xs.length) (hl : n ≤ 1048576) (hs : IS w B A xs) :
    Calls Try.prog 44 #[.slice A n c] w (RS (rrL xs) (codeM xs 4 4) w) := by
  have HN := Lib.hid hn
  clear hn
  by_cases h0 : codeM xs 4 4 = 0
  · obtain ⟨N0, hN0⟩ : ∃ N0 : Nat, (N0 : Int) = 40001 := ⟨40001, rfl⟩
    have HX : Hid (rrL xs = rt (cubE xs) (-20000) N0) := by unfold Hid rrL; rw [if_pos h0]; exact rootsL_eq (by omega)
    obtain ⟨_, hm, hlo, hhi⟩ := codeM_0 h0
    have HALL := Lib.hid (modB_all hm)
    rw [← HN.out] at hlo hhi
    obtain rfl : n = 5 := by omega
    have H0 := Lib.hid h0
    have HQ := Lib.hid (cubE_bd HN.out HALL.out)
    have HN0 := Lib.hid hN0
    clear hm hlo hhi h0 hN0
    go_enter Try.func44, Try.ntmps44
    go_wp2_with (first | (go_at_call 61; refine (i_moderate _ _ _ xs _ _ _ B HN.out hl hs).mono ?_; rintro e w' ⟨rfl, nq, rfl⟩; rw [H0.out]))
    refine (i_resolventRoots N0 HN0.out _ _ xs _ B HN.out (hs.drewN _) HALL.out).mono ?_
    rintro e w2 ⟨A1, c1, rfl, o1, hb1⟩
    have hbx : Below w.heap.size w (w.drewN nq) := below_drewN (Below.refl _ _) _
    have hsz1 := hbx.size
    go_wp2_with (fail)
    rw [HX.out, H0.out]
    go_ret2
    exact ⟨A1, c1, rfl, own_mono o1 hsz1, bel_call hbx hb1⟩
  · have HX : Hid (rrL xs = []) := by unfold Hid rrL; rw [if_neg h0]
    have h0' : (codeM xs 4 4 != 0) = true := by simpa using h0
    clear h0
    go_enter Try.func44, Try.ntmps44
    go_wp2_with (first | (go_at_call 61; refine (i_moderate _ _ _ xs _ _ _ B HN.out hl hs).mono ?_; rintro e w' ⟨rfl, nq, rfl⟩))
    rw [HX.out]
    go_ret2
    exact RS.nil (below_drewN (Below.refl _ _) _)
set_option maxHeartbeats 4000000 in
theorem law_ResolventRoots (A : Option Addr) (n c : Nat) (xs : List Int) (w : World) (hn : n = xs.length) (hc : n ≤ c) (hm : c ≤ maxLen) (hr : R64 xs) (hs : IS w w.heap.size A xs) :
    Calls Try.prog 12 #[.slice A n c] w (M (.bool true) w) := by
  unfold maxLen at hm
  have HN := Lib.hid hn
  clear hn hr
  by_cases hbig : 1048576 < n
  · go_enter Try.func12, Try.ntmps12
    go_wp2_with (fail)
    go_ret
    exact ⟨rfl, Below.refl _ _⟩
  have hl : n ≤ 1048576 := by omega
  clear hbig
  have hL0 : (rrL xs).length ≤ 1048576 := rrL_len xs
  generalize hlst : rrL xs = lst at *
  have HLST := Lib.hid hlst
  clear hlst
  generalize hcd : codeM xs 4 4 = cd at *
  have HCD := Lib.hid hcd
  clear hcd
  generalize hL : lst.length = L at hL0
  have HL := Lib.hid hL.symm
  clear hL
  go_enter Try.func12, Try.ntmps12
  go_wp2_with (fail)
  refine (l_toInt64S A n c xs _ HN.out hl hs).mono ?_
  rintro e w1 ⟨g1, rfl, hN1, b1⟩
  go_wp2_with (fail)
  refine (s_ResolventRoots _ _ _ xs _ w1.heap.size HN.out hl hN1.is).mono ?_
  rw [HLST.out, HCD.out]
  rintro e w2 ⟨A0, c0, rfl, o0, hb2⟩
  rw [← HL.out] at o0 ⊢
  have b2 := bel_call b1 hb2
  go_wp2_with (fail)
  refine (l_toInt64S A n c xs _ HN.out hl (hs.call b2)).mono ?_
  rintro e w3 ⟨g3, rfl, hN3, hb3⟩
  have b3 := bel_call b2 hb3
  have o03 := own_below o0 hb3
  go_wp2_with (fail)
  refine (i_ResolventRoots _ _ _ xs _ w3.heap.size HN.out hl hN3.is).mono ?_
  rw [HLST.out, HCD.out]
  rintro e w4 ⟨A1, c1, rfl, o1, hb4⟩
  rw [← HL.out] at o1 ⊢
  have b4 := bel_call b3 hb4
  have o04 := own_below o03 hb4
  have x4 := hN3.below hb4 hN3.lt
  go_wp2_with (fail)
  refine (l_eqInt64S _ _ L _ L _ lst _ _ _ HL.out HL.out (by omega) (own_isn o1 HL.out) (own_isn o04 HL.out)).mono ?_
  rintro e w5 ⟨rfl, q5, rfl⟩
  go_wp2_with (fail)
  refine (l_toInt64S A n c xs _ HN.out hl ((hs.call b4).drewN q5)).mono ?_
  rintro e w6 ⟨g6, rfl, hN6, hb6⟩
  have hb6 := undrew hb6
  have b6 := bel_call b4 hb6
  have x6 := x4.below hb6 x4.lt
  have o06 := own_below o04 hb6
  have o16 := own_below o1 hb6
  go_wp2_with (fail)
  refine (l_eqInt64S _ _ n _ n _ xs _ _ _ HN.out HN.out (by omega) x6.is hN6.is).mono ?_
  rintro e w7 ⟨rfl, q7, rfl⟩
  go_wp2_with (fail)
  refine (l_mark1 _ n n w2.heap.size xs _ HN.out hl ((x6.drewN q7).own' HN.out hl)).mono ?_
  rintro e w8 ⟨rfl, m8, g8⟩
  have g8 := undrewG g8
  have hg3 : w2.heap.size ≤ g3 ∧ g3 < w3.heap.size := ⟨hN3.1, hN3.lt⟩
  have o08 := kept_ge o0 o06 g8 (fun g hg => by simp [Value.ownBlock] at hg; omega)
  have o18 := kept_lt o16 g8 (fun g hg => by simp [Value.ownBlock] at hg; omega)
  have b8 : Below w.heap.size w w8 := b6.grown g8 b6.size (fun g hg => by simp [Value.ownBlock] at hg; have := b2.size; omega)
  clear g8 m8 x6 x4 hN6 hN1
  go_wp2_with (fail)
  refine (l_eqInt64S _ _ L _ L _ lst _ _ _ HL.out HL.out (by omega) (own_isn o18 HL.out) (own_isn o08 HL.out)).mono ?_
  rintro e w9 ⟨rfl, q9, rfl⟩
  go_wp2_with (fail)
  have o18q : (w8.drewN q9).ownsRow w3.heap.size 2 1 (.slice A1 L c1) L (ints lst) := o18
  refine (l_mark1 A1 L c1 w3.heap.size lst _ HL.out hL0 o18q).mono ?_
  rintro e w10 ⟨rfl, m10, g10⟩
  have g10 := undrewG g10
  have o010 := kept_ge o0 o08 g10 (fun g hg => by have := (o18.lt g hg).1; have := hb3.size; omega)
  have b10 : Below w.heap.size w w10 := b8.grown g10 b8.size (fun g hg => by have := (o18.lt g hg).1; have := b3.size; omega)
  clear g10
  go_wp2_with (fail)
  refine (l_held1 A1 L c1 _ _ hL0 (own_isn m10 (by rw [marks_length]))).mono ?_
  rintro e w11 ⟨rfl, q11, rfl⟩
  go_wp2_with (fail)
  refine (l_toInt64S A n c xs _ HN.out hl ((hs.call b10).drewN q11)).mono ?_
  rintro e w12 ⟨g12, rfl, hN12, hb12⟩
  have hb12 := undrew hb12
  have b12 := bel_call b10 hb12
  have o012 := own_below o010 hb12
  have m12 := own_below m10 hb12
  go_wp2_with (fail)
  refine (i_ResolventRoots _ _ _ xs _ w12.heap.size HN.out hl hN12.is).mono ?_
  rw [HLST.out, HCD.out]
  rintro e w13 ⟨A2, c2, rfl, o2, hb13⟩
  rw [← HL.out] at o2 ⊢
  have b13 := bel_call b12 hb13
  have o013 := own_below o012 hb13
  have m13 := own_below m12 hb13
  go_wp2_with (fail)
  refine (l_eqInt64S _ _ L _ L _ lst _ _ _ HL.out HL.out (by omega) (own_isn o2 HL.out) (own_isn o013 HL.out)).mono ?_
  rintro e w14 ⟨rfl, q14, rfl⟩
  go_wp2_with (fail)
  refine (l_held1 A1 L c1 _ _ hL0 ((own_isn m13 (by rw [marks_length])).drewN q14)).mono ?_
  rintro e w15 ⟨rfl, q15, rfl⟩
  go_wp2_with (fail)
  go_ret
  refine ⟨rfl, ?_⟩
  repeat (first | exact b13 | refine below_drewN ?_ _)
end Go.Proofs.Ytlhkpepnklbnfaa
