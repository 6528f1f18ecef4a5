/- Contracts and walk: strip, ProductOfAll's other side. -/
import Derived.Test.YthjoegoeaiemdaaA27
import Derived.Test.YthjoegoeaiemdaaA20
import Derived.Test.YthjoegoeaiemdaaA33
import Derived.Test.YthjoegoeaiemdaaA58
import Derived.IntWalk
namespace Go.Proofs.Ythjoegoeaiemdaa
set_option linter.unusedVariables false
set_option linter.unusedSimpArgs false
open Go.RowKit

/-- The primes below k that go into one of the two. -/
noncomputable def sup (a b : Nat) : Nat → List Int
  | 0 => []
  | k + 1 => if primeB (k : Int) = true ∧ (stp k a % k = 0 ∨ stp k b % k = 0) then sup a b k ++ [(k : Int)] else sup a b k
theorem sup_yes {a b k : Nat} (h : primeB (k : Int) = true) (h2 : stp k a % k = 0 ∨ stp k b % k = 0) : sup a b (k + 1) = sup a b k ++ [(k : Int)] := if_pos ⟨h, h2⟩
theorem sup_no {a b k : Nat} (h : ¬ (primeB (k : Int) = true ∧ (stp k a % k = 0 ∨ stp k b % k = 0))) : sup a b (k + 1) = sup a b k := if_neg h
theorem sup_len (a b : Nat) : ∀ k, (sup a b k).length ≤ k := by
  intro k
  induction k with
  | zero => exact Nat.le_refl _
  | succ k ih =>
    by_cases h : primeB (k : Int) = true ∧ (stp k a % k = 0 ∨ stp k b % k = 0)
    · rw [sup_yes h.1 h.2, List.length_append]; simp; exact ih
    · rw [sup_no h]; omega
theorem sup_2 (a b : Nat) : sup a b 2 = [] := by
  have h0 : primeB ((0 : Nat) : Int) = false := primeB_lt (by omega)
  have h1 : primeB ((1 : Nat) : Int) = false := primeB_lt (by omega)
  rw [sup_no (k := 1) (by rw [h1]; simp), sup_no (k := 0) (by rw [h0]; simp)]
  rfl
/-- A struct of two numbers, and a slice of the call's own. -/
def SR (x y : Int) (l : List Int) (w : World) (e : Ending) (w' : World) : Prop :=
  ∃ A cap, e = .returned (.tuple #[.agg #[.int .i64 x, .int .i64 y], .slice A l.length cap]) ∧ w'.ownsRow w.heap.size 2 1 (.slice A l.length cap) l.length (ints l) ∧ Below w.heap.size w w'
theorem ints_snoc (l : List Int) (x : Int) : ints (l ++ [x]) = ints l ++ [.int .i64 x] := by simp [ints]
theorem tmod_b {x k : Nat} : ((x : Int) % (k : Int) == 0) = decide (x % k = 0) := by
  rw [Bool.eq_iff_iff, beq_iff_eq, decide_eq_true_iff, ← Int.natCast_emod]
  omega
theorem i_valN (x k V : Nat) (w : World) (hV : Hid (val k x = V)) (b2 : x ≤ 1000000000000) (h0 : 0 < x) (hp : 2 ≤ k) (hp' : k ≤ 97) : Calls Try.prog 114 #[.int .i64 x, .int .i64 k] w (Q (.int .i64 (V : Nat)) w) := by
  have h := i_valuation (x : Int) k w (by omega) (by omega) (by omega) (by omega) (by omega)
  rw [Int.natAbs_natCast, Int.toNat_natCast, hV.out] at h
  exact h
theorem i_powN (k V Pw : Nat) (w : World) (hP : Hid (k ^ V = Pw ∧ V ≤ 1000)) (b2 : Pw ≤ 1000000000000) (hp : 2 ≤ k) : Calls Try.prog 109 #[.int .i64 k, .int .i64 V] w (Q (.int .i64 (Pw : Nat)) w) := by
  have h := i_power k V w (by rw [hP.out.1]; exact b2) (by omega) hP.out.2
  rw [hP.out.1] at h
  exact h
theorem parts_of {k x : Nat} (hk : 2 ≤ k) (h0 : 0 < x) (hx : x ≤ 1000000000000) : ∃ V Pw R : Nat, Hid (val k x = V) ∧ Hid (k ^ V = Pw ∧ V ≤ 1000) ∧ Hid ((x : Int) / (Pw : Int) = (R : Int)) ∧ Hid (rst k x = R) ∧ 0 < Pw ∧ Pw ≤ 1000000000000 ∧ 0 < R ∧ R ≤ x ∧ 0 ≤ (x : Int) / (Pw : Int) ∧ (x : Int) / (Pw : Int) ≤ 1000000000000 := by
  have h1 := val_mul hk x x (Nat.le_refl _) h0
  have h2 := val_bd hk h0
  have h3 := pow_val_le hk h0
  have h4 := val_le40 hk h0 hx
  have h5 : 0 < k ^ val k x := Nat.pow_pos (by omega)
  generalize hV : val k x = V at *
  generalize hR : rst k x = R at *
  generalize hP : k ^ V = Pw at *
  have h7 : (x : Int) = (Pw : Int) * (R : Int) := by rw [h1, Int.natCast_mul]
  have h6 : (x : Int) / (Pw : Int) = (R : Int) := by rw [h7]; exact Int.mul_ediv_cancel_left _ (by omega)
  exact ⟨V, Pw, R, rfl, ⟨hP, by omega⟩, h6, rfl, h5, by omega, h2.1, by omega, by rw [h6]; omega, by rw [h6]; omega⟩
set_option maxRecDepth 10000 in
set_option maxHeartbeats 4000000 in
theorem i_strip (a b : Int) (w : World) (h0 : a ≠ 0) (hr : ratB a b = true) : Calls Try.prog 100 #[.agg #[.int .i64 a, .int .i64 b]] w (SR (stp 98 a.natAbs : Nat) (stp 98 b.natAbs : Nat) (sup a.natAbs b.natAbs 98) w) := by
  obtain ⟨b1, b2, b3, b4, _⟩ := ratB_bd hr
  generalize hXX : stp 98 a.natAbs = XX
  generalize hYY : stp 98 b.natAbs = YY
  generalize hLL : sup a.natAbs b.natAbs 98 = LL
  have HXX := Lib.hid hXX
  have HYY := Lib.hid hYY
  have HLL := Lib.hid hLL
  clear hXX hYY hLL
  have hq1 : abs64 a = (a.natAbs : Int) := abs64_eq (by omega) (by omega)
  have hx1 : 0 < a.natAbs ∧ a.natAbs ≤ 1000000000000 := by omega
  have hx2 : 0 < b.natAbs ∧ b.natAbs ≤ 1000000000000 := by omega
  have hy : (b.natAbs : Int) = b := by omega
  have HX1 := Lib.hid hx1
  have HX2 := Lib.hid hx2
  have HQ1 := Lib.hid hq1
  have HY := Lib.hid hy
  obtain ⟨i0, hi, hz0, hz1, hz2⟩ := info_parts infoI64
  clear hr hq1 hx1 hx2 hy
  go_enter Try.func100, Try.ntmps100
  go_wp2_with (first
    | (go_at_call 106; refine (i_abs _ _).mono ?_; rintro e w' ⟨rfl, nq, rfl⟩; rw [HQ1.out]))
  have hwb : ∃ wo : World, wo = ((((w.alloc (Obj.cells #[.int .i64 a, .int .i64 b] 61)).alloc (Obj.cells #[.int .i64 0, .int .i64 0] 61)).drewN nq).setCell ⟨w.heap.size, 0, none⟩ (.int .i64 (a.natAbs : Int))) := ⟨_, rfl⟩
  obtain ⟨wo, hwo⟩ := hwb
  have hB1 : BK wo w.heap.size 61 #[.int .i64 (a.natAbs : Int), .int .i64 (b.natAbs : Int)] := by
    rw [hwo, HY.out]
    have h := (((BK.new w 61 #[.int .i64 a, .int .i64 b]).alloc (Obj.cells #[.int .i64 0, .int .i64 0] 61)).drewN nq).set 0 (.int .i64 (a.natAbs : Int))
    simpa using h
  have hB2 : BK wo (w.heap.size + 1) 61 #[.int .i64 0, .int .i64 0] := by
    rw [hwo]
    have h := ((BK.new (w.alloc (Obj.cells #[.int .i64 a, .int .i64 b] 61)) 61 #[.int .i64 0, .int .i64 0]).drewN nq).far (p := ⟨w.heap.size, 0, none⟩) (by simp) (.int .i64 (a.natAbs : Int))
    simpa using h
  have hbo : Below w.heap.size w wo := by
    rw [hwo]
    exact Below.setCell (below_drewN (two_alloc w _ _) _) (by simp) _
  have hsz : w.heap.size + 2 ≤ wo.heap.size := by rw [hwo]; simp
  rw [← hwo]
  clear hwo b1 b2 b3 b4 h0
  go_loopw [4, 5] (fun u4 u5 wr => ∃ k x y L : Nat, 2 ≤ k ∧ k ≤ 98 ∧ L ≤ 98 ∧ 0 < x ∧ x ≤ 1000000000000 ∧ 0 < y ∧ y ≤ 1000000000000 ∧ u5 = .int .i64 k ∧ Hid (x = stp k a.natAbs ∧ y = stp k b.natAbs ∧ L = (sup a.natAbs b.natAbs k).length) ∧ wr.ownsRow (w.heap.size + 2) 2 1 u4 L (ints (sup a.natAbs b.natAbs k)) ∧ BK wr w.heap.size 61 #[.int .i64 x, .int .i64 y] ∧ BK wr (w.heap.size + 1) 61 #[.int .i64 0, .int .i64 0] ∧ Below w.heap.size w wr ∧ w.heap.size + 2 ≤ wr.heap.size) (fun _ u5 _ => 98 - (intOf u5).toNat)
  case atStart =>
    refine ⟨2, a.natAbs, b.natAbs, 0, Nat.le_refl _, by omega, by omega, HX1.out.1, HX1.out.2, HX2.out.1, HX2.out.2, rfl, ⟨(stp_2 _).symm, (stp_2 _).symm, ?_⟩, ?_, hB1, hB2, hbo, hsz⟩
    · rw [sup_2]; rfl
    · rw [sup_2]; exact World.ownsRow_nil _ _ _ _
  case round =>
    obtain ⟨k, x, y, L, hk2, hk, hL, hx1, hx2, hy1, hy2, rfl, HS, hown, hC1, hC2, hb, hsz2⟩ := hrel
    obtain ⟨A1, c1, rfl, _⟩ := own_slice' hown
    obtain ⟨wq, rfl⟩ : ∃ wq : World, wq = wr := ⟨_, rfl⟩
    have hs0 := hC1.cell 0
    have hs1 := hC1.cell 1
    have hsa := hC1.frozen 0
    have hsb := hC1.frozen 1
    simp at hs0 hs1
    by_cases hlt : k ≤ 97
    · cases hp : primeB (k : Int)
      · have hpi : isPrimeB (k : Int) = false := by unfold isPrimeB; rw [hp]; simp
        have HS1 : Hid (x = stp (k + 1) a.natAbs ∧ y = stp (k + 1) b.natAbs ∧ sup a.natAbs b.natAbs (k + 1) = sup a.natAbs b.natAbs k) := by
          unfold Hid; rw [stp_no hp, stp_no hp, sup_no (by rw [hp]; simp)]; exact ⟨HS.out.1, HS.out.2.1, rfl⟩
        go_wp2_with (first | (go_at_call 150; refine (i_IsPrime _ _).mono ?_; rintro e w2 ⟨rfl, nq2, rfl⟩; rw [hpi]))
        go_roundw
        case rel => exact ⟨k + 1, x, y, L, by omega, by omega, hL, hx1, hx2, hy1, hy2, by go_num, ⟨HS1.out.1, HS1.out.2.1, by rw [HS1.out.2.2]; exact HS.out.2.2⟩, by rw [HS1.out.2.2]; exact hown, hC1, hC2, below_drewN hb _, hsz2⟩
        case measure => simp [intOf]; omega
      · have hpi : isPrimeB (k : Int) = true := by unfold isPrimeB; rw [hp, inB_mk (by omega) (by omega)]; rfl
        by_cases hdx : x % k = 0
        · have ht1 : ((x : Int) % (k : Int) == 0) = true := by rw [tmod_b]; simpa using hdx
          have HDV : Hid (stp k a.natAbs % k = 0 ∨ stp k b.natAbs % k = 0) := by unfold Hid; rw [← HS.out.1]; exact .inl hdx
          clear hdx
          have HS1 : Hid (rst k x = stp (k + 1) a.natAbs ∧ rst k y = stp (k + 1) b.natAbs ∧ sup a.natAbs b.natAbs (k + 1) = sup a.natAbs b.natAbs k ++ [(k : Int)]) := by
            unfold Hid; rw [stp_yes hp, stp_yes hp, sup_yes hp HDV.out, ← HS.out.1, ← HS.out.2.1]; exact ⟨rfl, rfl, rfl⟩
          obtain ⟨V1, P1, R1, hv1, hp1, hd1, hr1, hP1, hP1', hR1, hR1', hT1, hT1'⟩ := parts_of hk2 hx1 hx2
          obtain ⟨V2, P2, R2, hv2, hp2, hd2, hr2, hP2, hP2', hR2, hR2', hT2, hT2'⟩ := parts_of hk2 hy1 hy2
          have hLk : L ≤ k := by rw [HS.out.2.2]; exact sup_len _ _ _
          go_wp2_with (first
            | (go_at_call 150; refine (i_IsPrime _ _).mono ?_; rintro e w2 ⟨rfl, nq2, rfl⟩; rw [hpi]; have hownq : (wq.drewN nq2).ownsRow (w.heap.size + 2) 2 1 (.slice A1 L c1) L (ints (sup a.natAbs b.natAbs k)) := hown)
            | (at_builtin; refine wpList_append_src rfl (.tmp 30) (.tmp 32) 24 rfl (w.heap.size + 2) 2 i0 (.int .i64 0) 1 8 Try.underlying24 hi hz0 hz1 hz2 rfl (by omega) (.slice A1 L c1) L (ints (sup a.natAbs b.natAbs k)) rfl (World.ownsRow.alloc hownq _) (some ⟨wq.heap.size, 0, none⟩) 1 1 [.int .i64 (k : Int)] rfl rfl (one_src _ _ _) (by intro h; cases h) (by intro u hu; simp at hu; subst hu; rfl) (by simp only [maxLen]; omega) (by omega) (by simp; omega) ?_; intro v2 w3 hown2 hg2 hat2; have hD1 := BK.below (B := w.heap.size + 2) ((hC1.drewN nq2).alloc _) ((Below.refl (w.heap.size + 2) _).grown hg2 (by simp; omega) (fun g hg => (hown.lt g hg).1)) (by omega); have hD2 := BK.below (B := w.heap.size + 2) ((hC2.drewN nq2).alloc _) ((Below.refl (w.heap.size + 2) _).grown hg2 (by simp; omega) (fun g hg => (hown.lt g hg).1)) (by omega); have hf0 := hD1.cell 0; have hf1 := hD1.cell 1; have hfa := hD1.frozen 0; have hfb := hD1.frozen 1; simp at hf0 hf1; clear hat2))
          have hb3 : Below w.heap.size w w3 := ((below_drewN hb nq2).alloc hb.size _).grown hg2 (by simp; omega) (fun g hg => by have := (hown.lt g hg).1; omega)
          have hsz3 : w.heap.size + 2 ≤ w3.heap.size := by have := hg2.size; simp at this; omega
          clear hC1 hC2 hs0 hs1 hsa hsb hg2 hb hsz2 hownq hown
          refine wp_region_two' (w3.setCell ⟨w.heap.size, 0, none⟩ (.int .i64 ((x : Int) / (P1 : Int)))) [0, 1, 2, 3, 4, 5, 6, 7, 8, 9, 10, 12, 13, 18] [11, 14, 15, 16, 17] 19 20 21 (by kernel_rfl) (by kernel_rfl) rfl ?_
          simp only [List.map_cons, List.map_nil, List.getD_cons_zero, List.getD_cons_succ]
          unfold Drw
          repeat (first | go_big_quiet_step ((first | (go_at_call 114; exact Calls.quiet_of (i_valN _ k _ _ (by first | exact hv1 | exact hv2) (by first | exact hx2 | exact hy2) (by first | exact hx1 | exact hy1) hk2 hlt)) | (go_at_call 109; exact Calls.quiet_of (i_powN k _ _ _ (by first | exact hp1 | exact hp2) (by first | exact hP1' | exact hP2') hk2)))) | quiet_step ((first | (go_at_call 114; exact Calls.quiet_of (i_valN _ k _ _ (by first | exact hv1 | exact hv2) (by first | exact hx2 | exact hy2) (by first | exact hx1 | exact hy1) hk2 hlt)) | (go_at_call 109; exact Calls.quiet_of (i_powN k _ _ _ (by first | exact hp1 | exact hp2) (by first | exact hP1' | exact hP2') hk2)))))
          refine wpQuiet_nil ?_
          refine wpB_step (.int .i64 (k : Int)) rfl (fun W n => by go_simp) ?_
          refine wpB_step (.int .i64 (k : Int)) rfl (fun W n => by go_simp) ?_
          refine wpB_step (.int .i64 (V2 : Int)) rfl (fun W n => ?_) ?_
          · go_simp
            exact Calls.quiet_of (i_valN y k V2 _ hv2 hy2 hy1 hk2 hlt)
          refine wpB_step (.int .i64 (P2 : Int)) rfl (fun W n => ?_) ?_
          · go_simp
            exact Calls.quiet_of (i_powN k V2 P2 _ hp2 hP2' hk2)
          refine wpB_step (.int .i64 ((y : Int) / (P2 : Int))) rfl (fun W n => ?_) ?_
          · go_simp
            rw [if_neg (by omega), IntWalk.i64_in _ (by omega)]
            exact ⟨rfl, rfl⟩
          refine wpB_nil ⟨⟨rfl, fun w' hw' => ?_⟩, ?_⟩
          · obtain ⟨n, rfl⟩ := hw'
            exact ⟨_, ⟨n, rfl⟩, by go_simp; rfl⟩
          refine wpB_step (.pointer (some ⟨w.heap.size, 1, none⟩)) rfl (fun W n => by go_simp) ?_
          refine wpB_nil ?_
          rintro w' ⟨n, rfl⟩
          go_wp2_with (fail)
          go_roundw
          case rel =>
            refine ⟨k + 1, R1, R2, L + 1, by omega, by omega, by omega, hR1, by omega, hR2, by omega, by go_num, ⟨?_, ?_, ?_⟩, ?_, ?_, ?_, ?_, ?_⟩
            · rw [← hr1.out]; exact HS1.out.1
            · rw [← hr2.out]; exact HS1.out.2.1
            · rw [HS1.out.2.2, List.length_append, ← HS.out.2.2]; rfl
            · rw [HS1.out.2.2, ints_snoc]
              exact own_mid hown2 (((Mid.refl _ _).set (p := ⟨w.heap.size, 0, none⟩) (by simp) _ |>.draws n).set (p := ⟨w.heap.size, 1, none⟩) (by simp) _)
            · have h := ((hD1.set 0 (.int .i64 ((x : Int) / (P1 : Int)))).drewN n).set 1 (.int .i64 ((y : Int) / (P2 : Int)))
              rw [hd1.out, hd2.out] at h ⊢
              simpa using h
            · exact ((hD2.far (p := ⟨w.heap.size, 0, none⟩) (by simp) _).drewN n).far (p := ⟨w.heap.size, 1, none⟩) (by simp) _
            · exact (below_drewN (hb3.setCell (Nat.le_refl _) _) n).setCell (Nat.le_refl _) _
            · simp; omega
          case measure => simp [intOf]; omega
        · have ht1 : ((x : Int) % (k : Int) == 0) = false := by rw [tmod_b]; simpa using hdx
          by_cases hdy : y % k = 0
          · have ht2 : ((y : Int) % (k : Int) == 0) = true := by rw [tmod_b]; simpa using hdy
            have HDV : Hid (stp k a.natAbs % k = 0 ∨ stp k b.natAbs % k = 0) := by unfold Hid; rw [← HS.out.2.1]; exact .inr hdy
            clear hdx hdy
            have HS1 : Hid (rst k x = stp (k + 1) a.natAbs ∧ rst k y = stp (k + 1) b.natAbs ∧ sup a.natAbs b.natAbs (k + 1) = sup a.natAbs b.natAbs k ++ [(k : Int)]) := by
              unfold Hid; rw [stp_yes hp, stp_yes hp, sup_yes hp HDV.out, ← HS.out.1, ← HS.out.2.1]; exact ⟨rfl, rfl, rfl⟩
            obtain ⟨V1, P1, R1, hv1, hp1, hd1, hr1, hP1, hP1', hR1, hR1', hT1, hT1'⟩ := parts_of hk2 hx1 hx2
            obtain ⟨V2, P2, R2, hv2, hp2, hd2, hr2, hP2, hP2', hR2, hR2', hT2, hT2'⟩ := parts_of hk2 hy1 hy2
            have hLk : L ≤ k := by rw [HS.out.2.2]; exact sup_len _ _ _
            go_wp2_with (first
              | (go_at_call 150; refine (i_IsPrime _ _).mono ?_; rintro e w2 ⟨rfl, nq2, rfl⟩; rw [hpi]; have hownq : (wq.drewN nq2).ownsRow (w.heap.size + 2) 2 1 (.slice A1 L c1) L (ints (sup a.natAbs b.natAbs k)) := hown)
              | (at_builtin; refine wpList_append_src rfl (.tmp 30) (.tmp 32) 24 rfl (w.heap.size + 2) 2 i0 (.int .i64 0) 1 8 Try.underlying24 hi hz0 hz1 hz2 rfl (by omega) (.slice A1 L c1) L (ints (sup a.natAbs b.natAbs k)) rfl (World.ownsRow.alloc hownq _) (some ⟨wq.heap.size, 0, none⟩) 1 1 [.int .i64 (k : Int)] rfl rfl (one_src _ _ _) (by intro h; cases h) (by intro u hu; simp at hu; subst hu; rfl) (by simp only [maxLen]; omega) (by omega) (by simp; omega) ?_; intro v2 w3 hown2 hg2 hat2; have hD1 := BK.below (B := w.heap.size + 2) ((hC1.drewN nq2).alloc _) ((Below.refl (w.heap.size + 2) _).grown hg2 (by simp; omega) (fun g hg => (hown.lt g hg).1)) (by omega); have hD2 := BK.below (B := w.heap.size + 2) ((hC2.drewN nq2).alloc _) ((Below.refl (w.heap.size + 2) _).grown hg2 (by simp; omega) (fun g hg => (hown.lt g hg).1)) (by omega); have hf0 := hD1.cell 0; have hf1 := hD1.cell 1; have hfa := hD1.frozen 0; have hfb := hD1.frozen 1; simp at hf0 hf1; clear hat2))
            have hb3 : Below w.heap.size w w3 := ((below_drewN hb nq2).alloc hb.size _).grown hg2 (by simp; omega) (fun g hg => by have := (hown.lt g hg).1; omega)
            have hsz3 : w.heap.size + 2 ≤ w3.heap.size := by have := hg2.size; simp at this; omega
            clear hC1 hC2 hs0 hs1 hsa hsb hg2 hb hsz2 hownq hown
            refine wp_region_two' (w3.setCell ⟨w.heap.size, 0, none⟩ (.int .i64 ((x : Int) / (P1 : Int)))) [0, 1, 2, 3, 4, 5, 6, 7, 8, 9, 10, 12, 13, 18] [11, 14, 15, 16, 17] 19 20 21 (by kernel_rfl) (by kernel_rfl) rfl ?_
            simp only [List.map_cons, List.map_nil, List.getD_cons_zero, List.getD_cons_succ]
            unfold Drw
            repeat (first | go_big_quiet_step ((first | (go_at_call 114; exact Calls.quiet_of (i_valN _ k _ _ (by first | exact hv1 | exact hv2) (by first | exact hx2 | exact hy2) (by first | exact hx1 | exact hy1) hk2 hlt)) | (go_at_call 109; exact Calls.quiet_of (i_powN k _ _ _ (by first | exact hp1 | exact hp2) (by first | exact hP1' | exact hP2') hk2)))) | quiet_step ((first | (go_at_call 114; exact Calls.quiet_of (i_valN _ k _ _ (by first | exact hv1 | exact hv2) (by first | exact hx2 | exact hy2) (by first | exact hx1 | exact hy1) hk2 hlt)) | (go_at_call 109; exact Calls.quiet_of (i_powN k _ _ _ (by first | exact hp1 | exact hp2) (by first | exact hP1' | exact hP2') hk2)))))
            refine wpQuiet_nil ?_
            refine wpB_step (.int .i64 (k : Int)) rfl (fun W n => by go_simp) ?_
            refine wpB_step (.int .i64 (k : Int)) rfl (fun W n => by go_simp) ?_
            refine wpB_step (.int .i64 (V2 : Int)) rfl (fun W n => ?_) ?_
            · go_simp
              exact Calls.quiet_of (i_valN y k V2 _ hv2 hy2 hy1 hk2 hlt)
            refine wpB_step (.int .i64 (P2 : Int)) rfl (fun W n => ?_) ?_
            · go_simp
              exact Calls.quiet_of (i_powN k V2 P2 _ hp2 hP2' hk2)
            refine wpB_step (.int .i64 ((y : Int) / (P2 : Int))) rfl (fun W n => ?_) ?_
            · go_simp
              rw [if_neg (by omega), IntWalk.i64_in _ (by omega)]
              exact ⟨rfl, rfl⟩
            refine wpB_nil ⟨⟨rfl, fun w' hw' => ?_⟩, ?_⟩
            · obtain ⟨n, rfl⟩ := hw'
              exact ⟨_, ⟨n, rfl⟩, by go_simp; rfl⟩
            refine wpB_step (.pointer (some ⟨w.heap.size, 1, none⟩)) rfl (fun W n => by go_simp) ?_
            refine wpB_nil ?_
            rintro w' ⟨n, rfl⟩
            go_wp2_with (fail)
            go_roundw
            case rel =>
              refine ⟨k + 1, R1, R2, L + 1, by omega, by omega, by omega, hR1, by omega, hR2, by omega, by go_num, ⟨?_, ?_, ?_⟩, ?_, ?_, ?_, ?_, ?_⟩
              · rw [← hr1.out]; exact HS1.out.1
              · rw [← hr2.out]; exact HS1.out.2.1
              · rw [HS1.out.2.2, List.length_append, ← HS.out.2.2]; rfl
              · rw [HS1.out.2.2, ints_snoc]
                exact own_mid hown2 (((Mid.refl _ _).set (p := ⟨w.heap.size, 0, none⟩) (by simp) _ |>.draws n).set (p := ⟨w.heap.size, 1, none⟩) (by simp) _)
              · have h := ((hD1.set 0 (.int .i64 ((x : Int) / (P1 : Int)))).drewN n).set 1 (.int .i64 ((y : Int) / (P2 : Int)))
                rw [hd1.out, hd2.out] at h ⊢
                simpa using h
              · exact ((hD2.far (p := ⟨w.heap.size, 0, none⟩) (by simp) _).drewN n).far (p := ⟨w.heap.size, 1, none⟩) (by simp) _
              · exact (below_drewN (hb3.setCell (Nat.le_refl _) _) n).setCell (Nat.le_refl _) _
              · simp; omega
            case measure => simp [intOf]; omega
          · have ht2 : ((y : Int) % (k : Int) == 0) = false := by rw [tmod_b]; simpa using hdy
            have e1 := (val_no (p := k) (n := x) hdx).2
            have e2 := (val_no (p := k) (n := y) hdy).2
            have HS1 : Hid (x = stp (k + 1) a.natAbs ∧ y = stp (k + 1) b.natAbs ∧ sup a.natAbs b.natAbs (k + 1) = sup a.natAbs b.natAbs k) := by
              unfold Hid
              rw [stp_yes hp, stp_yes hp, sup_no (by rw [← HS.out.1, ← HS.out.2.1]; rintro ⟨_, h | h⟩; exact hdx h; exact hdy h), ← HS.out.1, ← HS.out.2.1]
              exact ⟨e1.symm, e2.symm, rfl⟩
            clear hdx hdy e1 e2
            go_wp2_with (first | (go_at_call 150; refine (i_IsPrime _ _).mono ?_; rintro e w2 ⟨rfl, nq2, rfl⟩; rw [hpi]))
            go_roundw
            case rel => exact ⟨k + 1, x, y, L, by omega, by omega, hL, hx1, hx2, hy1, hy2, by go_num, ⟨HS1.out.1, HS1.out.2.1, by rw [HS1.out.2.2]; exact HS.out.2.2⟩, by rw [HS1.out.2.2]; exact hown, hC1, hC2, below_drewN hb _, hsz2⟩
            case measure => simp [intOf]; omega
    · obtain rfl : k = 98 := by omega
      have hr0 := hC2.cell 0
      have hr1 := hC2.cell 1
      have hra := hC2.frozen 0
      have hrb := hC2.frozen 1
      simp at hr0 hr1
      go_wp2_with (fail)
      obtain ⟨hW0, hW1⟩ := set2 (w := wq) (x := .int .i64 (x : Int)) (y := .int .i64 (y : Int)) hC2
      refine bodyPost_ret (by simp [results, Try.results100, go_sem, hW0, hW1]; try rfl) rfl ?_
      have hX : x = XX := HS.out.1.trans HXX.out
      have hY : y = YY := HS.out.2.1.trans HYY.out
      have hL' : L = LL.length := by rw [HS.out.2.2, HLL.out]
      rw [HLL.out] at hown
      rw [hL'] at hown ⊢
      rw [hX, hY]
      refine ⟨A1, c1, rfl, own_mono (own_mid hown (((Mid.refl _ _).set (p := ⟨w.heap.size + 1, 0, none⟩) (by simp) _).set (p := ⟨w.heap.size + 1, 1, none⟩) (by simp) _)) (by omega), ?_⟩
      repeat (first | exact hb | refine below_drewN ?_ _ | refine Below.setCell ?_ (by simp <;> omega) _)
end Go.Proofs.Ythjoegoeaiemdaa
