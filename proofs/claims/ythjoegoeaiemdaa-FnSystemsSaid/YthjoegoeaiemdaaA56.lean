/- Walks: DoesSolve. -/
import Derived.Test.YthjoegoeaiemdaaA55
namespace Go.Proofs.Ythjoegoeaiemdaa
set_option linter.unusedVariables false
set_option linter.unusedSimpArgs false
open Go.RowKit

def MB (b : Bool) (c : Int) (w : World) (e : Ending) (w' : World) : Prop := e = .returned (.tuple #[.bool b, .int .i64 c]) ∧ Below w.heap.size w w'
theorem ret_bi {a a' : Bool} {b b' : Int} (h1 : a = a') (h2 : b = b') : Ending.returned (.tuple #[.bool a, .int .i64 b]) = .returned (.tuple #[.bool a', .int .i64 b']) := by rw [h1, h2]
noncomputable def dsC (l : List Z3) (x : Int) : Int := if sysB l then (if valB x then 0 else 2) else 1
noncomputable def dsB (l : List Z3) (x : Int) : Bool := sysB l && (valB x && (x % (pr l l.length : Int) == slv l l.length))
theorem valB_f {x : Int} (h : valB x = false) : x < -1000000000000 ∨ 1000000000000 < x := by
  unfold valB inB at h
  simp at h
  omega
set_option maxHeartbeats 1000000 in
theorem i_DoesSolve (A : Option Addr) (n c : Nat) (l : List Z3) (x : Int) (w : World) (hn : n = l.length) (hl : n ≤ 1048576) (hcn : n ≤ c) (hcm : c ≤ 9223372036854775807) (hr : R3 l) (hs : IT w w.heap.size A l) :
    Calls Try.prog 31 #[.slice A n c, .int .i64 x] w (MB (dsB l x) (dsC l x) w) := by
  have HN := Lib.hid hn
  clear hn
  cases h1 : sysB l
  · have HC : Hid (dsC l x = 1) := by unfold Hid dsC; rw [h1]; rfl
    have HB : Hid (dsB l x = false) := by unfold Hid dsB; rw [h1]; rfl
    go_enter Try.func31, Try.ntmps31
    go_wp2_with (fail)
    refine (i_isSystem A n c l _ HN.out hl hcn hcm hr hs).mono ?_
    rw [h1]
    rintro e w1 ⟨rfl, hb1⟩
    go_wp2_with (fail)
    go_ret2
    exact ⟨ret_bi HB.out.symm HC.out.symm, hb1⟩
  cases h2 : valB x
  · have HC : Hid (dsC l x = 2) := by unfold Hid dsC; rw [h1, h2]; rfl
    have HB : Hid (dsB l x = false) := by unfold Hid dsB; rw [h1, h2]; rfl
    go_enter Try.func31, Try.ntmps31
    go_wp2_with (fail)
    refine (i_isSystem A n c l _ HN.out hl hcn hcm hr hs).mono ?_
    rw [h1]
    rintro e w1 ⟨rfl, hb1⟩
    go_wp2_with (go_at_call 80; refine (i_isValue _ _).mono ?_; rw [h2]; rintro e w2 ⟨rfl, nq, rfl⟩)
    go_ret2
    exact ⟨ret_bi HB.out.symm HC.out.symm, below_drewN hb1 _⟩
  have hp := sysB_p h1
  have hv := valB_true h2
  have HC : Hid (dsC l x = 0) := by unfold Hid dsC; rw [h1, h2]; rfl
  have hB : dsB l x = (x % (pr l l.length : Int) == slv l l.length) := by unfold dsB; rw [h1, h2]; rfl
  have hpp := pr_pos _ hp.1
  have hpl := pr_le hp.1
  have HP := Lib.hid hp
  generalize hV : slv l l.length = V at *
  generalize hPR : pr l l.length = PP at *
  have HB := Lib.hid hB
  have HV := Lib.hid hV
  have HPR := Lib.hid hPR
  clear hB hV hPR hp
  go_enter Try.func31, Try.ntmps31
  go_wp2_with (fail)
  refine (i_isSystem A n c l _ HN.out hl hcn hcm hr hs).mono ?_
  rw [h1]
  rintro e w1 ⟨rfl, hb1⟩
  go_wp2_with (go_at_call 80; refine (i_isValue _ _).mono ?_; rw [h2]; rintro e w2 ⟨rfl, nq, rfl⟩)
  refine (i_solve A n c l _ HN.out HP.out.1 hl ((hs.call hb1).drewN nq)).mono ?_
  rw [HV.out, HPR.out]
  rintro e w2 ⟨rfl, hb2⟩
  have b2 := bel_call (below_drewN hb1 nq) hb2
  go_wp2_with (go_at_call 81; refine (i_mod _ _ _ (by omega) (by omega)).mono ?_; rintro e w3 ⟨rfl, nq3, rfl⟩)
  go_ret2
  exact ⟨ret_bi HB.out.symm HC.out.symm, below_drewN b2 _⟩
set_option maxHeartbeats 1000000 in
theorem s_DoesSolve (A : Option Addr) (n c : Nat) (l : List Z3) (x : Int) (w : World) (hn : n = l.length) (hl : n ≤ 1048576) (hr : R3 l) (hs : IT w w.heap.size A l) :
    Calls Try.prog 32 #[.slice A n c, .int .i64 x] w (MB (dsB l x) (dsC l x) w) := by
  have HN := Lib.hid hn
  clear hn
  cases h1 : sysB l
  · have HC : Hid (dsC l x = 1) := by unfold Hid dsC; rw [h1]; rfl
    have HB : Hid (dsB l x = false) := by unfold Hid dsB; rw [h1]; rfl
    go_enter Try.func32, Try.ntmps32
    go_wp2_with (fail)
    refine (s_l31System A n c l _ HN.out hl hr hs).mono ?_
    rw [h1]
    rintro e w1 ⟨rfl, hb1⟩
    go_wp2_with (fail)
    go_ret2
    exact ⟨ret_bi HB.out.symm HC.out.symm, hb1⟩
  cases h2 : valB x
  · have HC : Hid (dsC l x = 2) := by unfold Hid dsC; rw [h1, h2]; rfl
    have HB : Hid (dsB l x = false) := by unfold Hid dsB; rw [h1, h2]; rfl
    go_enter Try.func32, Try.ntmps32
    go_wp2_with (fail)
    refine (s_l31System A n c l _ HN.out hl hr hs).mono ?_
    rw [h1]
    rintro e w1 ⟨rfl, hb1⟩
    go_wp2_with (go_at_call 82; refine (s_l01Is _ _).mono ?_; rw [h2]; rintro e w2 ⟨rfl, nq, rfl⟩)
    go_ret2
    exact ⟨ret_bi HB.out.symm HC.out.symm, below_drewN hb1 _⟩
  have hp := sysB_p h1
  have hv := valB_true h2
  have HC : Hid (dsC l x = 0) := by unfold Hid dsC; rw [h1, h2]; rfl
  have HB : Hid (dsB l x = true ↔ ∀ i, i < l.length → x % (mo l i : Int) = (g3 l i).2.2) := by
    unfold Hid dsB; rw [h1, h2, Bool.true_and, Bool.true_and, beq_iff_eq]
    exact solves_iff hp.1 x
  have HP := Lib.hid hp.1
  have h8 : n ≤ 8 := by rw [HN.out]; exact hp.2
  clear hp
  go_enter Try.func32, Try.ntmps32
  go_wp2_with (fail)
  refine (s_l31System A n c l _ HN.out hl hr hs).mono ?_
  rw [h1]
  rintro e w1 ⟨rfl, hb1⟩
  go_wp2_with (go_at_call 82; refine (s_l01Is _ _).mono ?_; rw [h2]; rintro e w2 ⟨rfl, nq, rfl⟩)
  obtain ⟨wo, hwo⟩ : ∃ wo : World, wo = w1.drewN nq := ⟨_, rfl⟩
  have hbo : Below w.heap.size w wo := by rw [hwo]; exact below_drewN hb1 nq
  rw [← hwo]
  clear hwo hb1
  go_loopw [6] (fun u wr => ∃ k : Nat, k ≤ n ∧ u = .int .i64 k ∧ Hid (∀ i, i < k → x % (mo l i : Int) = (g3 l i).2.2) ∧ DR wo wr) (fun u _ => n - (intOf u).toNat)
  case atStart => exact ⟨0, Nat.zero_le _, rfl, fun i hi => by omega, DR.refl _⟩
  case round =>
    obtain ⟨k, hk, rfl, HI, hdr⟩ := hrel
    by_cases hlt : k < n
    · have hkl : k < l.length := by rw [← HN.out]; exact hlt
      obtain ⟨k1, _, _, _⟩ := HP.out k hkl
      obtain ⟨m1, m2⟩ := mo_bd k1
      obtain ⟨b, off, rfl, hbb, hcell⟩ := IT.at hs (k := k) hkl
      obtain ⟨h0, h1', h2'⟩ := hcell k hkl
      have e0 := (hdr.cell _).trans ((hbo.cell (p := ⟨b, off + k * 3, none⟩) hbb).trans h0)
      have e1 := (hdr.cell _).trans ((hbo.cell (p := ⟨b, off + k * 3 + 1, none⟩) hbb).trans h1')
      have e2 := (hdr.cell _).trans ((hbo.cell (p := ⟨b, off + k * 3 + 2, none⟩) hbb).trans h2')
      have HKL := Lib.hid hkl
      clear hcell h0 h1' h2' hkl
      by_cases heq : x % (mo l k : Int) = (g3 l k).2.2
      · have hne : (x % (mo l k : Int) != (g3 l k).2.2) = false := by rw [heq]; simp
        have HEQ := Lib.hid heq
        clear heq
        go_wp2_with (go_quiet ((first | (go_at_call 84; exact Calls.quiet_of (s_mod3 l k _ k1)) | (go_at_call 83; exact Calls.quiet_of (s_l01Mod _ _ _ (by omega) (by omega))))))
        go_roundw
        case rel =>
          refine ⟨k + 1, by omega, by go_num, fun i hi => ?_, by repeat (first | exact hdr | refine DR.step ?_ _)⟩
          by_cases hik : i = k
          · subst hik; exact HEQ.out
          · exact HI.out i (by omega)
        case measure => simp [intOf]; omega
      · have hne : (x % (mo l k : Int) != (g3 l k).2.2) = true := by rw [bne_iff_ne]; exact heq
        have HX : Hid (dsB l x = false) := by
          unfold Hid; rw [Bool.eq_false_iff]; intro h; exact heq (HB.out.1 h k HKL.out)
        clear heq
        go_wp2_with (go_quiet ((first | (go_at_call 84; exact Calls.quiet_of (s_mod3 l k _ k1)) | (go_at_call 83; exact Calls.quiet_of (s_l01Mod _ _ _ (by omega) (by omega))))))
        go_ret2
        refine ⟨ret_bi HX.out.symm HC.out.symm, ?_⟩
        obtain ⟨m, rfl⟩ := hdr
        repeat (first | exact hbo | refine below_drewN ?_ _)
    · obtain rfl : k = n := by omega
      have HX : Hid (dsB l x = true) := HB.out.2 (fun i hi => HI.out i (by rw [HN.out]; exact hi))
      go_wp2_with (fail)
      go_ret2
      refine ⟨ret_bi HX.out.symm HC.out.symm, ?_⟩
      obtain ⟨m, rfl⟩ := hdr
      exact below_drewN hbo _
end Go.Proofs.Ythjoegoeaiemdaa
