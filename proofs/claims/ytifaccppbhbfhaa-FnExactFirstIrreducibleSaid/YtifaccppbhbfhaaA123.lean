/- Contracts: products of polynomials. -/
import Derived.Test.YtifaccppbhbfhaaA122
namespace Go.Proofs.Ytifaccppbhbfhaa
set_option linter.unusedVariables false
set_option linter.unusedSimpArgs false
open Go.RowKit

set_option maxRecDepth 10000 in
set_option maxHeartbeats 2000000 in
theorem i_productOf (A A' : Option Addr) (n c n' c' F G : Nat) (f g : List Int) (w : World) (hn : n = f.length) (hn' : n' = g.length) (h0 : 0 < n) (h0' : 0 < n') (hl : n ≤ 10) (hl' : n' ≤ 10) (hF : ∀ j, (gt f j).natAbs ≤ F) (hG : ∀ j, (gt g j).natAbs ≤ G) (hFG : F * G ≤ 100000000000000000) (hs : IS w w.heap.size A f) (hs' : IS w w.heap.size A' g) :
    Calls Try.prog 89 #[.slice A n c, .slice A' n' c'] w (RV (mulL f g) w) := by
  obtain ⟨M, hM⟩ : ∃ M, M + 1 = n + n' := ⟨n + n' - 1, by omega⟩
  have hmk := fun W => run_make_row' (P := Try.prog) 22 2 (.int .i64 0) 8 Try.underlying22 infoI64 rfl .i64 .i64 M (by omega) (by omega) W
  have hns := NS.zero w M w.heap.size (Nat.le_refl _)
  have hb := (Below.refl w.heap.size w).alloc (Nat.le_refl _) (.cells (madeCells (.int .i64 0 : Value).cells M) 2)
  have hX : mulL f g = trimL (mulS f g n) := by unfold mulL; rw [hn]
  have hlen : ∀ i, (mulS f g i).length = M := fun i => by rw [mulS_len, ← hn, ← hn']; omega
  have hbd : ∀ i j, i ≤ n → (gt (mulS f g i) j).natAbs ≤ 10 * (F * G) := fun i j h => Nat.le_trans (mulS_bd hF hG i j (by omega)) (Nat.mul_le_mul_right _ (by omega))
  have hns : NS (w.alloc (.cells (madeCells (.int .i64 0 : Value).cells M) 2)) w.heap.size w.heap.size (mulS f g 0) := by
    rw [mulS, show f.length + g.length - 1 = M by omega]
    exact hns
  have hstep : ∀ i, mulS f g (i + 1) = stepM (gt f i) g (mulS f g i) i n' := fun i => by rw [hn']; rfl
  have hpz : ((n : Int) == 0) = false := by rw [beq_eq_false_iff_ne]; omega
  have hpz' : ((n' : Int) == 0) = false := by rw [beq_eq_false_iff_ne]; omega
  have hmm : (n : Int) + (n' : Int) - 1 = (M : Int) := by omega
  rw [hX]
  have HN := Lib.hid hn
  have HN' := Lib.hid hn'
  have HF := Lib.hid hF
  have HG := Lib.hid hG
  have HLEN := Lib.hid hlen
  have HBD := Lib.hid hbd
  have HSTEP := Lib.hid hstep
  have HP := Lib.hid hFG
  clear hn hn' hF hG hX hlen hbd hstep hFG
  go_enter Try.func89, Try.ntmps89
  go_wp2_with (go_quiet (fail))
  go_loopw [27] (fun u wr => ∃ i : Nat, i ≤ n ∧ u = .int .i64 i ∧ NS wr w.heap.size w.heap.size (mulS f g i) ∧ Below w.heap.size w wr) (fun u _ => n - (intOf u).toNat)
  case atStart => exact ⟨0, Nat.zero_le _, rfl, hns, hb⟩
  case round =>
    clear hns hb
    obtain ⟨ws, rfl⟩ : ∃ ws : World, ws = wr := ⟨_, rfl⟩
    obtain ⟨i, hi, rfl, hns, hb⟩ := hrel
    by_cases hlt : i < n
    · obtain ⟨b, off, rfl, hbb, hcell⟩ := IS.at hs (k := i) (by rw [← HN.out]; exact hlt)
      have hin := (hb.cell (p := ⟨b, off + i, none⟩) hbb).trans (hcell i (by rw [← HN.out]; exact hlt))
      have hbo := HBD.out i
      have hOl := HLEN.out i
      have HST := Lib.hid (HSTEP.out i)
      have hci := HF.out i
      generalize mulS f g i = O at *
      generalize gt f i = x at *
      have HBO := Lib.hid hbo
      have HOL := Lib.hid hOl
      have HCI := Lib.hid hci
      clear hcell hbo hOl hci
      go_wp2_with (fail)
      go_loopw [34] (fun u wr => ∃ k : Nat, k ≤ n' ∧ u = .int .i64 k ∧ NS wr w.heap.size w.heap.size (stepM x g O i k) ∧ Below w.heap.size w wr) (fun u _ => n' - (intOf u).toNat)
      case atStart => exact ⟨0, Nat.zero_le _, rfl, hns, hb⟩
      case round =>
        clear hns hb
        obtain ⟨wt, rfl⟩ : ∃ wt : World, wt = wr := ⟨_, rfl⟩
        obtain ⟨k, hk, rfl, hns, hb⟩ := hrel
        by_cases hkt : k < n'
        · obtain ⟨b', off', rfl, hbb', hcell⟩ := IS.at hs' (k := k) (by rw [← HN'.out]; exact hkt)
          have hin' := (hb.cell (p := ⟨b', off' + k, none⟩) hbb').trans (hcell k (by rw [← HN'.out]; exact hkt))
          have hkM : i + k < (stepM x g O i k).length := by rw [stepM_len, HOL.out]; omega
          have hc := hns.cell hkM
          have hf := hns.fz (i + k)
          have hset := hns.set (gt (stepM x g O i k) (i + k) + x * gt g k) hkM
          have hbd := stepM_bd (c := x) (g := g) (out := O) (i := i) (k := k) (j := i + k) (by rw [HOL.out]; omega) HCI.out HG.out (HBO.out (i + k) hi)
          have hbd2 := nabs_mul HCI.out (HG.out k)
          have HP2 := HP.out
          have HSET : Hid (NS (wt.setCell ⟨w.heap.size, i + k, none⟩ (.int .i64 (gt (stepM x g O i k) (i + k) + x * gt g k))) w.heap.size w.heap.size (stepM x g O i (k + 1))) := hset
          clear hset hcell hns
          generalize F * G = P at *
          generalize gt (stepM x g O i k) (i + k) = y at *
          generalize gt g k = z at *
          go_wp2_with (go_quiet (fail))
          go_roundw
          case rel => exact ⟨k + 1, by omega, by go_num, HSET.out, hb.setCell (Nat.le_refl _) _⟩
          case measure => simp [intOf]; omega
        · obtain rfl : n' = k := by omega
          rw [← HST.out] at hns
          go_wp2_with (fail)
          go_roundw
          case rel => exact ⟨i + 1, by omega, by go_num, hns, hb⟩
          case measure => simp [intOf]; omega
    · obtain rfl : n = i := by omega
      have HL : Hid (M = (mulS f g n).length) := (HLEN.out n).symm
      generalize mulS f g n = O at *
      go_wp2_with (go_at_call 43; refine (i_trim w.heap.size M M O _ HL.out (by omega) (Nat.le_refl _) hns.cs).mono ?_; rintro e w2 ⟨A2, c2, rfl, ho2, hb2⟩)
      go_ret
      exact RV.pre ⟨A2, c2, rfl, ho2, hb2⟩ hb
end Go.Proofs.Ytifaccppbhbfhaa
