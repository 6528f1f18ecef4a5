/- Contracts: sums of polynomials. -/
import Derived.Test.YtifaccppbhbfhaaA121
namespace Go.Proofs.Ytifaccppbhbfhaa
set_option linter.unusedVariables false
set_option linter.unusedSimpArgs false
open Go.RowKit

set_option maxRecDepth 10000 in
set_option maxHeartbeats 2000000 in
theorem i_sum1 (A A' : Option Addr) (n c n' c' F G : Nat) (f g : List Int) (w : World) (hn : n = f.length) (hn' : n' = g.length) (hl : n ≤ 100) (hl' : n' ≤ 100) (hF : ∀ j, (gt f j).natAbs ≤ F) (hG : ∀ j, (gt g j).natAbs ≤ G) (hFG : F + G ≤ 4000000000000000000) (hM : n < n') (hs : IS w w.heap.size A f) (hs' : IS w w.heap.size A' g) :
    Calls Try.prog 77 #[.slice A n c, .slice A' n' c'] w (RV (addL f g) w) := by
  have hmx : max (n : Int) (n' : Int) = (n' : Int) := by omega
  have hmk := fun W => run_make_row' (P := Try.prog) 22 2 (.int .i64 0) 8 Try.underlying22 infoI64 rfl .i64 .i64 n' (by omega) (by omega) W
  have hns := NS.zero w n' w.heap.size (Nat.le_refl _)
  have hb := (Below.refl w.heap.size w).alloc (Nat.le_refl _) (.cells (madeCells (.int .i64 0 : Value).cells n') 2)
  have hX : addL f g = trimL (addS g (addS f (List.replicate n' 0) n) n') := by
    unfold addL
    rw [← hn, ← hn', show max n n' = n' by omega]
  have hz : ∀ j, (gt (List.replicate n' 0) j).natAbs ≤ 0 := fun j => by rw [gt_rep]; simp
  have hlr : (List.replicate n' (0 : Int)).length = n' := by simp
  have hl1 : (addS f (List.replicate n' 0) n).length = n' := by rw [addS_len]; exact hlr
  have hb1 : ∀ j, (gt (addS f (List.replicate n' 0) n) j).natAbs ≤ 0 + F := fun j => addS_bd (by rw [hlr]; omega) hF (hz j)
  rw [hX]
  have HN := Lib.hid hn
  have HN' := Lib.hid hn'
  have HF := Lib.hid hF
  have HG := Lib.hid hG
  have HZ := Lib.hid hz
  have HLR := Lib.hid hlr
  have HL1 := Lib.hid hl1
  have HB1 := Lib.hid hb1
  clear hn hn' hF hG hX hz hlr hl1 hb1
  generalize List.replicate n' (0 : Int) = R at *
  go_enter Try.func77, Try.ntmps77
  go_wp2_with (fail)
  go_loopw [18] (fun u wr => ∃ k : Nat, k ≤ n ∧ u = .int .i64 k ∧ NS wr w.heap.size w.heap.size (addS f R k) ∧ Below w.heap.size w wr) (fun u _ => n - (intOf u).toNat)
  case atStart => exact ⟨0, Nat.zero_le _, rfl, hns, hb⟩
  case round =>
    clear hns hb
    obtain ⟨ws, rfl⟩ : ∃ ws : World, ws = wr := ⟨_, rfl⟩
    obtain ⟨k, hk, rfl, hns, hb⟩ := hrel
    by_cases hlt : k < n
    · obtain ⟨b, off, rfl, hbb, hcell⟩ := IS.at hs (k := k) (by rw [← HN.out]; exact hlt)
      have hin := (hb.cell (p := ⟨b, off + k, none⟩) hbb).trans (hcell k (by rw [← HN.out]; exact hlt))
      have hkM : k < (addS f R k).length := by rw [addS_len, HLR.out]; omega
      have hc := hns.cell hkM
      have hf := hns.fz k
      have hset := hns.set (gt (addS f R k) k + gt f k) hkM
      have hbd := nat_bd (addS_bd (f := f) (out := R) (k := k) (j := k) (by rw [HLR.out]; omega) HF.out (HZ.out k))
      have hbd2 := nat_bd (HF.out k)
      have HSET : Hid (NS (ws.setCell ⟨w.heap.size, k, none⟩ (.int .i64 (gt (addS f R k) k + gt f k))) w.heap.size w.heap.size (addS f R (k + 1))) := hset
      clear hset hcell hns
      generalize gt (addS f R k) k = x at *
      generalize gt f k = y at *
      go_wp2_with (first | go_quiet (fail) | fail)
      go_roundw
      case rel => exact ⟨k + 1, by omega, by go_num, HSET.out, hb.setCell (Nat.le_refl _) _⟩
      case measure => simp [intOf]; omega
    · obtain rfl : n = k := by omega
      go_wp2_with (fail)
      go_loopw [33] (fun u wr => ∃ k : Nat, k ≤ n' ∧ u = .int .i64 k ∧ NS wr w.heap.size w.heap.size (addS g (addS f R n) k) ∧ Below w.heap.size w wr) (fun u _ => n' - (intOf u).toNat)
      case atStart => exact ⟨0, Nat.zero_le _, rfl, hns, hb⟩
      case round =>
        clear hns hb
        obtain ⟨ws, rfl⟩ : ∃ ws : World, ws = wr := ⟨_, rfl⟩
        obtain ⟨k, hk, rfl, hns, hb⟩ := hrel
        by_cases hlt : k < n'
        · obtain ⟨b, off, rfl, hbb, hcell⟩ := IS.at hs' (k := k) (by rw [← HN'.out]; exact hlt)
          have hin := (hb.cell (p := ⟨b, off + k, none⟩) hbb).trans (hcell k (by rw [← HN'.out]; exact hlt))
          have hkM : k < (addS g (addS f R n) k).length := by rw [addS_len, HL1.out]; omega
          have hc := hns.cell hkM
          have hf := hns.fz k
          have hset := hns.set (gt (addS g (addS f R n) k) k + gt g k) hkM
          have hbd := nat_bd (addS_bd (f := g) (out := (addS f R n)) (k := k) (j := k) (by rw [HL1.out]; omega) HG.out (HB1.out k))
          have hbd2 := nat_bd (HG.out k)
          have HSET : Hid (NS (ws.setCell ⟨w.heap.size, k, none⟩ (.int .i64 (gt (addS g (addS f R n) k) k + gt g k))) w.heap.size w.heap.size (addS g (addS f R n) (k + 1))) := hset
          clear hset hcell hns
          generalize gt (addS g (addS f R n) k) k = x at *
          generalize gt g k = y at *
          go_wp2_with (first | go_quiet (fail) | fail)
          go_roundw
          case rel => exact ⟨k + 1, by omega, by go_num, HSET.out, hb.setCell (Nat.le_refl _) _⟩
          case measure => simp [intOf]; omega
        · obtain rfl : n' = k := by omega
          have HLEN : Hid (n' = (addS g (addS f R n) n').length) := by unfold Hid; rw [addS_len, HL1.out]
          generalize addS g (addS f R n) n' = O at *
          go_wp2_with (go_at_call 43; refine (i_trim w.heap.size n' n' O _ HLEN.out (by omega) (Nat.le_refl _) hns.cs).mono ?_; rintro e w2 ⟨A2, c2, rfl, ho2, hb2⟩)
          go_ret
          exact RV.pre ⟨A2, c2, rfl, ho2, hb2⟩ hb
set_option maxRecDepth 10000 in
set_option maxHeartbeats 2000000 in
theorem i_sum2 (A A' : Option Addr) (n c n' c' F G : Nat) (f g : List Int) (w : World) (hn : n = f.length) (hn' : n' = g.length) (hl : n ≤ 100) (hl' : n' ≤ 100) (hF : ∀ j, (gt f j).natAbs ≤ F) (hG : ∀ j, (gt g j).natAbs ≤ G) (hFG : F + G ≤ 4000000000000000000) (hM : n' < n) (hs : IS w w.heap.size A f) (hs' : IS w w.heap.size A' g) :
    Calls Try.prog 77 #[.slice A n c, .slice A' n' c'] w (RV (addL f g) w) := by
  have hmx : max (n : Int) (n' : Int) = (n : Int) := by omega
  have hmk := fun W => run_make_row' (P := Try.prog) 22 2 (.int .i64 0) 8 Try.underlying22 infoI64 rfl .i64 .i64 n (by omega) (by omega) W
  have hns := NS.zero w n w.heap.size (Nat.le_refl _)
  have hb := (Below.refl w.heap.size w).alloc (Nat.le_refl _) (.cells (madeCells (.int .i64 0 : Value).cells n) 2)
  have hX : addL f g = trimL (addS g (addS f (List.replicate n 0) n) n') := by
    unfold addL
    rw [← hn, ← hn', show max n n' = n by omega]
  have hz : ∀ j, (gt (List.replicate n 0) j).natAbs ≤ 0 := fun j => by rw [gt_rep]; simp
  have hlr : (List.replicate n (0 : Int)).length = n := by simp
  have hl1 : (addS f (List.replicate n 0) n).length = n := by rw [addS_len]; exact hlr
  have hb1 : ∀ j, (gt (addS f (List.replicate n 0) n) j).natAbs ≤ 0 + F := fun j => addS_bd (by rw [hlr]; omega) hF (hz j)
  rw [hX]
  have HN := Lib.hid hn
  have HN' := Lib.hid hn'
  have HF := Lib.hid hF
  have HG := Lib.hid hG
  have HZ := Lib.hid hz
  have HLR := Lib.hid hlr
  have HL1 := Lib.hid hl1
  have HB1 := Lib.hid hb1
  clear hn hn' hF hG hX hz hlr hl1 hb1
  generalize List.replicate n (0 : Int) = R at *
  go_enter Try.func77, Try.ntmps77
  go_wp2_with (fail)
  go_loopw [18] (fun u wr => ∃ k : Nat, k ≤ n ∧ u = .int .i64 k ∧ NS wr w.heap.size w.heap.size (addS f R k) ∧ Below w.heap.size w wr) (fun u _ => n - (intOf u).toNat)
  case atStart => exact ⟨0, Nat.zero_le _, rfl, hns, hb⟩
  case round =>
    clear hns hb
    obtain ⟨ws, rfl⟩ : ∃ ws : World, ws = wr := ⟨_, rfl⟩
    obtain ⟨k, hk, rfl, hns, hb⟩ := hrel
    by_cases hlt : k < n
    · obtain ⟨b, off, rfl, hbb, hcell⟩ := IS.at hs (k := k) (by rw [← HN.out]; exact hlt)
      have hin := (hb.cell (p := ⟨b, off + k, none⟩) hbb).trans (hcell k (by rw [← HN.out]; exact hlt))
      have hkM : k < (addS f R k).length := by rw [addS_len, HLR.out]; omega
      have hc := hns.cell hkM
      have hf := hns.fz k
      have hset := hns.set (gt (addS f R k) k + gt f k) hkM
      have hbd := nat_bd (addS_bd (f := f) (out := R) (k := k) (j := k) (by rw [HLR.out]; omega) HF.out (HZ.out k))
      have hbd2 := nat_bd (HF.out k)
      have HSET : Hid (NS (ws.setCell ⟨w.heap.size, k, none⟩ (.int .i64 (gt (addS f R k) k + gt f k))) w.heap.size w.heap.size (addS f R (k + 1))) := hset
      clear hset hcell hns
      generalize gt (addS f R k) k = x at *
      generalize gt f k = y at *
      go_wp2_with (first | go_quiet (fail) | fail)
      go_roundw
      case rel => exact ⟨k + 1, by omega, by go_num, HSET.out, hb.setCell (Nat.le_refl _) _⟩
      case measure => simp [intOf]; omega
    · obtain rfl : n = k := by omega
      go_wp2_with (fail)
      go_loopw [33] (fun u wr => ∃ k : Nat, k ≤ n' ∧ u = .int .i64 k ∧ NS wr w.heap.size w.heap.size (addS g (addS f R n) k) ∧ Below w.heap.size w wr) (fun u _ => n' - (intOf u).toNat)
      case atStart => exact ⟨0, Nat.zero_le _, rfl, hns, hb⟩
      case round =>
        clear hns hb
        obtain ⟨ws, rfl⟩ : ∃ ws : World, ws = wr := ⟨_, rfl⟩
        obtain ⟨k, hk, rfl, hns, hb⟩ := hrel
        by_cases hlt : k < n'
        · obtain ⟨b, off, rfl, hbb, hcell⟩ := IS.at hs' (k := k) (by rw [← HN'.out]; exact hlt)
          have hin := (hb.cell (p := ⟨b, off + k, none⟩) hbb).trans (hcell k (by rw [← HN'.out]; exact hlt))
          have hkM : k < (addS g (addS f R n) k).length := by rw [addS_len, HL1.out]; omega
          have hc := hns.cell hkM
          have hf := hns.fz k
          have hset := hns.set (gt (addS g (addS f R n) k) k + gt g k) hkM
          have hbd := nat_bd (addS_bd (f := g) (out := (addS f R n)) (k := k) (j := k) (by rw [HL1.out]; omega) HG.out (HB1.out k))
          have hbd2 := nat_bd (HG.out k)
          have HSET : Hid (NS (ws.setCell ⟨w.heap.size, k, none⟩ (.int .i64 (gt (addS g (addS f R n) k) k + gt g k))) w.heap.size w.heap.size (addS g (addS f R n) (k + 1))) := hset
          clear hset hcell hns
          generalize gt (addS g (addS f R n) k) k = x at *
          generalize gt g k = y at *
          go_wp2_with (first | go_quiet (fail) | fail)
          go_roundw
          case rel => exact ⟨k + 1, by omega, by go_num, HSET.out, hb.setCell (Nat.le_refl _) _⟩
          case measure => simp [intOf]; omega
        · obtain rfl : n' = k := by omega
          have HLEN : Hid (n = (addS g (addS f R n) n').length) := by unfold Hid; rw [addS_len, HL1.out]
          generalize addS g (addS f R n) n' = O at *
          go_wp2_with (go_at_call 43; refine (i_trim w.heap.size n n O _ HLEN.out (by omega) (Nat.le_refl _) hns.cs).mono ?_; rintro e w2 ⟨A2, c2, rfl, ho2, hb2⟩)
          go_ret
          exact RV.pre ⟨A2, c2, rfl, ho2, hb2⟩ hb
set_option maxRecDepth 10000 in
set_option maxHeartbeats 2000000 in
theorem i_sum3 (A A' : Option Addr) (n c n' c' F G : Nat) (f g : List Int) (w : World) (hn : n = f.length) (hn' : n' = g.length) (hl : n ≤ 100) (hl' : n' ≤ 100) (hF : ∀ j, (gt f j).natAbs ≤ F) (hG : ∀ j, (gt g j).natAbs ≤ G) (hFG : F + G ≤ 4000000000000000000) (hM : n' = n) (hs : IS w w.heap.size A f) (hs' : IS w w.heap.size A' g) :
    Calls Try.prog 77 #[.slice A n c, .slice A' n' c'] w (RV (addL f g) w) := by
  have hmx : max (n : Int) (n' : Int) = (n : Int) := by omega
  have hmk := fun W => run_make_row' (P := Try.prog) 22 2 (.int .i64 0) 8 Try.underlying22 infoI64 rfl .i64 .i64 n (by omega) (by omega) W
  have hns := NS.zero w n w.heap.size (Nat.le_refl _)
  have hb := (Below.refl w.heap.size w).alloc (Nat.le_refl _) (.cells (madeCells (.int .i64 0 : Value).cells n) 2)
  have hX : addL f g = trimL (addS g (addS f (List.replicate n 0) n) n') := by
    unfold addL
    rw [← hn, ← hn', show max n n' = n by omega]
  have hz : ∀ j, (gt (List.replicate n 0) j).natAbs ≤ 0 := fun j => by rw [gt_rep]; simp
  have hlr : (List.replicate n (0 : Int)).length = n := by simp
  have hl1 : (addS f (List.replicate n 0) n).length = n := by rw [addS_len]; exact hlr
  have hb1 : ∀ j, (gt (addS f (List.replicate n 0) n) j).natAbs ≤ 0 + F := fun j => addS_bd (by rw [hlr]; omega) hF (hz j)
  rw [hX]
  have HN := Lib.hid hn
  have HN' := Lib.hid hn'
  have HF := Lib.hid hF
  have HG := Lib.hid hG
  have HZ := Lib.hid hz
  have HLR := Lib.hid hlr
  have HL1 := Lib.hid hl1
  have HB1 := Lib.hid hb1
  clear hn hn' hF hG hX hz hlr hl1 hb1
  generalize List.replicate n (0 : Int) = R at *
  go_enter Try.func77, Try.ntmps77
  go_wp2_with (fail)
  go_loopw [18] (fun u wr => ∃ k : Nat, k ≤ n ∧ u = .int .i64 k ∧ NS wr w.heap.size w.heap.size (addS f R k) ∧ Below w.heap.size w wr) (fun u _ => n - (intOf u).toNat)
  case atStart => exact ⟨0, Nat.zero_le _, rfl, hns, hb⟩
  case round =>
    clear hns hb
    obtain ⟨ws, rfl⟩ : ∃ ws : World, ws = wr := ⟨_, rfl⟩
    obtain ⟨k, hk, rfl, hns, hb⟩ := hrel
    by_cases hlt : k < n
    · obtain ⟨b, off, rfl, hbb, hcell⟩ := IS.at hs (k := k) (by rw [← HN.out]; exact hlt)
      have hin := (hb.cell (p := ⟨b, off + k, none⟩) hbb).trans (hcell k (by rw [← HN.out]; exact hlt))
      have hkM : k < (addS f R k).length := by rw [addS_len, HLR.out]; omega
      have hc := hns.cell hkM
      have hf := hns.fz k
      have hset := hns.set (gt (addS f R k) k + gt f k) hkM
      have hbd := nat_bd (addS_bd (f := f) (out := R) (k := k) (j := k) (by rw [HLR.out]; omega) HF.out (HZ.out k))
      have hbd2 := nat_bd (HF.out k)
      have HSET : Hid (NS (ws.setCell ⟨w.heap.size, k, none⟩ (.int .i64 (gt (addS f R k) k + gt f k))) w.heap.size w.heap.size (addS f R (k + 1))) := hset
      clear hset hcell hns
      generalize gt (addS f R k) k = x at *
      generalize gt f k = y at *
      go_wp2_with (first | go_quiet (fail) | fail)
      go_roundw
      case rel => exact ⟨k + 1, by omega, by go_num, HSET.out, hb.setCell (Nat.le_refl _) _⟩
      case measure => simp [intOf]; omega
    · obtain rfl : n = k := by omega
      go_wp2_with (fail)
      go_loopw [33] (fun u wr => ∃ k : Nat, k ≤ n' ∧ u = .int .i64 k ∧ NS wr w.heap.size w.heap.size (addS g (addS f R n) k) ∧ Below w.heap.size w wr) (fun u _ => n' - (intOf u).toNat)
      case atStart => exact ⟨0, Nat.zero_le _, rfl, hns, hb⟩
      case round =>
        clear hns hb
        obtain ⟨ws, rfl⟩ : ∃ ws : World, ws = wr := ⟨_, rfl⟩
        obtain ⟨k, hk, rfl, hns, hb⟩ := hrel
        by_cases hlt : k < n'
        · obtain ⟨b, off, rfl, hbb, hcell⟩ := IS.at hs' (k := k) (by rw [← HN'.out]; exact hlt)
          have hin := (hb.cell (p := ⟨b, off + k, none⟩) hbb).trans (hcell k (by rw [← HN'.out]; exact hlt))
          have hkM : k < (addS g (addS f R n) k).length := by rw [addS_len, HL1.out]; omega
          have hc := hns.cell hkM
          have hf := hns.fz k
          have hset := hns.set (gt (addS g (addS f R n) k) k + gt g k) hkM
          have hbd := nat_bd (addS_bd (f := g) (out := (addS f R n)) (k := k) (j := k) (by rw [HL1.out]; omega) HG.out (HB1.out k))
          have hbd2 := nat_bd (HG.out k)
          have HSET : Hid (NS (ws.setCell ⟨w.heap.size, k, none⟩ (.int .i64 (gt (addS g (addS f R n) k) k + gt g k))) w.heap.size w.heap.size (addS g (addS f R n) (k + 1))) := hset
          clear hset hcell hns
          generalize gt (addS g (addS f R n) k) k = x at *
          generalize gt g k = y at *
          go_wp2_with (first | go_quiet (fail) | fail)
          go_roundw
          case rel => exact ⟨k + 1, by omega, by go_num, HSET.out, hb.setCell (Nat.le_refl _) _⟩
          case measure => simp [intOf]; omega
        · obtain rfl : n' = k := by omega
          have HLEN : Hid (n = (addS g (addS f R n) n').length) := by unfold Hid; rw [addS_len, HL1.out]
          generalize addS g (addS f R n) n' = O at *
          go_wp2_with (go_at_call 43; refine (i_trim w.heap.size n n O _ HLEN.out (by omega) (Nat.le_refl _) hns.cs).mono ?_; rintro e w2 ⟨A2, c2, rfl, ho2, hb2⟩)
          go_ret
          exact RV.pre ⟨A2, c2, rfl, ho2, hb2⟩ hb
theorem i_sumOf (A A' : Option Addr) (n c n' c' F G : Nat) (f g : List Int) (w : World) (hn : n = f.length) (hn' : n' = g.length) (hl : n ≤ 100) (hl' : n' ≤ 100) (hF : ∀ j, (gt f j).natAbs ≤ F) (hG : ∀ j, (gt g j).natAbs ≤ G) (hFG : F + G ≤ 4000000000000000000) (hs : IS w w.heap.size A f) (hs' : IS w w.heap.size A' g) :
    Calls Try.prog 77 #[.slice A n c, .slice A' n' c'] w (RV (addL f g) w) := by
  rcases Nat.lt_trichotomy n n' with h | h | h
  · exact i_sum1 A A' n c n' c' F G f g w hn hn' hl hl' hF hG hFG h hs hs'
  · exact i_sum3 A A' n c n' c' F G f g w hn hn' hl hl' hF hG hFG h.symm hs hs'
  · exact i_sum2 A A' n c n' c' F G f g w hn hn' hl hl' hF hG hFG h hs hs'
end Go.Proofs.Ytifaccppbhbfhaa
