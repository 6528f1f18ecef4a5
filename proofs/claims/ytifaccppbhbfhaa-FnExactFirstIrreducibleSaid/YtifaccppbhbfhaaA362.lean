/- Contract: the program's kernel. -/
import Derived.Test.YtifaccppbhbfhaaA361
namespace Go.Proofs.Ytifaccppbhbfhaa
set_option linter.unusedVariables false
set_option linter.unusedSimpArgs false
open Go.RowKit

set_option maxRecDepth 20000 in
set_option maxHeartbeats 8000000 in
theorem i_kernel (P : Nat) [NeZero P] (hP : P ≤ 97) (hp : FX.Prm P) (A' : Option Addr) (n n' c' : Nat) (f : List Int) (w : World) (hn : n' = f.length) (hnn : n' = n + 1) (h0 : 0 < n) (hl : n ≤ 8) (hf : FX.Can P f) (hs : IS w w.heap.size A' f) :
    Calls Try.prog 76 #[.int .i64 (P : Int), .slice A' n' c'] w (fun e w' => ∃ (bl : List (List Int)) (A : Option Addr) (c : Nat), KBQ P f n bl ∧ e = .returned (.slice A bl.length c) ∧ OLL w' w.heap.size A c bl ∧ Below w.heap.size w w') := by
  have hp2 : 2 ≤ P := hp.1
  have h1 : 0 < P := by omega
  have hdg := hf.dg P (by omega)
  rw [show f.length - 1 = n by omega] at hdg
  have HDG := Lib.hid hdg
  have hpw := fun (i g : Nat) (w1 : World) (a : i * P ≤ 1000) (h : OA w1 (some ⟨g, 0, none⟩) 2 [0, 1]) (h' : IS w1 w1.heap.size A' f) => i_powerBy P hP hp (some ⟨g, 0, none⟩) A' 2 n' c' (i * P) [0, 1] f w1 hn (by omega) (by omega) a (by simp) (can_X P hp2) hf h h'
  have hmk := fun W => run_make_row' (P := Try.prog) 22 2 (.int .i64 0) 8 Try.underlying22 infoI64 rfl .i64 .i64 n (by omega) (by omega) W
  have hmkh := fun W => run_make_row' (P := Try.prog) 50 22 (.slice none 0 0) 24 Try.underlying50 infoSl rfl .i64 .i64 n (by omega) (by omega) W
  have hmd := fun x W => i_modS x P W h1 hP
  have hnull := fun hd b R wx a1 a2 a3 a4 => i_nullspace P hP hp w.heap.size hd n b R wx h0 hl a1 a2 a3 a4
  have hkb := fun R bl a b => kbq_of P hp (f := f) (n := n) (R := R) (bl := bl) hdg (by omega) a b
  have hx1 : (n' : Int) - 1 = (n : Int) := by omega
  have hb0 := (Below.refl w.heap.size w).alloc (Nat.le_refl _) (.cells (madeCells #[.slice none 0 0] n) 22)
  have hbk0 : BK (w.alloc (.cells (madeCells #[.slice none 0 0] n) 22)) w.heap.size 22 (madeCells #[.slice none 0 0] n) := BK.new _ _ _
  have hm0 : MX (w.alloc (.cells (madeCells #[.slice none 0 0] n) 22)) w.heap.size w.heap.size (fun _ => 0) (fun _ => []) 0 n := ⟨⟨_, hbk0, fun i hi => by omega⟩, fun i hi => by omega, fun i j hi => by omega⟩
  have hc0 : Hid (∃ cs, BK (w.alloc (.cells (madeCells #[.slice none 0 0] n) 22)) w.heap.size 22 cs ∧ cs.size = n) := ⟨_, hbk0, by simp [madeCells]⟩
  obtain ⟨hd, hhd⟩ : ∃ hd, hd = w.heap.size := ⟨_, rfl⟩
  have HN := Lib.hid hn
  have HNN := Lib.hid hnn
  have HPW := Lib.hid hpw
  have HNU := Lib.hid hnull
  have HKB := Lib.hid hkb
  have HS := Lib.hid hs
  clear hn hnn hpw hf hdg hs hnull hkb hbk0
  go_enter Try.func76, Try.ntmps76
  go_wp2_with (fail)
  have HHD := Lib.hid hhd
  have hm0' : MX (w.alloc (.cells (madeCells #[.slice none 0 0] n) 22)) w.heap.size hd (fun _ => 0) (fun _ => []) 0 n := by rw [hhd]; exact hm0
  have hc0' : Hid (∃ cs, BK (w.alloc (.cells (madeCells #[.slice none 0 0] n) 22)) hd 22 cs ∧ cs.size = n) := by rw [hhd]; exact hc0
  rw [← hhd]
  clear hhd hm0 hc0
  go_loopw [18] (fun u18 wr => ∃ (i : Nat) (b : Nat → Nat) (R : Nat → List Int), i ≤ n ∧ u18 = .int .i64 (i : Int) ∧ MX wr w.heap.size hd b R i n ∧ Hid (∀ r, r < i → R r = List.replicate n 0) ∧ Hid (∃ cs, BK wr hd 22 cs ∧ cs.size = n) ∧ Below w.heap.size w wr) (fun u18 _ => n - (intOf u18).toNat)
  case atStart => exact ⟨0, _, _, Nat.zero_le _, rfl, hm0', fun r hr => by omega, hc0', hb0⟩
  case round =>
  clear hm0' hc0' hb0
  obtain ⟨wo, rfl⟩ : ∃ wo : World, wo = wr := ⟨_, rfl⟩
  obtain ⟨i, b, R, hin, rfl, hmx, HR, HC, hb⟩ := hrel
  by_cases hlt : i < n
  · obtain ⟨cs, hbk, hcs⟩ := HC.out
    obtain ⟨u0, hu0⟩ : ∃ u0, cs[i]? = some u0 := ⟨cs[i]'(by omega), Array.getElem?_eq_getElem (by omega)⟩
    have e1 := hbk.cell i
    rw [hu0] at e1
    have e2 := hbk.frozen i
    have hba := (Below.refl wo.heap.size wo).alloc (Nat.le_refl _) (.cells (madeCells #[.int .i64 0] n) 2)
    have hne : ¬ hd = wo.heap.size := by have := hbk.lt; omega
    have hns := (NS.zero wo n wo.heap.size (Nat.le_refl _)).os
    have hbk2 := (hbk.alloc (.cells (madeCells #[.int .i64 0] n) 2))
    have e1a := hbk2.cell i
    rw [hu0] at e1a
    have e2a := hbk2.frozen i
    have hma := (hmx.call hba).add (i := i) e1a hb.size (fun e => hne e.symm) (fun k hk e => by have := (hmx.row k hk).2.2.1.lt; omega) hns (by simp)
    have HC2 : Hid (∃ cs, BK ((wo.alloc (.cells (madeCells #[.int .i64 0] n) 2)).setCell ⟨hd, i, none⟩ (.slice (some ⟨wo.heap.size, 0, none⟩) n n)) hd 22 cs ∧ cs.size = n) := ⟨_, hbk2.set i _, by simp [hcs]⟩
    have hb2 := (hb.alloc hb.size (.cells (madeCells #[.int .i64 0] n) 2)).setCell (p := ⟨hd, i, none⟩) (by rw [HHD.out]; exact Nat.le_refl _) (.slice (some ⟨wo.heap.size, 0, none⟩) n n)
    have HR2 : Hid (∀ r, r < i + 1 → upd R i (List.replicate n 0) r = List.replicate n 0) := fun r hr => by
      by_cases e : r = i
      · rw [e, upd_same]
      · rw [upd_ne _ _ e]; exact HR.out r (by omega)
    clear hbk hbk2 hns hba hmx hcs hb hu0
    go_wp2_with (fail)
    go_roundw
    case rel => exact ⟨i + 1, _, _, by omega, by go_num, hma, HR2, HC2, hb2⟩
    case measure => simp [intOf]; omega
  · obtain ⟨n, rfl⟩ : ∃ n2, n2 = n := ⟨n, rfl⟩
    obtain rfl : n = i := by omega
    have HMZ := Lib.hid (MZ.start P f n HR.out)
    clear HR HC hin hlt
    go_wp2_with (fail)
    go_loopw [28] (fun u28 wr => ∃ (i : Nat) (R : Nat → List Int), i ≤ n ∧ u28 = .int .i64 (i : Int) ∧ Hid (MZ P f n R i) ∧ MX wr w.heap.size hd b R n n ∧ Below w.heap.size w wr) (fun u28 _ => n - (intOf u28).toNat)
    case atStart => exact ⟨0, R, Nat.zero_le _, rfl, HMZ, hmx, hb⟩
    case round =>
    clear HMZ hmx hb
    obtain ⟨wo, rfl⟩ : ∃ wo : World, wo = wr := ⟨_, rfl⟩
    obtain ⟨i, R, hin, rfl, HMZ, hmx, hb⟩ := hrel
    by_cases hlt : i < n
    · have hiP : i * P ≤ 7 * 97 := Nat.mul_le_mul (by omega) hP
      have hip : (P : Int) * (i : Int) = ((i * P : Nat) : Int) := by rw [Int.mul_comm]; simp
      have hip2 : ((i * P : Nat) : Int) ≤ 679 := by omega
      have hip0 : (0 : Int) ≤ ((i * P : Nat) : Int) := by omega
      have hba2 := (Below.refl wo.heap.size wo).alloc (Nat.le_refl _) (.cells #[.int .i64 0, .int .i64 1] 2)
      have hol : OA (wo.alloc (.cells #[.int .i64 0, .int .i64 1] 2)) (some ⟨wo.heap.size, 0, none⟩) 2 [0, 1] := World.ownsRow_lit (base := 0) (e := 2) (size := 1) wo #[.int .i64 0, .int .i64 1] 2 (Nat.zero_le _) (by simp [maxLen]) rfl
      have hcl := HPW.out i _ _ (by omega) hol ((HS.out.call hb).call hba2)
      have hstep := fun R' im a b => HMZ.out.step P (R' := R') (im := im) a b
      have hz : ∀ r, r < n → gt (R r) i = 0 := fun r hr => by
        obtain ⟨_, _, h3⟩ := HMZ.out
        exact h3 i (Nat.le_refl _) r hr
      have HST := Lib.hid hstep
      have HZ := Lib.hid hz
      generalize hip3 : i * P = iP at *
      clear hol hstep hz
      go_wp2_with (go_at_call 91; refine hcl.mono ?_; clear hcl; rintro e w3 ⟨img, hq, A3, c3, rfl, ho3, hb3⟩)
      have hil : img.length ≤ n := by have := hq.2.1; have := HN.out; have := HNN.out; omega
      have hb03 := bel_call hba2 hb3
      have hm3 := hmx.call hb03
      have hbb := hb.trans (hb03.mono hb.size)
      obtain ⟨nl, hnl⟩ : ∃ nl, nl = img.length := ⟨_, rfl⟩
      have hblt : ∀ r, r < n → b r < (wo.alloc (.cells #[.int .i64 0, .int .i64 1] 2)).heap.size := fun r hr => by have := (hmx.row r hr).2.2.1.lt; simp; omega
      generalize (wo.alloc (.cells #[.int .i64 0, .int .i64 1] 2)).heap.size = base3 at *
      rw [← hnl] at ho3 hil ⊢
      have HNL := Lib.hid hnl
      have HQ := Lib.hid hq
      have HBL := Lib.hid hblt
      have HCP : Hid (∀ r, r < n → ∀ j, gt (R r) j = if j = i ∧ r < 0 then gt img r else gt (R r) j) := fun r _ j => by rw [if_neg (by omega)]
      clear hnl hq hb3 hba2 hb03 hblt hmx hb
      go_wp2_with (fail)
      go_loopw [39] (fun u39 wr => ∃ (k : Nat) (R2 : Nat → List Int), k ≤ nl ∧ u39 = .int .i64 (k : Int) ∧ Hid (∀ r, r < n → ∀ j, gt (R2 r) j = if j = i ∧ r < k then gt img r else gt (R r) j) ∧ MX wr w.heap.size hd b R2 n n ∧ wr.ownsRow base3 2 1 (.slice A3 nl c3) nl (ints img) ∧ Below w.heap.size w wr) (fun u39 _ => nl - (intOf u39).toNat)
      case atStart => exact ⟨0, R, Nat.zero_le _, rfl, HCP, hm3, ho3, hbb⟩
      case round =>
      clear HCP hm3 ho3 hbb
      obtain ⟨wt, rfl⟩ : ∃ wt : World, wt = wr := ⟨_, rfl⟩
      obtain ⟨k, R2, hk, rfl, HCP, hmx, ho3, hb⟩ := hrel
      by_cases hkl : k < nl
      · have hkn : k < n := by omega
        obtain ⟨g3, rfl, hg3, _, hos3⟩ := own_os ho3 HNL.out (by omega)
        have e1 := hos3.cell (j := k) (by rw [← HNL.out]; exact hkl)
        have e2 := hmx.hs.cell hkn
        have e3 := hmx.cell hkn hlt
        have e4 := hmx.fz hkn i
        have hset := hmx.set hkn hlt (gt img k)
        have hli := (hmx.row k hkn).2.2.2
        have HCP2 : Hid (∀ r, r < n → ∀ j, gt (upd R2 k ((R2 k).set i (gt img k)) r) j = if j = i ∧ r < k + 1 then gt img r else gt (R r) j) := fun r hr j => by
          by_cases e : r = k
          · rw [e, upd_same, gt_setI j (by omega), HCP.out k hkn j]
            by_cases e2 : i = j
            · rw [if_pos e2, if_pos (by omega)]
            · rw [if_neg e2, if_neg (by omega), if_neg (by omega)]
          · rw [upd_ne _ _ e, HCP.out r hr j]
            by_cases e2 : j = i ∧ r < k
            · rw [if_pos e2, if_pos (by omega)]
            · rw [if_neg e2, if_neg (by omega)]
        have ho4 := ownsRow_setCell_below ho3 (a := ⟨b k, i, none⟩) (HBL.out k hkn) (.int .i64 (gt img k))
        have hb4 := hb.setCell (p := ⟨b k, i, none⟩) (hmx.row k hkn).1 (.int .i64 (gt img k))
        clear hmx ho3 hb hos3 hli
        generalize hR2 : upd R2 k ((R2 k).set i (gt img k)) = R5 at *
        generalize gt img k = y at *
        generalize gt (R2 k) i = y0 at *
        clear hR2
        go_wp2_with (fail)
        go_roundw
        case rel => exact ⟨k + 1, R5, by omega, by go_num, HCP2, hset, ho4, hb4⟩
        case measure => simp [intOf]; omega
      · obtain rfl : k = nl := by omega
        have e2 := hmx.hs.cell hlt
        have e3 := hmx.cell hlt hlt
        have hyi : gt (R2 i) i = gt img i := by
          rw [HCP.out i hlt i]
          by_cases e : i < k
          · rw [if_pos ⟨rfl, e⟩]
          · rw [if_neg (by omega), HZ.out i hlt]
            exact (gt_big (by rw [← HNL.out]; omega)).symm
        rw [hyi] at e3
        have e4 := hmx.fz hlt i
        have hcb := HQ.out.1.1 i
        have hset := (hmx.drewN 1).set hlt hlt ((gt img i - 1) % (P : Int))
        have hmw := fun W => hmd (gt img i - 1) W (by omega) (by omega)
        have hli := (hmx.row i hlt).2.2.2
        have hnx := HST.out (upd R2 i ((R2 i).set i ((gt img i - 1) % (P : Int)))) img HQ.out (fun r hr j => by
          by_cases e : r = i
          · rw [e, upd_same, gt_setI j (by omega), HCP.out i hlt j]
            by_cases e2 : i = j
            · rw [if_pos e2, if_pos e2.symm, if_pos rfl]
            · rw [if_neg e2, if_neg (by omega), if_neg (by omega)]
          · rw [upd_ne _ _ e, HCP.out r hr j, if_neg e]
            by_cases e2 : j = i
            · rw [if_pos e2]
              by_cases e3 : r < k
              · rw [if_pos ⟨e2, e3⟩]
              · rw [if_neg (by omega), e2, HZ.out r hr]
                exact (gt_big (by rw [← HNL.out]; omega)).symm
            · rw [if_neg e2, if_neg (by omega)])
        have HNX := Lib.hid hnx
        have hb4 := (below_drewN hb 1).setCell (p := ⟨b i, i, none⟩) (hmx.row i hlt).1 (.int .i64 ((gt img i - 1) % (P : Int)))
        clear hmx ho3 hb hli hnx hyi
        generalize hR2 : upd R2 i ((R2 i).set i ((gt img i - 1) % (P : Int))) = R5 at *
        generalize (gt img i - 1) % (P : Int) = xx at *
        generalize gt img i = y at *
        clear hR2
        have hw4 : IntKind.i64.wrap (y - 1) = y - 1 := IntWalk.i64_in _ (by omega)
        go_wp2_with (fail)
        go_still_tail 16, (by kernel_rfl)
        still_call (hmw wt.drew)
        repeat still_step
        refine wpStill_nil ?_
        change wpList _ _ _ _ _ wt.drew
        go_wp2_with (fail)
        go_roundw
        case rel => exact ⟨i + 1, R5, by omega, by go_num, HNX, hset, hb4⟩
        case measure => simp [intOf]; omega
    · obtain rfl : n = i := by omega
      have hbd := HMZ.out.bd P (fun r hr => (hmx.row r hr).2.2.2)
      have hcl := HNU.out hd b R wo hb.size (by rw [HHD.out]; exact Nat.le_refl _) hmx hbd
      have hsz := hb.size
      have HKR := Lib.hid (fun bl => HKB.out R bl HMZ.out)
      clear hbd hmx
      go_wp2_with (go_at_call 92; refine hcl.mono ?_; clear hcl; rintro e w3 ⟨bl, A3, c3, hq, rfl, ho3, hb3⟩)
      go_ret
      exact ⟨bl, A3, c3, HKR.out bl hq, rfl, ho3.mono hsz, hb.trans hb3⟩
end Go.Proofs.Ytifaccppbhbfhaa
