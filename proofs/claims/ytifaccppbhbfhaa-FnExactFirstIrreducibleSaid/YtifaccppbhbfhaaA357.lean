/- Contract: the reference's kernel. -/
import Derived.Test.YtifaccppbhbfhaaA356
namespace Go.Proofs.Ytifaccppbhbfhaa
set_option linter.unusedVariables false
set_option linter.unusedSimpArgs false
open Go.RowKit

def KVQ (P : Nat) [NeZero P] (f : List Int) (n : Nat) (v : List Int) : Prop := (v = [] ∧ KN P f n) ∨ (FX.Can P v ∧ 2 ≤ v.length ∧ v.length ≤ n ∧ FX.Dv (FX.toP P f) (FX.Phi P (FX.toP P v)))
set_option maxRecDepth 20000 in
set_option maxHeartbeats 4000000 in
theorem s_l09Kernel (P : Nat) [NeZero P] (hP : P ≤ 97) (hp : FX.Prm P) (A' : Option Addr) (n n' c' : Nat) (f : List Int) (w : World) (hn : n' = f.length) (hnn : n' = n + 1) (h0 : 0 < n) (hl : n ≤ 8) (hf : FX.Can P f) (hs : IS w w.heap.size A' f) :
    Calls Try.prog 84 #[.int .i64 (P : Int), .slice A' n' c'] w (OAE (KVQ P f n) w) := by
  have hp2 : 2 ≤ P := hp.1
  have h1 : 0 < P := by omega
  obtain ⟨i0, hi, hz0, hz1, hz2⟩ := info_parts infoI64
  obtain ⟨i1, hi1, hy0, hy1, hy2⟩ := info_parts infoSl
  have hdg := hf.dg P (by omega)
  rw [show f.length - 1 = n by omega] at hdg
  have HDG := Lib.hid hdg
  obtain ⟨m, hm⟩ : ∃ m, m = 2 * n := ⟨_, rfl⟩
  have HM := Lib.hid hm
  have hpw := fun (i g : Nat) (w1 : World) (a : i * P ≤ 1000) (h : OA w1 (some ⟨g, 0, none⟩) 2 [0, 1]) (h' : IS w1 w1.heap.size A' f) => s_power P hP hp (some ⟨g, 0, none⟩) A' 2 n' c' (i * P) [0, 1] f w1 hn (by omega) (by omega) a (by simp) (can_X P hp2) hf h h'
  have hmk := fun W => run_make_row' (P := Try.prog) 22 2 (.int .i64 0) 8 Try.underlying22 infoI64 rfl .i64 .i64 m (by omega) (by omega) W
  have hmkb := fun W => run_make_row' (P := Try.prog) 88 4 (.bool false) 1 Try.underlying88 infoBoolF rfl .i64 .i64 n (by omega) (by omega) W
  have hmd := fun x W => s_modS x P W h1 hP
  have hbl := BL.start P w n f
  have hb0 := (Below.refl w.heap.size w).alloc (Nat.le_refl _) (.cells #[] 22)
  have hrw := fun img l i a b c d e g => rw0_of P hp (f := f) (img := img) (l := l) (n := n) (i := i) a b c d e g
  have hx1 : (n' : Int) - 1 = (n : Int) := by omega
  have hx2 : (2 : Int) * (n : Int) = (m : Int) := by omega
  have HN := Lib.hid hn
  have HNN := Lib.hid hnn
  have HPW := Lib.hid hpw
  have HRW := Lib.hid hrw
  have HS := Lib.hid hs
  have hmn : n + n ≤ m := by omega
  have hm16 : m ≤ 16 := by omega
  clear hn hnn hpw hrw hf hdg hs hm
  go_enter Try.func84, Try.ntmps84
  go_wp2_with (fail)
  go_loopw [6, 7] (fun u6 u7 wr => ∃ (i c6 : Nat) (A6 : Option Addr) (b : Nat → Nat) (R : Nat → List Int), i ≤ n ∧ u7 = .int .i64 (i : Int) ∧ u6 = .slice A6 i c6 ∧ Hid (BL P wr w.heap.size A6 c6 i b R n f) ∧ Below w.heap.size w wr) (fun _ u7 _ => n - (intOf u7).toNat)
  case atStart => exact ⟨0, 0, some ⟨w.heap.size, 0, none⟩, _, _, Nat.zero_le _, rfl, rfl, hbl, hb0⟩
  case round =>
  clear hbl hb0
  obtain ⟨wo, rfl⟩ : ∃ wo : World, wo = wr := ⟨_, rfl⟩
  obtain ⟨i, c6, A6, b, R, hin, rfl, rfl, HBL, hb⟩ := hrel
  by_cases hlt : i < n
  · have hiP : i * P ≤ 7 * 97 := Nat.mul_le_mul (by omega) hP
    have hip : (i : Int) * (P : Int) = ((i * P : Nat) : Int) := by simp
    have hip2 : ((i * P : Nat) : Int) ≤ 679 := by omega
    have hip0 : (0 : Int) ≤ ((i * P : Nat) : Int) := by omega
    obtain ⟨g, hg⟩ : ∃ g, g = wo.heap.size := ⟨_, rfl⟩
    have hba := (Below.refl wo.heap.size wo).alloc (Nat.le_refl _) (.cells (madeCells #[.int .i64 0] m) 2)
    have hba2 := hba.alloc (by simp) (.cells #[.int .i64 0, .int .i64 1] 2)
    have hns := (NS.zero wo m wo.heap.size (Nat.le_refl _)).os
    have hns2 := hns.call ((Below.refl _ _).alloc (Nat.le_refl _) (.cells #[.int .i64 0, .int .i64 1] 2))
    have hol : OA ((wo.alloc (.cells (madeCells #[.int .i64 0] m) 2)).alloc (.cells #[.int .i64 0, .int .i64 1] 2)) (some ⟨wo.heap.size + 1, 0, none⟩) 2 [0, 1] := by
      have h := World.ownsRow_lit (base := 0) (e := 2) (size := 1) (wo.alloc (.cells (madeCells #[.int .i64 0] m) 2)) #[.int .i64 0, .int .i64 1] 2 (Nat.zero_le _) (by simp [maxLen]) rfl
      rw [show (wo.alloc (.cells (madeCells #[.int .i64 0] m) 2)).heap.size = wo.heap.size + 1 by simp] at h
      exact h
    have hcl := HPW.out i _ _ (by omega) hol ((HS.out.call hb).call hba2)
    have HB1 := Lib.hid (HBL.out.call hba2)
    have hrow := fun img l c d e g => HRW.out img l i hlt c d e g
    generalize hip3 : i * P = iP at *
    clear hol hns hba
    go_wp2_with (go_at_call 105; refine hcl.mono ?_; clear hcl; rintro e w3 ⟨img, hq, A3, c3, rfl, ho3, hb3⟩)
    have hil : img.length ≤ n := by have := hq.2.1; have := HN.out; have := HNN.out; omega
    have hns3 := hns2.call hb3
    have hb03 := bel_call hba2 hb3
    have hcp := CPL.start img m
    obtain ⟨nl, hnl⟩ : ∃ nl, nl = img.length := ⟨_, rfl⟩
    have hbs : g < ((wo.alloc (.cells (madeCells #[.int .i64 0] m) 2)).alloc (.cells #[.int .i64 0, .int .i64 1] 2)).heap.size := by simp [hg]; omega
    generalize ((wo.alloc (.cells (madeCells #[.int .i64 0] m) 2)).alloc (.cells #[.int .i64 0, .int .i64 1] 2)).heap.size = base3 at *
    rw [← hnl] at ho3 hil ⊢
    rw [← hg] at hns3 ⊢
    have HNL := Lib.hid hnl
    have HQ := Lib.hid hq
    have HGW := Lib.hid hg
    have HCP := Lib.hid hcp
    clear hnl hq hns2 hb3 hba2 HB1 hg hcp
    go_wp2_with (fail)
    go_loopw [10] (fun u10 wr => ∃ (k : Nat) (l : List Int), k ≤ nl ∧ u10 = .int .i64 (k : Int) ∧ Hid (CPL img m k l) ∧ OS wr g l ∧ wr.ownsRow base3 2 1 (.slice A3 nl c3) nl (ints img) ∧ Below wo.heap.size wo wr) (fun u10 _ => nl - (intOf u10).toNat)
    case atStart => exact ⟨0, List.replicate m 0, Nat.zero_le _, rfl, HCP, hns3, ho3, hb03⟩
    case round =>
    clear hns3 ho3 hb03 HCP
    obtain ⟨wt, rfl⟩ : ∃ wt : World, wt = wr := ⟨_, rfl⟩
    obtain ⟨k, l, hk, rfl, HCP, hos, ho3, hb3⟩ := hrel
    by_cases hkl : k < nl
    · obtain ⟨g3, rfl, hg3, _, hos3⟩ := own_os ho3 HNL.out (by omega)
      have e1 := hos3.cell (j := k) (by rw [← HNL.out]; exact hkl)
      have e2 := hos.fz k
      have e3 := hos.cell (j := k) (by rw [HCP.out.1]; omega)
      have hset := hos.set (gt img k) (r := k) (by rw [HCP.out.1]; omega)
      have hst := HCP.out.step (by omega : k < m)
      have HST := Lib.hid hst
      have hkm : k < m := by omega
      generalize hl2 : l.set k (gt img k) = l2 at *
      generalize gt img k = y at *
      generalize gt l k = y0 at *
      clear hst hl2 hos3 hos
      go_wp2_with (fail)
      go_roundw
      case rel => exact ⟨k + 1, l2, by omega, by go_num, HST, hset, ownsRow_setCell_below ho3 hbs _, hb3.setCell (by have := HGW.out; simp; omega) _⟩
      case measure => simp [intOf]; omega
    · obtain rfl : nl = k := by omega
      have hcp := HCP.out
      rw [HNL.out] at hcp
      have hcb := HQ.out.1.1 i
      have hli := hcp.1
      have e1 : gt l i = gt img i := by
        rw [hcp.2 i]; split
        · rfl
        · exact (gt_big (by omega)).symm
      have e2 := hos.cell (j := i) (by omega)
      rw [e1] at e2
      have e3 := hos.fz i
      have hset := hos.set ((gt img i - 1) % (P : Int)) (r := i) (by omega)
      have e4 := hset.cell (j := n + i) (by rw [List.length_set]; omega)
      have e5 := hset.fz (n + i)
      have hset2 := hset.set 1 (r := n + i) (by rw [List.length_set]; omega)
      obtain ⟨z1, z2⟩ := hcp.row (x := (gt img i - 1) % (P : Int)) hmn hlt
      have hrw := hrow img _ (z1.trans HM.out) HQ.out.1 (by rw [← HNL.out]; exact hil) HQ.out.2.2 z2
      have HRWI := Lib.hid hrw
      have hmw := fun W => hmd (gt img i - 1) W (by omega) (by omega)
      have hset3 := (hset2.call ((Below.refl _ _).alloc (Nat.le_refl _) (.cells #[.slice (some ⟨g, 0, none⟩) m m] 22)))
      have hbs2 : Below wo.heap.size wo (((wt.setCell ⟨g, i, none⟩ (.int .i64 ((gt img i - 1) % (P : Int)))).setCell ⟨g, n + i, none⟩ (.int .i64 1)).alloc (.cells #[.slice (some ⟨g, 0, none⟩) m m] 22)) := ((hb3.setCell (by have := HGW.out; simp; omega) _).setCell (by have := HGW.out; simp; omega) _).alloc (by have := hb3.size; simp; omega) _
      have hni : (n : Int) + (i : Int) = ((n + i : Nat) : Int) := by omega
      have hnim : n + i < m := by omega
      have him : i < m := by omega
      generalize hni2 : n + i = ni at *
      generalize hl3 : (l.set i ((gt img i - 1) % (P : Int))).set ni 1 = l3 at *
      generalize hyy : (gt img i - 1) % (P : Int) = yy at *
      generalize gt img i = y at *
      generalize gt (l.set i yy) ni = y5 at *
      clear hset hset2 hrw z1 z2 hl3 hyy e1 hcp hni2 hrow hos
      have HBW := Lib.hid hbs2
      have HOB := Lib.hid HBL.out.own
      have hbsz := hb.size
      have HS3 := Lib.hid hset3
      have hsrc := one_src ((wt.setCell ⟨g, i, none⟩ (.int .i64 yy)).setCell ⟨g, ni, none⟩ (.int .i64 1)) (.slice (some ⟨g, 0, none⟩) m m) 22
      rw [show ((wt.setCell ⟨g, i, none⟩ (.int .i64 yy)).setCell ⟨g, ni, none⟩ (.int .i64 1)).heap.size = wt.heap.size by simp] at hsrc
      have HSRC := Lib.hid hsrc
      have hgwa := HS3.out.lt
      have hwsz := Nat.le_trans hbsz HBW.out.size
      have HGWA := Lib.hid hgwa
      have HWSZ := Lib.hid hwsz
      clear hbs2 hset3 hsrc ho3 hb3 hgwa hwsz
      go_wp2_with (first
        | (go_at_call 36; refine (hmw _).mono ?_; clear hmw; rintro e w5 ⟨rfl, rfl⟩)
        | (at_builtin; go_loud (refine wpList_append_src rfl (.tmp 68) (.tmp 70) 50 rfl w.heap.size 22 i1 (.slice none 0 0) 1 24 Try.underlying50 hi1 hy0 hy1 hy2 rfl (by omega) (.slice A6 i c6) i (hdr b (2 * n) i) rfl (own_below HOB.out HBW.out) (some ⟨w5.heap.size, 0, none⟩) 1 1 [.slice (some ⟨g, 0, none⟩) m m] rfl rfl HSRC.out (by intro h; cases h) (by intro u hu; simp at hu; subst hu; rfl) (by simp only [maxLen]; omega) (by omega) HWSZ.out ?_; intro v7 w7 o7 g9 ha; obtain ⟨A7, c9, rfl, _⟩ := own_slice' o7)))
      have hpush := HBL.out.push hbsz HBW.out (by rw [HGW.out]; exact Nat.le_refl _) HGWA.out HS3.out HRWI.out (by have h := o7; rw [HM.out] at h; exact h) g9 ha
      have hb7 := (bel_call hb HBW.out).grown g9 HWSZ.out (fun g' hg' => (HOB.out.lt g' hg').1)
      have HPU := Lib.hid hpush
      clear o7 g9 ha hpush
      go_roundw
      case rel => exact ⟨i + 1, c9, A7, _, _, by omega, by go_num, rfl, HPU, hb7⟩
      case measure => simp [intOf]; omega
  · obtain rfl : i = n := by omega
    obtain ⟨hd, rfl, hhb, hmx, hk1⟩ := HBL.out.mx h0
    rw [← HM.out] at hmx
    have hus := US.new wo i
    have hba := (Below.refl wo.heap.size wo).alloc (Nat.le_refl _) (.cells (madeCells #[.bool false] i) 4)
    have hmx2 := hmx.call hba
    have hb2 := hb.alloc hb.size (.cells (madeCells #[.bool false] i) 4)
    have HK : Hid (K1 P f i R ∧ K3 i R (fun _ => false) 0) := ⟨hk1, K3.start i R⟩
    have hne1 : hd ≠ wo.heap.size := by have := hmx.hs.lt; omega
    have hne2 : ∀ k, k < i → b k ≠ wo.heap.size := fun k hk => by have := (hmx.row k hk).2.2.1.lt; omega
    have hub : w.heap.size ≤ wo.heap.size := hb.size
    clear hmx hba HBL hk1 hb
    have HNE2 := Lib.hid hne2
    clear hne2
    obtain ⟨ub, hube⟩ : ∃ ub, ub = wo.heap.size := ⟨_, rfl⟩
    rw [← hube] at hus hne1 HNE2 hub
    clear hin hlt
    obtain ⟨n, rfl⟩ : ∃ n, n = i := ⟨i, rfl⟩
    go_wp2_with (fail)
    rw [← hube]
    go_loopw [12] (fun u12 wr => ∃ (c : Nat) (R : Nat → List Int) (u : Nat → Bool), c ≤ n ∧ u12 = .int .i64 (c : Int) ∧ Hid (K1 P f n R ∧ K3 n R u c) ∧ MX wr w.heap.size hd b R n m ∧ US wr ub u n ∧ Below w.heap.size w wr) (fun u12 _ => n - (intOf u12).toNat)
    case atStart => exact ⟨0, R, fun _ => false, Nat.zero_le _, rfl, HK, hmx2, hus, hb2⟩
    case round =>
    clear HK hmx2 hus hb2 hube
    obtain ⟨ws, rfl⟩ : ∃ ws : World, ws = wr := ⟨_, rfl⟩
    obtain ⟨c, R, u, hc, rfl, HK, hmx, hus, hb⟩ := hrel
    by_cases hlt : c < n
    · have hcm : c < m := by omega
      go_wp2_with (fail)
      go_loopw [13, 14] (fun u13 u14 wr => ∃ i : Nat, i ≤ n ∧ u13 = .int .i64 (-1) ∧ u14 = .int .i64 (i : Int) ∧ Hid (∀ j, j < i → u j = false → gt (R j) c = 0) ∧ wr = ws) (fun _ u14 _ => n - (intOf u14).toNat)
      case atStart => exact ⟨0, Nat.zero_le _, rfl, rfl, fun j hj => by omega, rfl⟩
      case round =>
      obtain ⟨i, hin, rfl, rfl, HZ, rfl⟩ := hrel
      obtain ⟨ws, rfl⟩ : ∃ ws : World, ws = wr := ⟨_, rfl⟩
      by_cases hilt : i < n
      · have e1 := hus.cell hilt
        have e2 := hmx.hs.cell hilt
        have e3 := hmx.cell hilt hcm
        cases hu : u i with
        | true =>
          rw [hu] at e1
          have HU := Lib.hid hu
          clear hu
          go_wp2_with (fail)
          go_roundw
          case rel => exact ⟨i + 1, by omega, rfl, by go_num, fun j hj hj2 => (by
            by_cases e : j = i
            · rw [e, HU.out] at hj2; cases hj2
            · exact HZ.out j (by omega) hj2), trivial⟩
          case measure => simp [intOf]; omega
        | false =>
          rw [hu] at e1
          have HU := Lib.hid hu
          clear hu
          by_cases hz : gt (R i) c = 0
          · have HZI := Lib.hid hz
            rw [hz] at e3
            clear hz
            go_wp2_with (fail)
            go_roundw
            case rel => exact ⟨i + 1, by omega, rfl, by go_num, fun j hj hj2 => (by
              by_cases e : j = i
              · rw [e]; exact HZI.out
              · exact HZ.out j (by omega) hj2), trivial⟩
            case measure => simp [intOf]; omega
          · have HZI := Lib.hid hz
            have hzn := (HK.out.1.1 i hilt).1 c
            obtain ⟨zl, hzl⟩ := Int.eq_ofNat_of_zero_le hzn.1
            have hzP : zl < P := by omega
            have hz0 : 0 < zl := by omega
            have hiv := FX.inv_ci P hp hz0 hzP
            have hib := FX.inv_bd zl P h1
            have hinv := fun W => s_l02Inverse zl P W (by omega) (by omega) h1
            generalize invM zl P = v at *
            have hset := hus.set hilt true
            have e4 := hus.fz i
            have hmxs := hmx.far (p := ⟨ub, i, none⟩) (fun e => hne1 e) HNE2.out (.bool true)
            have e6 := hmxs.hs.cell hilt
            have e7 := hmxs.cell hilt hcm
            have hbs := hb.setCell (p := ⟨ub, i, none⟩) hub (.bool true)
            have HZL := Lib.hid hzl
            have HIV := Lib.hid hiv
            obtain ⟨Ri, hRi⟩ : ∃ Ri, Ri = R i := ⟨_, rfl⟩
            rw [← hRi] at HZL
            have HK4 : Hid (K1 P f n R ∧ K4 n R u c i 0 ∧ R i = Ri) := ⟨HK.out.1, ⟨HK.out.2, HU.out, HZI.out, fun j hj => by omega⟩, hRi.symm⟩
            have hzb : ((zl : Int) == 0) = false := by rw [beq_eq_false_iff_ne]; omega
            rw [hzl] at e3 e7
            have hPz : ((P : Int) == 0) = false := by rw [beq_eq_false_iff_ne]; omega
            clear hz hzl hiv hus hmx hb hzn HK HZI HZ hRi
            go_wp2_with (go_at_call 73; refine (hinv _).mono ?_; clear hinv; rintro e w5 ⟨rfl, q5, rfl⟩)
            have hset2 := hset.drewN q5
            have hmxs2 := hmxs.drewN q5
            have hbs2 := below_drewN hbs q5
            clear hset hmxs hbs e1 e2 e3 e4 e6 e7
            go_loopw [16] (fun u16 wr => ∃ (i2 : Nat) (R2 : Nat → List Int), i2 ≤ n ∧ u16 = .int .i64 (i2 : Int) ∧ Hid (K1 P f n R2 ∧ K4 n R2 u c i i2 ∧ R2 i = Ri) ∧ MX wr w.heap.size hd b R2 n m ∧ US wr ub (upd u i true) n ∧ Below w.heap.size w wr) (fun u16 _ => n - (intOf u16).toNat)
            case atStart => exact ⟨0, R, Nat.zero_le _, rfl, HK4, hmxs2, hset2, hbs2⟩
            case round =>
            clear HK4 hmxs2 hset2 hbs2
            obtain ⟨wx, rfl⟩ : ∃ wx : World, wx = wr := ⟨_, rfl⟩
            obtain ⟨i2, R2, hi2, rfl, HK4, hmx, hus, hb⟩ := hrel
            by_cases hl2 : i2 < n
            · have e2 := hmx.hs.cell hl2
              have e3 := hmx.cell hl2 hcm
              by_cases hsk : i2 = i
              · subst hsk
                have HS' : Hid (K1 P f n R2 ∧ K4 n R2 u c i2 (i2 + 1) ∧ R2 i2 = Ri) := ⟨HK4.out.1, HK4.out.2.1.skip (.inl rfl), HK4.out.2.2⟩
                have heq : ((i2 : Int) == (i2 : Int)) = true := by simp
                go_wp2_with (fail)
                go_roundw
                case rel => exact ⟨i2 + 1, R2, by omega, by go_num, HS', hmx, hus, hb⟩
                case measure => simp [intOf]; omega
              · have hneb : ((i2 : Int) == (i : Int)) = false := by rw [beq_eq_false_iff_ne]; omega
                by_cases hz2 : gt (R2 i2) c = 0
                · have HS' : Hid (K1 P f n R2 ∧ K4 n R2 u c i (i2 + 1) ∧ R2 i = Ri) := ⟨HK4.out.1, HK4.out.2.1.skip (.inr hz2), HK4.out.2.2⟩
                  rw [hz2] at e3
                  clear hz2
                  go_wp2_with (fail)
                  go_roundw
                  case rel => exact ⟨i2 + 1, R2, by omega, by go_num, HS', hmx, hus, hb⟩
                  case measure => simp [intOf]; omega
                · have hzb2 : (gt (R2 i2) c == 0) = false := by rw [beq_eq_false_iff_ne]; exact hz2
                  have hxb := (HK4.out.1.1 i2 hl2).1 c
                  obtain ⟨x, hx⟩ : ∃ x, x = gt (R2 i2) c := ⟨_, rfl⟩
                  rw [← hx] at e3 hzb2 hxb
                  obtain ⟨qq, hqq⟩ : ∃ qq, qq = x * v % (P : Int) := ⟨_, rfl⟩
                  have hxv := sub_bd hP hxb hxb hib
                  have htm : (x * v).tmod (P : Int) = qq := by rw [hqq, Int.tmod_eq_emod_of_nonneg hxv.1]
                  have hqb : 0 ≤ qq ∧ qq < (P : Int) := by rw [hqq]; exact mod_bd P _
                  have hel : (gt (R2 i2) c - qq * gt (R2 i) c) % (P : Int) = 0 := by
                    rw [HK4.out.2.2, HZL.out, ← hx]
                    exact elim_zero P HIV.out hqq
                  have HNX : Hid (K1 P f n (upd R2 i2 (subM (P : Int) qq (R2 i) (R2 i2) 0 m)) ∧ K4 n (upd R2 i2 (subM (P : Int) qq (R2 i) (R2 i2) 0 m)) u c i (i2 + 1) ∧ upd R2 i2 (subM (P : Int) qq (R2 i) (R2 i2) 0 m) i = Ri) := by
                    rw [HM.out]
                    refine ⟨HK4.out.1.op P hp hl2 hilt hsk qq, HK4.out.2.1.op P hlt (fun j hj => ⟨(HK4.out.1.1 j hj).1, (HK4.out.1.1 j hj).2.1⟩) hl2 hilt hsk hel, ?_⟩
                    rw [upd_ne _ _ (fun e => hsk e.symm)]
                    exact HK4.out.2.2
                  have hsl := (HK4.out.1.1 i2 hl2).2.1
                  rw [← HM.out] at hsl
                  have HBD2 := Lib.hid (HK4.out.1.1 i2 hl2).1
                  have HBDi := Lib.hid (HK4.out.1.1 i hilt).1
                  have hm0 : MX wx w.heap.size hd b (upd R2 i2 (subM (P : Int) qq (R2 i) (R2 i2) 0 0)) n m := by
                    show MX wx w.heap.size hd b (upd R2 i2 (R2 i2)) n m
                    rw [upd_self]; exact hmx
                  have HSL := Lib.hid hsl
                  have HSK := Lib.hid hsk
                  clear hel hqq hx hz2 hsl hsk
                  go_wp2_with (fail)
                  go_loopw [18] (fun u18 wr => ∃ t : Nat, t ≤ m ∧ u18 = .int .i64 (t : Int) ∧ MX wr w.heap.size hd b (upd R2 i2 (subM (P : Int) qq (R2 i) (R2 i2) 0 t)) n m ∧ US wr ub (upd u i true) n ∧ Below w.heap.size w wr) (fun u18 _ => m - (intOf u18).toNat)
                  case atStart => exact ⟨0, Nat.zero_le _, rfl, hm0, hus, hb⟩
                  case round =>
                  clear hm0 hmx hus hb e2 e3
                  obtain ⟨wt, rfl⟩ : ∃ wt : World, wt = wr := ⟨_, rfl⟩
                  obtain ⟨t, ht, rfl, hmx, hus, hb⟩ := hrel
                  by_cases htm2 : t < m
                  · have e1 := hmx.hs.cell hl2
                    have e2 := hmx.hs.cell hilt
                    have e3 := hmx.cell hl2 htm2
                    have e4 := hmx.fz hl2 t
                    have e5 := hmx.cell hilt htm2
                    rw [upd_same] at e3
                    rw [upd_ne _ _ (fun e => HSK.out e.symm)] at e5
                    have hgt := subM_gt (P : Int) qq (R2 i) (R2 i2) 0 t t (by rw [HSL.out]; omega)
                    rw [if_neg (by omega)] at hgt
                    have hyb := HBD2.out t
                    rw [← hgt] at hyb
                    have hzb3 := HBDi.out t
                    have hcz := sub_bd hP hyb hqb hzb3
                    have hset := (hmx.drewN 1).set hl2 htm2 ((gt (subM (P : Int) qq (R2 i) (R2 i2) 0 t) t - qq * gt (R2 i) t) % (P : Int))
                    rw [upd_same, upd_upd, ← subM_succ0] at hset
                    have HSET := Lib.hid hset
                    have hmw := fun W => hmd (gt (subM (P : Int) qq (R2 i) (R2 i2) 0 t) t - qq * gt (R2 i) t) W (by omega) (by omega)
                    have hbi := (hmx.row i2 hl2).1
                    have hus2 := (hus.drewN 1).far (p := ⟨b i2, t, none⟩) (fun e => HNE2.out i2 hl2 e.symm) (.int .i64 ((gt (subM (P : Int) qq (R2 i) (R2 i2) 0 t) t - qq * gt (R2 i) t) % (P : Int)))
                    have hb2 := (below_drewN hb 1).setCell (p := ⟨b i2, t, none⟩) hbi (.int .i64 ((gt (subM (P : Int) qq (R2 i) (R2 i2) 0 t) t - qq * gt (R2 i) t) % (P : Int)))
                    clear hset hgt hmx hus hb
                    generalize gt (subM (P : Int) qq (R2 i) (R2 i2) 0 t) t = y2 at *
                    generalize gt (R2 i) t = z at *
                    have hw3 : IntKind.i64.wrap (qq * z) = qq * z := IntWalk.i64_in _ (by omega)
                    have hw4 : IntKind.i64.wrap (y2 - qq * z) = y2 - qq * z := IntWalk.i64_in _ (by omega)
                    generalize hxx : (y2 - qq * z) % (P : Int) = xx at *
                    clear hxx
                    go_wp2_with (fail)
                    go_still_tail 25, (by kernel_rfl)
                    still_call (hmw wt.drew)
                    repeat still_step
                    refine wpStill_nil ?_
                    change wpList _ _ _ _ _ wt.drew
                    go_wp2_with (fail)
                    go_roundw
                    case rel => exact ⟨t + 1, by omega, by go_num, HSET.out, hus2, hb2⟩
                    case measure => simp [intOf]; omega
                  · obtain rfl : m = t := by omega
                    go_wp2_with (fail)
                    go_roundw
                    case rel => exact ⟨i2 + 1, _, by omega, by go_num, HNX, hmx, hus, hb⟩
                    case measure => simp [intOf]; omega
            · obtain rfl : i2 = n := by omega
              have hK : Hid (K1 P f i2 R2 ∧ K3 i2 R2 (upd u i true) (c + 1)) := ⟨HK4.out.1, HK4.out.2.1.done hilt⟩
              go_wp2_with (fail)
              go_roundw
              case rel => exact ⟨c + 1, R2, _, by omega, by go_num, hK, hmx, hus, hb⟩
              case measure => simp [intOf]; omega
      · obtain rfl : i = n := by omega
        have hK : Hid (K1 P f i R ∧ K3 i R u (c + 1)) := ⟨HK.out.1, HK.out.2.none HZ.out⟩
        go_wp2_with (fail)
        go_roundw
        case rel => exact ⟨c + 1, R, u, by omega, by go_num, hK, hmx, hus, hb⟩
        case measure => simp [intOf]; omega
    · obtain rfl : n = c := by omega
      have HT : Hid (∀ j, j < 0 → u j = false → (trimL ((R j).drop n)).length ≤ 1) := fun j hj => by omega
      go_wp2_with (fail)
      go_loopw [19] (fun u19 wr => ∃ i : Nat, i ≤ n ∧ u19 = .int .i64 (i : Int) ∧ Hid (∀ j, j < i → u j = false → (trimL ((R j).drop n)).length ≤ 1) ∧ MX wr w.heap.size hd b R n m ∧ US wr ub u n ∧ Below w.heap.size w wr) (fun u19 _ => n - (intOf u19).toNat)
      case atStart => exact ⟨0, Nat.zero_le _, rfl, HT, hmx, hus, hb⟩
      case round =>
      clear HT hmx hus hb
      obtain ⟨wx, rfl⟩ : ∃ wx : World, wx = wr := ⟨_, rfl⟩
      obtain ⟨i, hi2, rfl, HT, hmx, hus, hb⟩ := hrel
      by_cases hilt : i < n
      · have e1 := hmx.hs.cell hilt
        have hmnd : n ≤ m := by omega
        have hmm := HM.out
        have htr := s_trimAt (b i) n (m - n) (m - n) ((R i).drop n) wx (by rw [List.length_drop, (hmx.row i hilt).2.2.2]) (by omega) (Nat.le_refl _) (hmx.row i hilt).2.2.1.ca
        have hv : Hid (FX.Can P (trimL ((R i).drop n)) ∧ (trimL ((R i).drop n)).length ≤ n ∧ (u i = false → FX.Dv (FX.toP P f) (FX.Phi P (FX.toP P (trimL ((R i).drop n)))))) := by
          obtain ⟨k1, k2, k3⟩ := HK.out.1.1 i hilt
          refine ⟨can_trim P fun k => by rw [gt_drop]; exact k1 _, ?_, fun hu => (kv_of P HK.out.1 HK.out.2 hilt hu).2.2⟩
          have := trimL_le ((R i).drop n)
          rw [List.length_drop] at this; omega
        have HTI : Hid ((u i = false → (trimL ((R i).drop n)).length ≤ 1) → ∀ j, j < i + 1 → u j = false → (trimL ((R j).drop n)).length ≤ 1) := fun h j hj hu => by
          by_cases e : j = i
          · subst e; exact h hu
          · exact HT.out j (by omega) hu
        clear hmm
        generalize trimL ((R i).drop n) = v at *
        have hcap : m - n ≤ m := by omega
        obtain ⟨vl, hvl⟩ : ∃ vl, vl = v.length := ⟨_, rfl⟩
        cases hu : u i with
        | true =>
          have HTJ := Lib.hid (HTI.out (fun h => by rw [hu] at h; cases h))
          go_wp2_with (go_at_call 37; refine htr.mono ?_; clear htr; rintro e w9 ⟨A9, c9, rfl, ho9, hb9⟩; have e5 := (hus.call hb9).cell hilt; rw [hu] at e5)
          go_roundw
          case rel => exact ⟨i + 1, by omega, by go_num, HTJ, hmx.call hb9, hus.call hb9, bel_call hb hb9⟩
          case measure => simp [intOf]; omega
        | false =>
          by_cases hv1 : 1 < vl
          · have hq : KVQ P f n v := .inr ⟨hv.out.1, by omega, hv.out.2.1, hv.out.2.2 hu⟩
            have HQ := Lib.hid hq
            have HVL := Lib.hid hvl
            clear hq hvl
            go_wp2_with (go_at_call 37; refine htr.mono ?_; clear htr; rintro e w9 ⟨A9, c9, rfl, ho9, hb9⟩; have e5 := (hus.call hb9).cell hilt; rw [hu] at e5; rw [← HVL.out] at ho9 ⊢)
            go_ret
            exact ⟨v, A9, c9, HQ.out, by rw [HVL.out]; rfl, by have h := OA.of ho9 HVL.out; exact h, bel_call hb hb9⟩
          · have HTJ := Lib.hid (HTI.out (fun _ => by omega))
            have hv2 : vl ≤ 1 := by omega
            have HVL := Lib.hid hvl
            clear hvl hv1
            go_wp2_with (go_at_call 37; refine htr.mono ?_; clear htr; rintro e w9 ⟨A9, c9, rfl, ho9, hb9⟩; have e5 := (hus.call hb9).cell hilt; rw [hu] at e5; rw [← HVL.out] at ho9 ⊢)
            go_roundw
            case rel => exact ⟨i + 1, by omega, by go_num, HTJ, hmx.call hb9, hus.call hb9, bel_call hb hb9⟩
            case measure => simp [intOf]; omega
      · obtain rfl : n = i := by omega
        have hkn := kn_of P hp HDG.out HK.out.1 HK.out.2 HT.out
        have HKN := Lib.hid hkn
        clear hkn
        go_wp2_with (fail)
        go_ret
        exact ⟨[], none, 0, .inl ⟨rfl, HKN.out⟩, rfl, World.ownsRow_nil _ _ _ _, hb⟩
end Go.Proofs.Ytifaccppbhbfhaa
