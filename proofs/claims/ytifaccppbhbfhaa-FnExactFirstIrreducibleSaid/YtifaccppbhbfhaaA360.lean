/- Contract: the program's nullspace. -/
import Derived.Test.YtifaccppbhbfhaaA359
import Derived.Deep.RegionLaw
import Derived.RegionTactic
import Derived.BigRegion
namespace Go.Proofs.Ytifaccppbhbfhaa
set_option linter.unusedVariables false
set_option linter.unusedSimpArgs false
open Go.RowKit

theorem MX.bk {w : World} {base hb n m : Nat} {b : Nat → Nat} {R : Nat → List Int} (h : MX w base hb b R n m) {i : Nat} (hi : i < n) : ∃ cs, BK w (b i) 2 cs := by
  obtain ⟨cs, h1, _⟩ := (h.row i hi).2.2.1
  exact ⟨cs, h1⟩
theorem MX.keep {w w' : World} {base hb n m : Nat} {b : Nat → Nat} {R : Nat → List Int} {row : Option Nat} (h : MX w base hb b R n m) (hg : w.grownBy w' row) (h1 : row ≠ some hb) (h2 : ∀ i, i < n → row ≠ some (b i)) : MX w' base hb b R n m := by
  refine ⟨?_, fun i hi => ?_, h.inj⟩
  · obtain ⟨cs, h3, h4⟩ := h.hs
    exact ⟨cs, h3.keep hg h1, h4⟩
  · obtain ⟨r1, r2, ⟨cs, h3, h4⟩, r4⟩ := h.row i hi
    exact ⟨r1, r2, ⟨cs, h3.keep hg (h2 i hi), h4⟩, r4⟩
theorem MX.keep_own {w w' : World} {base base' hb n m k size : Nat} {b : Nat → Nat} {R : Nat → List Int} {e : TypeId} {v : Value} {xs : List Value} (h : MX w base hb b R n m) (ho : w.ownsRow base' e size v k xs) (hg : w.grownBy w' v.ownBlock) (h1 : e ≠ 22) (h2 : e ≠ 2) : MX w' base hb b R n m := by
  refine h.keep hg ?_ (fun i hi => ?_)
  · obtain ⟨cs, h3, _⟩ := h.hs
    exact own_block_ne ho h3 h1
  · obtain ⟨cs, h3⟩ := h.bk hi
    exact own_block_ne ho h3 h2
theorem own_keep_own {w w' : World} {b1 b2 n1 n2 s1 s2 : Nat} {e1 e2 : TypeId} {v1 v2 : Value} {x1 x2 : List Value} (h : w.ownsRow b1 e1 s1 v1 n1 x1) (ho : w.ownsRow b2 e2 s2 v2 n2 x2) (hg : w.grownBy w' v2.ownBlock) (hne : e1 ≠ e2) : w'.ownsRow b1 e1 s1 v1 n1 x1 := own_keep h hg (by
  cases hx : v2.ownBlock with
  | none =>
    by_cases e : v1.ownBlock = none
    · exact .inr e
    · exact .inl e
  | some g =>
    refine .inl ?_
    rcases ho.2 with ⟨h1, _⟩ | ⟨g', cap, cur, h1, _, hh, _⟩
    · rw [h1] at hx; cases hx
    · rw [h1] at hx
      injection hx with hx
      have hx' : g' = g := hx
      subst hx'
      exact own_block_ne h hh hne)
theorem OS.one (w : World) {n col : Nat} (h : col < n) : OS (w.alloc (.cells ((madeCells #[Value.int .i64 0] n).setIfInBounds col (.int .i64 1)) 2)) w.heap.size ((List.replicate n 0).set col 1) := by
  refine ⟨_, BK.new _ _ _, by simp [madeCells], fun k hk => ?_⟩
  simp at hk
  rw [Array.getElem?_setIfInBounds, gt_setI k (by simp; exact h), gt_rep]
  by_cases e : col = k
  · subst e; rw [if_pos rfl, if_pos rfl, if_pos (by simp [madeCells]; exact h)]
  · rw [if_neg e, if_neg e]; simp [madeCells, hk, Nat.mod_one]
theorem mulM_succ (P s : Int) (r : List Int) (k : Nat) : mulM P s r (k + 1) = (mulM P s r k).set k (gt (mulM P s r k) k * s % P) := rfl
set_option maxRecDepth 20000 in
set_option maxHeartbeats 8000000 in
theorem i_nullspace (P : Nat) [NeZero P] (hP : P ≤ 97) (hp : FX.Prm P) (B hd n : Nat) (b : Nat → Nat) (R0 : Nat → List Int) (w : World) (h0 : 0 < n) (hl : n ≤ 8) (hBw : B ≤ w.heap.size) (hBd : B ≤ hd) (hmx : MX w B hd b R0 n n) (hbd : ∀ i, i < n → Bd P (R0 i)) :
    Calls Try.prog 92 #[.int .i64 (P : Int), .slice (some ⟨hd, 0, none⟩) n n] w (fun e w' => ∃ (bl : List (List Int)) (A : Option Addr) (c : Nat), BS P n R0 bl ∧ e = .returned (.slice A bl.length c) ∧ OLL w' w.heap.size A c bl ∧ Below B w w') := by
  have hp2 : 2 ≤ P := hp.1
  have h1 : 0 < P := by omega
  obtain ⟨i0, hi, hz0, hz1, hz2⟩ := info_parts infoI64
  obtain ⟨i1, hi1, hy0, hy1, hy2⟩ := info_parts infoSl
  obtain ⟨i2, hi2, hx0, hx1, hx2⟩ := info_parts infoIntF
  have hmk := fun W => run_make_row' (P := Try.prog) 22 2 (.int .i64 0) 8 Try.underlying22 infoI64 rfl .i64 .i64 n (by omega) (by omega) W
  have hmd := fun x W => i_modS x P W h1 hP
  have hPz : ((P : Int) == 0) = false := by rw [beq_eq_false_iff_ne]; omega
  have hPz0 : ¬ P = 0 := by omega
  have HNI := Lib.hid (NI.start P (n := n) (R := R0) fun i hi => ⟨hbd i hi, (hmx.row i hi).2.2.2⟩)
  have HB0 : Below B w w := Below.refl _ _
  have HPV : w.ownsRow B 3 1 (.slice none 0 0) 0 (pints (fun _ => 0) 0) := World.ownsRow_nil _ _ _ _
  have hdl := hmx.hs.lt
  clear hbd
  go_enter Try.func92, Try.ntmps92
  go_wp2_with (fail)
  go_loopw [6, 23] (fun u6 u23 wr => ∃ (a c cp : Nat) (Ap : Option Addr) (pv b : Nat → Nat) (R : Nat → List Int), c ≤ n ∧ u23 = .int .i64 (c : Int) ∧ u6 = .slice Ap a cp ∧ Hid (NI P n R0 R pv a c) ∧ MX wr B hd b R n n ∧ wr.ownsRow B 3 1 (.slice Ap a cp) a (pints pv a) ∧ Below B w wr) (fun _ u23 _ => n - (intOf u23).toNat)
  case atStart => exact ⟨0, 0, 0, none, _, b, R0, Nat.zero_le _, rfl, rfl, HNI, hmx, HPV, HB0⟩
  case round =>
  clear HNI hmx HPV HB0
  obtain ⟨ws, rfl⟩ : ∃ ws : World, ws = wr := ⟨_, rfl⟩
  obtain ⟨a, c, cp, Ap, pv, b, R, hc, rfl, rfl, HNI, hmx, hpv, hb⟩ := hrel
  have han := HNI.out.le
  by_cases hlt : c < n
  · go_wp2_with (fail)
    go_loopw [9] (fun u9 wr => ∃ k : Nat, a ≤ k ∧ k ≤ n ∧ u9 = .int .i64 (k : Int) ∧ Hid (∀ j, a ≤ j → j < k → gt (R j) c = 0) ∧ wr = ws) (fun u9 _ => n - (intOf u9).toNat)
    case atStart => exact ⟨a, Nat.le_refl _, han, rfl, fun j h1 h2 => by omega, rfl⟩
    case round =>
    obtain ⟨k, hak, hkn, rfl, HZ, rfl⟩ := hrel
    obtain ⟨ws, rfl⟩ : ∃ ws : World, ws = wr := ⟨_, rfl⟩
    by_cases hkl : k < n
    · have e1 := hmx.hs.cell hkl
      have e2 := hmx.cell hkl hlt
      by_cases hz : gt (R k) c = 0
      · have HZK := Lib.hid hz
        rw [hz] at e2
        clear hz
        go_wp2_with (fail)
        go_roundw
        case rel => exact ⟨k + 1, by omega, by omega, by go_num, fun j h3 h4 => (by
          by_cases e : j = k
          · rw [e]; exact HZK.out
          · exact HZ.out j h3 (by omega)), trivial⟩
        case measure => simp [intOf]; omega
      · have hzb : (gt (R k) c == 0) = false := by rw [beq_eq_false_iff_ne]; exact hz
        have hkn2 : ((k : Int) == (n : Int)) = false := by rw [beq_eq_false_iff_ne]; omega
        have hal : a < n := by omega
        have e3 := hmx.hs.cell hal
        have f1 := hmx.hs.fz a
        have f2 := hmx.hs.fz k
        have hm1 := (hmx.drewN 1).swap hal hkl
        have e5 := (hmx.hs.set hal (b k)).cell hkl
        obtain ⟨hcs, hbk, _⟩ := hmx.hs
        have hpv1 := own_below hpv (below_drewN (Below.refl _ _) 1)
        have hp1 := own_far (own_far hpv1 (p := ⟨hd, a, none⟩) (hbk.drewN 1) (by decide) (.slice (some ⟨b k, 0, none⟩) n n)) (p := ⟨hd, k, none⟩) ((hbk.drewN 1).set a (.slice (some ⟨b k, 0, none⟩) n n)) (by decide) (.slice (some ⟨b a, 0, none⟩) n n)
        have hb1 := ((below_drewN hb 1).setCell (p := ⟨hd, a, none⟩) hBd (.slice (some ⟨b k, 0, none⟩) n n)).setCell (p := ⟨hd, k, none⟩) hBd (.slice (some ⟨b a, 0, none⟩) n n)
        have HNS := Lib.hid (HNI.out.swap P hak hkl)
        have hsa : swp R a k a = R k := if_pos rfl
        have hxb := (HNI.out.bd k hkl).1 c
        obtain ⟨zl, hzl⟩ := Int.eq_ofNat_of_zero_le hxb.1
        have hzP : zl < P := by omega
        have hz0 : 0 < zl := by omega
        have hiv := FX.inv_ci P hp hz0 hzP
        have hib := FX.inv_bd zl P h1
        have hinv := fun W => i_inverseBy P zl W hP h1 hzP
        generalize invM zl P = v at *
        have HNJ := Lib.hid (HNS.out.scale P hp hal hlt (v := v) (by rw [hsa, hzl]; exact hiv))
        have HBD := Lib.hid (HNS.out.bd a hal)
        rw [hzl] at e2 hzb
        have hra : gt (swp R a k a) c = (zl : Int) := by rw [hsa]; exact hzl
        have HRA := Lib.hid hra
        obtain ⟨wq, hwq⟩ : ∃ wq : World, wq = ((ws.setCell ⟨hd, a, none⟩ (.slice (some ⟨b k, 0, none⟩) n n)).setCell ⟨hd, k, none⟩ (.slice (some ⟨b a, 0, none⟩) n n)).drew := ⟨_, rfl⟩
        have HMQ : Hid (MX wq B hd (swp b a k) (swp R a k) n n) := by rw [hwq]; exact hm1
        have HPQ : Hid (wq.ownsRow B 3 1 (.slice Ap a cp) a (pints pv a)) := by rw [hwq]; exact hp1
        have HBQ : Hid (Below B w wq) := by rw [hwq]; exact hb1
        have HWQ := Lib.hid hwq
        clear hm1 hp1 hbk hpv1 hb1 hsa hra hwq hz hiv hmx hpv hb HZ HNI hzl hxb
        go_wp2_with (fail)
        go_region
        rw [← HWQ.out]
        clear HWQ e1 e2 e3 f1 f2 e5 HNS
        generalize swp R a k = R2 at *
        generalize swp b a k = b2 at *
        have hmq := HMQ.out
        have hpv := HPQ.out
        have hb := HBQ.out
        have e1 := hmq.hs.cell hal
        have e2 := hmq.cell hal hlt
        rw [HRA.out] at e2
        have hm0 : ∀ w5 : World, MX w5 B hd b2 R2 n n → MX w5 B hd b2 (upd R2 a (mulM (P : Int) v (R2 a) 0)) n n := fun w5 h => by
          show MX w5 B hd b2 (upd R2 a (R2 a)) n n
          rw [upd_self]; exact h
        clear HMQ HPQ HBQ
        go_wp2_with (go_at_call 75; refine (hinv _).mono ?_; clear hinv; rintro e w5 ⟨rfl, hb5⟩)
        have hm5 := hm0 w5 (hmq.call hb5)
        have hpv5 := own_below hpv hb5
        have hbb5 : Below B w w5 := hb.trans (hb5.mono (Nat.le_trans hBw hb.size))
        clear hm0 hmq hpv hb hb5 e1 e2
        go_loopw [71] (fun u71 wr => ∃ t : Nat, t ≤ n ∧ u71 = .int .i64 (t : Int) ∧ MX wr B hd b2 (upd R2 a (mulM (P : Int) v (R2 a) t)) n n ∧ wr.ownsRow B 3 1 (.slice Ap a cp) a (pints pv a) ∧ Below B w wr) (fun u71 _ => n - (intOf u71).toNat)
        case atStart => exact ⟨0, Nat.zero_le _, rfl, hm5, hpv5, hbb5⟩
        case round =>
        clear hm5 hpv5 hbb5
        obtain ⟨wt, rfl⟩ : ∃ wt : World, wt = wr := ⟨_, rfl⟩
        obtain ⟨t, ht, rfl, hmx, hpv, hb⟩ := hrel
        by_cases htn : t < n
        · have e1 := hmx.hs.cell hal
          have e3 := hmx.cell hal htn
          have e4 := hmx.fz hal t
          rw [upd_same] at e3
          have hgt := mulM_gt (P : Int) v (R2 a) t t (by rw [HBD.out.2]; omega)
          rw [if_neg (by omega)] at hgt
          have hyb := HBD.out.1 t
          rw [← hgt] at hyb
          have hyv := sub_bd hP hyb hyb hib
          have hset := (hmx.drewN 1).set hal htn (gt (mulM (P : Int) v (R2 a) t) t * v % (P : Int))
          rw [upd_same, upd_upd, ← mulM_succ] at hset
          have HSET := Lib.hid hset
          obtain ⟨cs, hbk⟩ := hmx.bk hal
          have hpv2 := own_far (own_below hpv (below_drewN (Below.refl _ _) 1)) (p := ⟨b2 a, t, none⟩) (hbk.drewN 1) (by decide) (.int .i64 (gt (mulM (P : Int) v (R2 a) t) t * v % (P : Int)))
          have hb2 := (below_drewN hb 1).setCell (p := ⟨b2 a, t, none⟩) (hmx.row a hal).1 (.int .i64 (gt (mulM (P : Int) v (R2 a) t) t * v % (P : Int)))
          clear hset hgt hmx hpv hb hbk
          generalize gt (mulM (P : Int) v (R2 a) t) t = y at *
          have htm : (y * v).tmod (P : Int) = y * v % (P : Int) := Int.tmod_eq_emod_of_nonneg hyv.1
          have hw3 : IntKind.i64.wrap (y * v) = y * v := IntWalk.i64_in _ (by omega)
          generalize hxx : y * v % (P : Int) = xx at *
          clear hxx
          go_wp2_with (fail)
          go_still_tail 17, (by kernel_rfl)
          change wpList _ _ _ _ _ wt.drew
          go_wp2_with (fail)
          go_roundw
          case rel => exact ⟨t + 1, by omega, by go_num, HSET.out, hpv2, hb2⟩
          case measure => simp [intOf]; omega
        · obtain rfl : t = n := by omega
          generalize upd R2 a (mulM (P : Int) v (R2 a) t) = R3 at *
          clear HRA HBD
          go_wp2_with (fail)
          go_loopw [93] (fun u93 wr => ∃ (i : Nat) (R4 : Nat → List Int), i ≤ t ∧ u93 = .int .i64 (i : Int) ∧ Hid (NJ P t R0 R4 pv a c i) ∧ MX wr B hd b2 R4 t t ∧ wr.ownsRow B 3 1 (.slice Ap a cp) a (pints pv a) ∧ Below B w wr) (fun u93 _ => t - (intOf u93).toNat)
          case atStart => exact ⟨0, R3, Nat.zero_le _, rfl, HNJ, hmx, hpv, hb⟩
          case round =>
          clear HNJ hmx hpv hb
          obtain ⟨wx, rfl⟩ : ∃ wx : World, wx = wr := ⟨_, rfl⟩
          obtain ⟨i, R4, hin, rfl, HNJ, hmx, hpv, hb⟩ := hrel
          by_cases hil : i < t
          · have e1 := hmx.hs.cell hil
            have e2 := hmx.cell hil hlt
            by_cases hia : i = a
            · subst hia
              have HS' := Lib.hid (HNJ.out.skip P (.inl rfl))
              have heq : ((i : Int) == (i : Int)) = true := by simp
              go_wp2_with (fail)
              go_roundw
              case rel => exact ⟨i + 1, R4, by omega, by go_num, HS', hmx, hpv, hb⟩
              case measure => simp [intOf]; omega
            · have hneb : ((i : Int) == (a : Int)) = false := by rw [beq_eq_false_iff_ne]; omega
              by_cases hz2 : gt (R4 i) c = 0
              · have HS' := Lib.hid (HNJ.out.skip P (.inr hz2))
                rw [hz2] at e2
                clear hz2
                go_wp2_with (fail)
                go_roundw
                case rel => exact ⟨i + 1, R4, by omega, by go_num, HS', hmx, hpv, hb⟩
                case measure => simp [intOf]; omega
              · have hzb2 : (gt (R4 i) c != 0) = true := by rw [bne_iff_ne]; exact hz2
                have hnb : ((i : Int) != (a : Int)) = true := by rw [bne_iff_ne]; omega
                have hnb2 : ¬ (i : Int) = (a : Int) := by omega
                have hzq : ¬ gt (R4 i) c = 0 := hz2
                have hqb := (HNJ.out.1.bd i hil).1 c
                have HNX := Lib.hid (HNJ.out.op P hil hlt hia)
                have hsl := (HNJ.out.1.bd i hil).2
                have HBD2 := Lib.hid (HNJ.out.1.bd i hil).1
                have HBDi := Lib.hid (HNJ.out.1.bd a hal).1
                obtain ⟨qq, hqq⟩ : ∃ qq, qq = gt (R4 i) c := ⟨_, rfl⟩
                rw [← hqq] at e2 hzb2 hqb HNX hzq
                have hm0 : MX wx B hd b2 (upd R4 i (subM (P : Int) qq (R4 a) (R4 i) 0 0)) t t := by
                  show MX wx B hd b2 (upd R4 i (R4 i)) t t
                  rw [upd_self]; exact hmx
                have HSL := Lib.hid hsl
                have HSK := Lib.hid hia
                clear hz2 hsl hia hqq
                go_wp2_with (fail)
                go_loopw [111] (fun u111 wr => ∃ s : Nat, s ≤ t ∧ u111 = .int .i64 (s : Int) ∧ MX wr B hd b2 (upd R4 i (subM (P : Int) qq (R4 a) (R4 i) 0 s)) t t ∧ wr.ownsRow B 3 1 (.slice Ap a cp) a (pints pv a) ∧ Below B w wr) (fun u111 _ => t - (intOf u111).toNat)
                case atStart => exact ⟨0, Nat.zero_le _, rfl, hm0, hpv, hb⟩
                case round =>
                clear hm0 hmx hpv hb e1 e2
                obtain ⟨wt, rfl⟩ : ∃ wt : World, wt = wr := ⟨_, rfl⟩
                obtain ⟨s, hs, rfl, hmx, hpv, hb⟩ := hrel
                by_cases hst : s < t
                · have e1 := hmx.hs.cell hil
                  have e2 := hmx.hs.cell hal
                  have e3 := hmx.cell hil hst
                  have e4 := hmx.fz hil s
                  have e5 := hmx.cell hal hst
                  rw [upd_same] at e3
                  rw [upd_ne _ _ (fun e => HSK.out e.symm)] at e5
                  have hgt := subM_gt (P : Int) qq (R4 a) (R4 i) 0 s s (by rw [HSL.out]; omega)
                  rw [if_neg (by omega)] at hgt
                  have hyb := HBD2.out s
                  rw [← hgt] at hyb
                  have hzb3 := HBDi.out s
                  have hcz := sub_bd hP hyb hqb hzb3
                  have hset := (hmx.drewN 1).set hil hst ((gt (subM (P : Int) qq (R4 a) (R4 i) 0 s) s - qq * gt (R4 a) s) % (P : Int))
                  rw [upd_same, upd_upd, ← subM_succ0] at hset
                  have HSET := Lib.hid hset
                  have hmw := fun W => hmd (gt (subM (P : Int) qq (R4 a) (R4 i) 0 s) s - qq * gt (R4 a) s) W (by omega) (by omega)
                  obtain ⟨cs, hbk⟩ := hmx.bk hil
                  have hpv2 := own_far (own_below hpv (below_drewN (Below.refl _ _) 1)) (p := ⟨b2 i, s, none⟩) (hbk.drewN 1) (by decide) (.int .i64 ((gt (subM (P : Int) qq (R4 a) (R4 i) 0 s) s - qq * gt (R4 a) s) % (P : Int)))
                  have hb2 := (below_drewN hb 1).setCell (p := ⟨b2 i, s, none⟩) (hmx.row i hil).1 (.int .i64 ((gt (subM (P : Int) qq (R4 a) (R4 i) 0 s) s - qq * gt (R4 a) s) % (P : Int)))
                  clear hset hgt hmx hpv hb hbk
                  generalize gt (subM (P : Int) qq (R4 a) (R4 i) 0 s) s = y2 at *
                  generalize gt (R4 a) s = z at *
                  have hw3 : IntKind.i64.wrap (qq * z) = qq * z := IntWalk.i64_in _ (by omega)
                  have hw4 : IntKind.i64.wrap (y2 - qq * z) = y2 - qq * z := IntWalk.i64_in _ (by omega)
                  generalize hxx : (y2 - qq * z) % (P : Int) = xx at *
                  clear hxx
                  go_wp2_with (fail)
                  go_still_tail 25, (by kernel_rfl)
                  still_call (hmw wt.drew)
                  repeat still_step
                  refine wpStill_nil ?_
                  change wpList _ _ _ _ _ wt.drew
                  go_wp2_with (fail)
                  go_roundw
                  case rel => exact ⟨s + 1, by omega, by go_num, HSET.out, hpv2, hb2⟩
                  case measure => simp [intOf]; omega
                · obtain rfl : t = s := by omega
                  go_wp2_with (fail)
                  go_roundw
                  case rel => exact ⟨i + 1, _, by omega, by go_num, HNX, hmx, hpv, hb⟩
                  case measure => simp [intOf]; omega
          · obtain rfl : i = t := by omega
            have HND := Lib.hid (HNJ.out.done P)
            have HPV := Lib.hid hpv
            have HMX := Lib.hid hmx
            have HB := Lib.hid hb
            have hBx : B ≤ wx.heap.size := Nat.le_trans hBw hb.size
            have hai : a ≤ 8 := by omega
            clear HNJ hpv hmx hb
            go_wp2_with (at_builtin; go_loud (refine wpList_append_src rfl (.tmp 141) (.tmp 143) 92 rfl B 3 i2 (.int .i64 0) 1 8 Try.underlying92 hi2 hx0 hx1 hx2 rfl (by omega) (.slice Ap a cp) a (pints pv a) rfl (World.ownsRow.alloc HPV.out _) (some ⟨wx.heap.size, 0, none⟩) 1 1 [.int .i64 (c : Int)] rfl rfl (one_src wx (.int .i64 (c : Int)) 3) (by intro h; cases h) (by intro u hu; simp at hu; subst hu; rfl) (by simp only [maxLen]; omega) (by omega) (by simp; omega) ?_; intro v7 w7 o7 g9 ha; obtain ⟨A7, c9, rfl, _⟩ := own_slice' o7))
            have hba := (Below.refl wx.heap.size wx).alloc (Nat.le_refl _) (.cells #[.int .i64 (c : Int)] 3)
            have hm7 := (HMX.out.call hba).keep_own (own_below HPV.out hba) g9 (by decide) (by decide)
            have hb7 := (HB.out.trans (hba.mono hBx)).grown g9 (by simp; omega) (fun g' hg' => (HPV.out.lt g' hg').1)
            rw [← pints_upd] at o7
            have HO7 := Lib.hid o7
            clear g9 ha o7 hba
            go_roundw
            case rel => exact ⟨a + 1, c + 1, c9, A7, upd pv a c, b2, R4, by omega, by go_num, rfl, HND, hm7, HO7.out, hb7⟩
            case measure => simp [intOf]; omega
    · obtain rfl : k = n := by omega
      have hK := Lib.hid (HNI.out.none P (fun i h2 h3 => HZ.out i h2 h3))
      go_wp2_with (fail)
      go_roundw
      case rel => exact ⟨a, c + 1, cp, Ap, pv, b, R, by omega, by go_num, rfl, hK, hmx, hpv, hb⟩
      case measure => simp [intOf]; omega
  · obtain rfl : n = c := by omega
    have HBI : Hid (BI P n R pv a 0 []) := ⟨fun v hv => by simp at hv, fun col hc => by omega⟩
    have HOL : Hid (OLL ws w.heap.size none 0 []) := OLL.nil ws _
    have hpvl := fun i hi => HNI.out.pvl i hi
    go_wp2_with (fail)
    go_loopw [15, 147] (fun u15 u147 wr => ∃ (col cb L : Nat) (Ab : Option Addr) (bl : List (List Int)), col ≤ n ∧ L ≤ col ∧ Hid (L = bl.length) ∧ u147 = .int .i64 (col : Int) ∧ u15 = .slice Ab L cb ∧ Hid (BI P n R pv a col bl) ∧ Hid (OLL wr w.heap.size Ab cb bl) ∧ MX wr B hd b R n n ∧ wr.ownsRow B 3 1 (.slice Ap a cp) a (pints pv a) ∧ Below B w wr) (fun _ u147 _ => n - (intOf u147).toNat)
    case atStart => exact ⟨0, 0, 0, none, [], Nat.zero_le _, Nat.le_refl _, rfl, rfl, rfl, HBI, HOL, hmx, hpv, hb⟩
    case round =>
    clear HBI HOL hmx hpv hb
    obtain ⟨wo, rfl⟩ : ∃ wo : World, wo = wr := ⟨_, rfl⟩
    obtain ⟨col, cb, L, Ab, bl, hcol, hLc, HL, rfl, rfl, HBI, HOL, hmx, hpv, hb⟩ := hrel
    by_cases hcl : col < n
    · have hct := i_containsI Ap a cp col pv wo (by omega) (by omega) (own_mono hpv (Nat.zero_le _))
      by_cases hex : ∃ i, i < a ∧ pv i = col
      · have HB2 : Hid (BI P n R pv a (col + 1) bl) := ⟨HBI.out.1, fun col' h3 h4 => HBI.out.2 col' (by
          by_cases e : col' = col
          · obtain ⟨i, hi, e2⟩ := hex
            exact absurd (e2.trans e.symm) (h4 i hi)
          · omega) h4⟩
        go_wp2_with (go_at_call 109; refine hct.mono ?_; clear hct; rintro e w5 ⟨r, rfl, hr, rfl⟩; obtain rfl : r = true := hr.2 hex; clear hr)
        go_roundw
        case rel => exact ⟨col + 1, cb, L, Ab, bl, by omega, by omega, HL, by go_num, rfl, HB2, HOL, hmx, hpv, hb⟩
        case measure => simp [intOf]; omega
      · have hfr : Free pv a col := fun i hi e => hex ⟨i, hi, e⟩
        have HFR := Lib.hid hfr
        have HEX := Lib.hid hex
        have hbv := BV.start P R pv hcl
        have HBV := Lib.hid hbv
        have hset := OS.one wo hcl
        have hmc : (madeCells #[Value.int .i64 0] n)[col]? = some (Value.int .i64 0) := by simp [madeCells, hcl, Nat.mod_one]
        have hba := (Below.refl wo.heap.size wo).alloc (Nat.le_refl _) (.cells ((madeCells #[Value.int .i64 0] n).setIfInBounds col (.int .i64 1)) 2)
        obtain ⟨g, hg⟩ : ∃ g, g = wo.heap.size := ⟨_, rfl⟩
        clear hex hfr hbv
        go_wp2_with (go_at_call 109; refine hct.mono ?_; clear hct; rintro e w5 ⟨r, rfl, hr, rfl⟩; obtain rfl : r = false := (by cases r; rfl; exact absurd (hr.1 rfl) HEX.out); clear hr)
        obtain ⟨wo, rfl⟩ : ∃ wo : World, wo = w5 := ⟨_, rfl⟩
        rw [← hg] at hset ⊢
        have HG := Lib.hid hg
        clear hg
        go_loopw [160] (fun u160 wr => ∃ (t : Nat) (v : List Int), t ≤ a ∧ u160 = .int .i64 (t : Int) ∧ Hid (BV P n R pv col t v) ∧ OS wr g v ∧ Below wo.heap.size wo wr) (fun u160 _ => a - (intOf u160).toNat)
        case atStart => exact ⟨0, _, Nat.zero_le _, rfl, HBV, hset, hba⟩
        case round =>
        clear HBV hset hba
        obtain ⟨wt, rfl⟩ : ∃ wt : World, wt = wr := ⟨_, rfl⟩
        obtain ⟨t, v, hta, rfl, HBV, hos, hb3⟩ := hrel
        have hm3 := hmx.call hb3
        have hp3 := own_below hpv hb3
        by_cases htl : t < a
        · have htn : t < n := by omega
          obtain ⟨gp, rfl, _, e1⟩ := own_cell hp3 (pints_at pv a t htl) (by omega)
          have e2 := hm3.hs.cell htn
          have e3 := hm3.cell htn hcl
          have hpl := hpvl t htl
          have e4 := hos.cell (j := pv t) (by rw [HBV.out.1]; exact hpl)
          have e5 := hos.fz (pv t)
          have hxb := (HNI.out.bd t htn).1 col
          have hset := hos.set ((- gt (R t) col) % (P : Int)) (r := pv t) (by rw [HBV.out.1]; exact hpl)
          have HSTEP := Lib.hid (HBV.out.step P HNI.out htl HFR.out hpl)
          have hmw := fun W => hmd (- gt (R t) col) W (by omega) (by omega)
          have hb4 := hb3.setCell (p := ⟨g, pv t, none⟩) (by have := HG.out; simp; omega) (.int .i64 ((- gt (R t) col) % (P : Int)))
          clear hm3 hp3 hos
          generalize (v.set (pv t) ((- gt (R t) col) % (P : Int))) = v2 at *
          generalize (- gt (R t) col) % (P : Int) = xx at *
          generalize gt (R t) col = x at *
          generalize gt v (pv t) = y at *
          generalize pv t = pt at *
          go_wp2_with (go_at_call 42; refine (hmw _).mono ?_; clear hmw; rintro e w5 ⟨rfl, rfl⟩)
          go_roundw
          case rel => exact ⟨t + 1, v2, by omega, by go_num, HSTEP, hset, hb4⟩
          case measure => simp [intOf]; omega
        · obtain rfl : t = a := by omega
          have htr := i_trim g n n v wt HBV.out.1.symm (by omega) (Nat.le_refl _) hos.cs
          have HB2 : Hid (BI P n R pv t (col + 1) (bl ++ [trimL v])) := ⟨fun v1 hv1 => by
            rw [List.mem_append, List.mem_singleton] at hv1
            rcases hv1 with h3 | rfl
            · exact HBI.out.1 v1 h3
            · exact ⟨col, v, hcl, HFR.out, rfl, HBV.out⟩, fun col' h3 h4 => by
            by_cases e : col' = col
            · subst e
              exact ⟨trimL v, v, by simp, rfl, HBV.out⟩
            · obtain ⟨v1, v2, h5, h6⟩ := HBI.out.2 col' (by omega) h4
              exact ⟨v1, v2, by simp [h5], h6⟩⟩
          generalize trimL v = tv at *
          have hBo : B ≤ wo.heap.size := Nat.le_trans hBw hb.size
          have hwo := Nat.le_trans hb.size hb3.size
          have hol3 := HOL.out.call hb3
          have HM3 := Lib.hid hm3
          have HP3 := Lib.hid hp3
          clear hm3 hp3 hos HOL hmx hpv
          go_wp2_with (first
            | (go_at_call 43; refine htr.mono ?_; clear htr; rintro e w9 ⟨A9, c9, rfl, ho9, hb9⟩; obtain ⟨vs, hov, hrr⟩ := hol3.call hb9; rw [← HL.out] at hov; have hba := (Below.refl w9.heap.size w9).alloc (Nat.le_refl _) (.cells #[.slice A9 tv.length c9] 22); have hw9 : w.heap.size ≤ w9.heap.size := Nat.le_trans hwo hb9.size)
            | (at_builtin; go_loud (refine wpList_append_src rfl (.tmp 179) (.tmp 182) 50 rfl w.heap.size 22 i1 (.slice none 0 0) 1 24 Try.underlying50 hi1 hy0 hy1 hy2 rfl (by omega) (.slice Ab L cb) L vs rfl (own_below hov hba) (some ⟨w9.heap.size, 0, none⟩) 1 1 [.slice A9 tv.length c9] rfl rfl (one_src w9 (.slice A9 tv.length c9) 22) (by intro h; cases h) (by intro u hu; simp at hu; subst hu; rfl) (by simp only [maxLen]; omega) (by omega) (by simp; omega) ?_; intro v7 w7 o7 g9 ha; obtain ⟨A7, c7, rfl, _⟩ := own_slice' o7)))
          have hpush : OLL w7 w.heap.size A7 c7 (bl ++ [tv]) := OLL.push (by rw [← HL.out]; exact own_below hov hba) (hrr.call hba) ((OA.of ho9 rfl).call hba) (by rw [← HL.out]; exact o7) (by rw [← HL.out]; exact g9)
          have HPU := Lib.hid hpush
          have hm7 := ((HM3.out.call hb9).call hba).keep g9 (fun e => by have := (hov.lt _ e).1; omega) (fun i hi => by
            obtain ⟨cs, h3⟩ := ((HM3.out.call hb9).call hba).bk hi
            exact own_block_ne (own_below hov hba) h3 (by decide))
          have hp7 := own_keep_own (own_below (own_below HP3.out hb9) hba) (own_below hov hba) g9 (by decide)
          have hb9B : Below B w w9 := (hb.trans (hb3.mono hBo)).trans (hb9.mono (Nat.le_trans hBo hb3.size))
          have hb7 := (hb9B.trans (hba.mono (Nat.le_trans hBw hw9))).grown g9 (by simp; omega) (fun g' hg' => Nat.le_trans hBw (hov.lt g' hg').1)
          have HL2 : Hid (L + 1 = (bl ++ [tv]).length) := by unfold Hid; rw [List.length_append, ← HL.out]; rfl
          clear g9 ha o7 hba hb9 hov hrr ho9 hol3 hpush
          go_roundw
          case rel => exact ⟨col + 1, c7, L + 1, A7, bl ++ [tv], by omega, by omega, HL2, by go_num, rfl, HB2, HPU, hm7, hp7, hb7⟩
          case measure => simp [intOf]; omega
    · obtain rfl : n = col := by omega
      have HBS := Lib.hid (HBI.out.bs P hp HNI.out)
      go_wp2_with (fail)
      go_ret
      exact ⟨bl, Ab, cb, HBS.out, by rw [HL.out]; rfl, HOL.out, hb⟩
end Go.Proofs.Ytifaccppbhbfhaa
