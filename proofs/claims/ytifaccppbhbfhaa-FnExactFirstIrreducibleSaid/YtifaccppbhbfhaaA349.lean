/- Contracts: division by p, both sides. -/
import Derived.Test.YtifaccppbhbfhaaA348
import Derived.OneCell
namespace Go.Proofs.Ytifaccppbhbfhaa
set_option linter.unusedVariables false
set_option linter.unusedSimpArgs false
open Go.RowKit

theorem s_trim0 (w : World) : Calls Try.prog 37 #[.slice none 0 0] w (RV [] w) := by
  have hcl := fun W : World => s_ownO none 0 [] W (by simp) (World.ownsRow_nil _ _ _ _)
  go_enter Try.func37, Try.ntmps37
  go_wp2_with (fail)
  go_loopw [3] (fun u3 wr => u3 = .int .i64 0 ∧ wr = w) (fun _ _ => 0)
  case atStart => exact ⟨rfl, rfl⟩
  case round =>
    obtain ⟨rfl, rfl⟩ := hrel
    go_wp2_with (go_at_call 58; refine (hcl _).mono ?_; rintro e w9 hR; obtain ⟨A9, c9, rfl, ho9, hb9⟩ := hR)
    go_ret
    exact ⟨A9, c9, rfl, ho9, hb9⟩
theorem i_trimO (A : Option Addr) (n c : Nat) (l : List Int) (w : World) (hn : n = l.length) (hl : n ≤ 1000) (hA : w.ownsRow 0 2 1 (.slice A n c) n (ints l)) :
    Calls Try.prog 43 #[.slice A n c] w (RV (trimL l) w) := by
  rcases hA.2 with ⟨h1, h2⟩ | ⟨g, cap, cur, hv, hb, hh, hle, hmx, hsz, htk⟩
  · injection h1 with e0 e1 e2
    subst e0; subst e1; subst e2
    obtain rfl : l = [] := List.eq_nil_of_length_eq_zero hn.symm
    exact i_trim0 w
  · cases hv
    refine i_trim g n c l w hn hl hle ⟨BK.lt hh, fun j hj => ?_⟩
    obtain ⟨g', e, _, _, h3⟩ := own_os hA hn (by omega)
    injection e with e; injection e with e; subst e
    exact h3.cell hj
theorem s_trimO (A : Option Addr) (n c : Nat) (l : List Int) (w : World) (hn : n = l.length) (hl : n ≤ 1000) (hA : w.ownsRow 0 2 1 (.slice A n c) n (ints l)) :
    Calls Try.prog 37 #[.slice A n c] w (RV (trimL l) w) := by
  rcases hA.2 with ⟨h1, h2⟩ | ⟨g, cap, cur, hv, hb, hh, hle, hmx, hsz, htk⟩
  · injection h1 with e0 e1 e2
    subst e0; subst e1; subst e2
    obtain rfl : l = [] := List.eq_nil_of_length_eq_zero hn.symm
    exact s_trim0 w
  · cases hv
    refine s_trim g n c l w hn hl hle ⟨BK.lt hh, fun j hj => ?_⟩
    obtain ⟨g', e, _, _, h3⟩ := own_os hA hn (by omega)
    injection e with e; injection e with e; subst e
    exact h3.cell hj
theorem i_modS (x : Int) (P : Nat) (w : World) (h0 : 0 < P) (hP : P ≤ 97) (h1 : -20000 ≤ x) (h2 : x ≤ 20000) : Calls Try.prog 42 #[.int .i64 x, .int .i64 (P : Int)] w (fun e w' => e = .returned (.int .i64 (x % (P : Int))) ∧ w' = w) := by
  have hm : ((x.tmod (P : Int)) + (P : Int)).tmod (P : Int) = x % (P : Int) := by
    have hb := Int.tmod_lt_of_pos x (b := (P : Int)) (by omega)
    have hb2 := Int.lt_tmod_of_pos x (b := (P : Int)) (by omega)
    rw [Int.tmod_eq_emod_of_nonneg (by omega), Int.add_emod_right]
    have := Int.tmod_add_tdiv_mul x (P : Int)
    rw [show x.tmod (P : Int) = x + (P : Int) * (-(x.tdiv (P : Int))) by rw [Int.mul_neg, Int.mul_comm]; omega, Int.add_mul_emod_self_left]
  have hz : ((P : Int) == 0) = false := by rw [beq_eq_false_iff_ne]; omega
  have hb := Int.tmod_lt_of_pos x (b := (P : Int)) (by omega)
  have hb2 := Int.lt_tmod_of_pos x (b := (P : Int)) (by omega)
  generalize x % (P : Int) = r at *
  go_enter Try.func42, Try.ntmps42
  go_wp2_with (fail)
  go_ret
  exact ⟨rfl, rfl⟩
theorem s_modS (x : Int) (P : Nat) (w : World) (h0 : 0 < P) (hP : P ≤ 97) (h1 : -20000 ≤ x) (h2 : x ≤ 20000) : Calls Try.prog 36 #[.int .i64 x, .int .i64 (P : Int)] w (fun e w' => e = .returned (.int .i64 (x % (P : Int))) ∧ w' = w) := by
  have hm : ((x.tmod (P : Int)) + (P : Int)).tmod (P : Int) = x % (P : Int) := by
    have hb := Int.tmod_lt_of_pos x (b := (P : Int)) (by omega)
    have hb2 := Int.lt_tmod_of_pos x (b := (P : Int)) (by omega)
    rw [Int.tmod_eq_emod_of_nonneg (by omega), Int.add_emod_right]
    have := Int.tmod_add_tdiv_mul x (P : Int)
    rw [show x.tmod (P : Int) = x + (P : Int) * (-(x.tdiv (P : Int))) by rw [Int.mul_neg, Int.mul_comm]; omega, Int.add_mul_emod_self_left]
  have hz : ((P : Int) == 0) = false := by rw [beq_eq_false_iff_ne]; omega
  have hb := Int.tmod_lt_of_pos x (b := (P : Int)) (by omega)
  have hb2 := Int.lt_tmod_of_pos x (b := (P : Int)) (by omega)
  generalize x % (P : Int) = r at *
  go_enter Try.func36, Try.ntmps36
  go_wp2_with (fail)
  go_ret
  exact ⟨rfl, rfl⟩
/-- What a division answers: two slices of the call's own. -/
def DVR (P : Nat) [NeZero P] (f g : List Int) (w : World) (e : Ending) (w' : World) : Prop :=
  ∃ (q r : List Int) (A A' : Option Addr) (c c' : Nat), DVQ P f g q r ∧ e = .returned (.tuple #[.slice A q.length c, .slice A' r.length c']) ∧ w'.ownsRow w.heap.size 2 1 (.slice A q.length c) q.length (ints q) ∧ w'.ownsRow w.heap.size 2 1 (.slice A' r.length c') r.length (ints r) ∧ Below w.heap.size w w'
theorem ints_set (l : List Int) (k : Nat) (x : Int) : (ints l).set k (.int .i64 x) = ints (l.set k x) := by simp [ints, List.map_set]
theorem sub_bd {P : Nat} {y c z : Int} (hP : P ≤ 97) (hy : 0 ≤ y ∧ y < (P : Int)) (hc : 0 ≤ c ∧ c < (P : Int)) (hz : 0 ≤ z ∧ z < (P : Int)) : 0 ≤ c * z ∧ c * z ≤ 9409 := by
  refine ⟨Int.mul_nonneg hc.1 hz.1, ?_⟩
  have := Int.mul_le_mul (a := c) (b := z) (c := 97) (d := 97) (by omega) (by omega) hz.1 (by omega)
  omega
set_option maxRecDepth 10000 in
set_option maxHeartbeats 2000000 in
theorem i_divide (P : Nat) [NeZero P] (hP : P ≤ 97) (hp : FX.Prm P) (A A' : Option Addr) (n c n' c' : Nat) (f g : List Int) (w : World) (hn : n = f.length) (hn' : n' = g.length) (h0' : 0 < n') (hl : n ≤ 100) (hl' : n' ≤ 100) (hf : FX.Can P f) (hg : FX.Can P g) (hs : w.ownsRow 0 2 1 (.slice A n c) n (ints f)) (hs' : IS w w.heap.size A' g) :
    Calls Try.prog 50 #[.int .i64 (P : Int), .slice A n c, .slice A' n' c'] w (DVR P f g w) := by
  have h1 : 0 < P := Nat.pos_of_ne_zero (NeZero.ne P)
  obtain ⟨d, hd⟩ : ∃ d, n' = d + 1 := ⟨n' - 1, by omega⟩
  obtain ⟨M, hM⟩ : ∃ M, M = n + 1 - n' := ⟨_, rfl⟩
  have hmk := fun W => run_make_row' (P := Try.prog) 22 2 (.int .i64 0) 8 Try.underlying22 infoI64 rfl .i64 .i64 M (by omega) (by omega) W
  have hcl := i_cloneO A c f w (by omega) (by rw [OA, ← hn]; exact hs)
  rw [← hn] at hcl
  have hst := dvi_start P (g := g) hf
  rw [← hn, ← hn', ← hM] at hst
  obtain ⟨zl, hzl⟩ := Int.eq_ofNat_of_zero_le (hg.1 d).1
  have hzP : zl < P := by have := (hg.1 d).2; omega
  have hz0 : 0 < zl := by
    have := hg.2 (by omega)
    rw [← hn', hd, Nat.add_sub_cancel, hzl] at this
    omega
  have hiv := FX.inv_ci P hp hz0 hzP
  have hib := FX.inv_bd zl P h1
  have hcall := fun W => i_inverseBy P zl W hP h1 hzP
  generalize invM zl P = v at *
  have hstep := fun qs rs i c (a : DVI P f g qs rs (i + 1)) b b' e => dvi_step (v := v) (c := c) P a (by omega) b b' (by rw [← hn', hd, Nat.add_sub_cancel, hzl]; exact hiv) e
  rw [← hn', hd, Nat.add_sub_cancel] at hstep
  have hend := fun qs rs (a : DVI P f g qs rs 0) (b : qs.length = M) => dvi_end P a (by omega) (by rw [b, hM, hn, hn'])
  have hmd := fun x W => i_modS x P W h1 hP
  have hg' : g.length - 1 = d := by omega
  have HG' := Lib.hid hg'
  have HD := Lib.hid hd
  have HN := Lib.hid hn
  have HN' := Lib.hid hn'
  have HST := Lib.hid hst
  have HSTEP := Lib.hid hstep
  have HEND := Lib.hid hend
  have HG := Lib.hid hg
  obtain ⟨gb, go, rfl, hgb, hgc⟩ := hs'.at (k := d) (by omega)
  have hz := hgc d (by omega)
  rw [hzl] at hz
  have HZ := Lib.hid hzl
  have HGC := Lib.hid hgc
  have HM := Lib.hid hM
  have hnd : (n' : Int) - 1 = (d : Int) := by omega
  have hdn : d < n' := by omega
  have hns := fun W => NS.zero W M 0 (Nat.zero_le _)
  by_cases hx : n' ≤ n
  · have hx1 : (n : Int) - (n' : Int) + 1 = (M : Int) := by omega
    have hx2 : (0 : Int) < (M : Int) := by omega
    have hMd : M + d = n := by omega
    clear hn hn' hf hg hst hstep hend hiv hs hzl hgc hd hM hx hg'
    go_enter Try.func50, Try.ntmps50
    go_wp2_with (first
      | (go_at_call 65; refine hcl.mono ?_; clear hcl; rintro e w1 ⟨A1, c1, rfl, ho1, hb1⟩; rw [← HN.out] at ho1 ⊢; have hbm := hb1.alloc hb1.size (.cells (madeCells #[.int .i64 0] M) 2); have hz1 := (hbm.cell (p := ⟨gb, go + d, none⟩) hgb).trans hz)
      | (go_at_call 75; refine (hcall _).mono ?_; rintro e w2 ⟨rfl, hb2⟩))
    have hbn := bel_call hbm hb2
    have hns2 := (hns w1).os.call hb2
    have ho2 := own_below (World.ownsRow.alloc ho1 (.cells (madeCells #[.int .i64 0] M) 2)) hb2
    have hgA : (Value.slice A1 n c1).ownBlock ≠ some w1.heap.size := fun e => by
      have := ho1.lt _ e; omega
    have hgB : w.heap.size ≤ w1.heap.size := hb1.size
    clear hbm hb2 hb1 hz1 ho1 hcall hns hz hmk
    generalize w1.heap.size = gq at *
    go_loopw [11] (fun u wr => ∃ (k : Nat) (qs rs : List Int), k ≤ M ∧ u = .int .i64 ((k : Int) - 1) ∧ qs.length = M ∧ rs.length = n ∧ DVI P f g qs rs k ∧ OS wr gq qs ∧ wr.ownsRow w.heap.size 2 1 (.slice A1 n c1) n (ints rs) ∧ Below w.heap.size w wr) (fun u _ => (intOf u + 1).toNat)
    case atStart => exact ⟨M, List.replicate M 0, f, Nat.le_refl _, rfl, by simp, HN.out.symm, HST.out, hns2, ho2, hbn⟩
    case round =>
    clear hns2 ho2 hbn
    obtain ⟨wo, rfl⟩ : ∃ wo : World, wo = wr := ⟨_, rfl⟩
    obtain ⟨k, qs, rs, hk, rfl, hql, hrl, hdv, hq, hr, hb⟩ := hrel
    by_cases hk0 : k = 0
    · subst hk0
      have hdq := HEND.out qs rs hdv hql
      have htq := i_trim gq M M qs wo hql.symm (by omega) (Nat.le_refl _) hq.cs
      have htr := fun W h => i_trimO A1 n c1 rs W hrl.symm (by omega) h
      have HDQ := Lib.hid hdq
      clear hdq hdv hql hrl
      go_wp2_with (first
        | (go_at_call 43; refine htq.mono ?_; clear htq; rintro e w3 ⟨A3, c3, rfl, ho3, hb3⟩; have hr3 := htr w3 (own_mono (own_below hr hb3) (Nat.zero_le _)))
        | (go_at_call 43; refine hr3.mono ?_; rintro e w4 ⟨A4, c4, rfl, ho4, hb4⟩))
      go_ret2
      exact ⟨_, _, A3, A4, c3, c4, HDQ.out, rfl, own_mono (own_below ho3 hb4) hb.size, own_mono ho4 (Nat.le_trans hb.size hb3.size), bel_call (bel_call hb hb3) hb4⟩
    · obtain ⟨i, rfl⟩ : ∃ i, k = i + 1 := ⟨k - 1, by omega⟩
      rw [show (((i + 1 : Nat) : Int) - 1) = (i : Int) by omega]
      obtain ⟨gr, rfl, hgr, _, hro⟩ := own_os hr hrl.symm (by omega)
      have hne : gr ≠ gq := fun e => hgA (by simp [Value.ownBlock, e])
      have e1 := hro.cell (j := i + d) (by omega)
      obtain ⟨y, hy⟩ : ∃ y, y = gt rs (i + d) := ⟨_, rfl⟩
      have hyb := hdv.2.1 (i + d)
      rw [← hy] at e1 hyb
      obtain ⟨cc, hcc⟩ : ∃ cc, cc = y * v % (P : Int) := ⟨_, rfl⟩
      have hyv := sub_bd hP hyb hyb hib
      have htm : (y * v).tmod (P : Int) = cc := by rw [hcc, Int.tmod_eq_emod_of_nonneg hyv.1]
      have hcb : 0 ≤ cc ∧ cc < (P : Int) := by rw [hcc]; exact mod_bd P _
      have hnx := HSTEP.out qs rs i cc hdv (by omega) (by omega) (by rw [hcc, hy])
      have e2 := hq.cell (j := i) (by omega)
      have e3 := hq.fz i
      have hset := hq.set cc (r := i) (by omega)
      have hset2 := ownsRow_setCell_other hr (a := ⟨gq, i, none⟩) (by simp [Value.ownBlock]; exact hne) (.int .i64 cc)
      have hw1 : (i : Int) + (n' : Int) - 1 = ((i + d : Nat) : Int) := by omega
      have hidn : i + d < n := by omega
      have hiM : i < M := by omega
      have hPz : ((P : Int) == 0) = false := by rw [beq_eq_false_iff_ne]; omega
      have HNX := Lib.hid hnx
      have HRB := Lib.hid hdv.2.1
      have HQL := Lib.hid hql
      have HRL := Lib.hid hrl
      have HQG := Lib.hid (show gt (qs.set i cc) i = cc by rw [gt_setI i (by omega), if_pos rfl])
      have HQSL := Lib.hid (show (qs.set i cc).length = M by rw [List.length_set]; exact hql)
      generalize hqs' : qs.set i cc = qs' at *
      clear hnx hdv hql hrl hcc hy hq hqs'
      generalize hid : i + d = id at *
      go_wp2_with (fail)
      go_loopw [56] (fun u wr => ∃ t : Nat, t ≤ n' ∧ u = .int .i64 (t : Int) ∧ OS wr gq qs' ∧ wr.ownsRow w.heap.size 2 1 (.slice (some ⟨gr, 0, none⟩) n c1) n (ints (subM (P : Int) cc g rs i t)) ∧ Below w.heap.size w wr) (fun u _ => n' - (intOf u).toNat)
      case atStart => exact ⟨0, Nat.zero_le _, rfl, hset, hset2, hb.setCell hgB _⟩
      case round =>
      clear hset hset2 hb hr e1 e2 e3 hro
      obtain ⟨wt, rfl⟩ : ∃ wt : World, wt = wr := ⟨_, rfl⟩
      obtain ⟨t, ht, rfl, hq, hr, hb⟩ := hrel
      by_cases htt : t < n'
      · have hsl : (subM (P : Int) cc g rs i t).length = n := by rw [subM_len]; exact HRL.out
        have hit : i + t < n := by omega
        obtain ⟨gr', hge, _, _, hro⟩ := own_os hr hsl.symm (by omega)
        injection hge with hge; injection hge with hge; subst hge
        have e1 := hro.cell (j := i + t) (by omega)
        have e2 := hro.fz (i + t)
        have e3 := hq.cell (j := i) (by rw [HQSL.out]; exact hiM)
        rw [HQG.out] at e3
        have e4 := (hb.cell (p := ⟨gb, go + t, none⟩) hgb).trans (HGC.out t (by rw [← HN'.out]; exact htt))
        have hgt := subM_gt (P : Int) cc g rs i t (i + t) (by rw [HRL.out]; omega)
        rw [if_neg (by omega)] at hgt
        have hyb2 := HRB.out (i + t)
        rw [← hgt] at hyb2
        have hzb := HG.out.1 t
        have hcz := sub_bd hP hyb2 hcb hzb
        have hst := ((own_below hr (below_drewN (Below.refl _ _) 1)).stored (i + t) (.int .i64 ((gt (subM (P : Int) cc g rs i t) (i + t) - cc * gt g t) % (P : Int)))).1
        rw [ints_set] at hst
        have HSET : Hid (((wt.drewN 1).setCell ⟨gr, i + t, none⟩ (.int .i64 ((gt (subM (P : Int) cc g rs i t) (i + t) - cc * gt g t) % (P : Int)))).ownsRow w.heap.size 2 1 (.slice (some ⟨gr, 0, none⟩) n c1) n (ints (subM (P : Int) cc g rs i (t + 1)))) := hst
        have hmw := fun W => hmd (gt (subM (P : Int) cc g rs i t) (i + t) - cc * gt g t) W (by omega) (by omega)
        have hq2 := (hq.drewN 1).far (p := ⟨gr, i + t, none⟩) (fun e => hne e.symm) (.int .i64 ((gt (subM (P : Int) cc g rs i t) (i + t) - cc * gt g t) % (P : Int)))
        clear hst hgt hro hr hmd
        generalize gt (subM (P : Int) cc g rs i t) (i + t) = y2 at *
        generalize gt g t = z at *
        have hw2 : IntKind.i64.wrap ((i : Int) + (t : Int)) = ((i + t : Nat) : Int) := by rw [IntWalk.i64_in _ (by omega)]; omega
        have hw3 : IntKind.i64.wrap (cc * z) = cc * z := IntWalk.i64_in _ (by omega)
        have hw4 : IntKind.i64.wrap (y2 - cc * z) = y2 - cc * z := IntWalk.i64_in _ (by omega)
        generalize hxx : (y2 - cc * z) % (P : Int) = xx at *
        generalize hs0 : i + t = s0 at *
        clear hxx
        go_wp2_with (fail)
        go_still_tail 20, (by kernel_rfl)
        still_call (hmw wt.drew)
        repeat still_step
        refine wpStill_nil ?_
        change wpList _ _ _ _ _ wt.drew
        go_wp2_with (fail)
        go_roundw
        case rel => exact ⟨t + 1, by omega, by go_num, hq2, HSET.out, (below_drewN hb 1).setCell (by omega) _⟩
        case measure => simp [intOf]; omega
      · obtain rfl : n' = t := by omega
        rw [HD.out] at hr
        go_wp2_with (fail)
        go_roundw
        case rel => exact ⟨i, qs', subM (P : Int) cc g rs i (d + 1), by omega, by go_num, HQSL.out, by rw [subM_len]; exact HRL.out, HNX.out, hq, hr, hb⟩
        case measure => simp [intOf] <;> omega
  · have hx1 : (n : Int) - (n' : Int) + 1 ≤ 0 := by omega
    obtain rfl : M = 0 := by omega
    simp only [Int.ofNat_zero, Int.natCast_zero] at hmk
    clear hn hn' hf hg hstep hiv hs hzl hgc hd hM hx hg'
    go_enter Try.func50, Try.ntmps50
    go_wp2_with (first
      | (go_at_call 65; refine hcl.mono ?_; clear hcl; rintro e w1 ⟨A1, c1, rfl, ho1, hb1⟩; rw [← HN.out] at ho1 ⊢; have hbm := hb1.alloc hb1.size (.cells (madeCells #[.int .i64 0] 0) 2); have hz1 := (hbm.cell (p := ⟨gb, go + d, none⟩) hgb).trans hz)
      | (go_at_call 75; refine (hcall _).mono ?_; rintro e w2 ⟨rfl, hb2⟩))
    have hbn := bel_call hbm hb2
    have hns2 := (hns w1).os.call hb2
    have ho2 := own_below (World.ownsRow.alloc ho1 (.cells (madeCells #[.int .i64 0] 0) 2)) hb2
    have hgA : (Value.slice A1 n c1).ownBlock ≠ some w1.heap.size := fun e => by
      have := ho1.lt _ e; omega
    have hgB : w.heap.size ≤ w1.heap.size := hb1.size
    clear hbm hb2 hb1 hz1 ho1 hcall hns hz hmk
    generalize w1.heap.size = gq at *
    go_loopw [11] (fun u wr => u = .int .i64 (-1) ∧ wr = w2) (fun _ _ => 0)
    case atStart => exact ⟨rfl, rfl⟩
    case round =>
      obtain ⟨rfl, rfl⟩ := hrel
      obtain ⟨wo, rfl⟩ : ∃ wo : World, wo = wr := ⟨_, rfl⟩
      obtain ⟨qs, rs, hql, hrl, hdv, hq, hr, hb⟩ : ∃ qs rs : List Int, qs.length = 0 ∧ rs.length = n ∧ DVI P f g qs rs 0 ∧ OS wo gq qs ∧ wo.ownsRow w.heap.size 2 1 (.slice A1 n c1) n (ints rs) ∧ Below w.heap.size w wo := ⟨List.replicate 0 0, f, rfl, HN.out.symm, HST.out, hns2, ho2, hbn⟩
      clear hns2 ho2 hbn
      have hdq := HEND.out qs rs hdv hql
      have htq := i_trim gq 0 0 qs wo hql.symm (by omega) (Nat.le_refl _) hq.cs
      have htr := fun W h => i_trimO A1 n c1 rs W hrl.symm (by omega) h
      have HDQ := Lib.hid hdq
      clear hdq hdv hql hrl
      go_wp2_with (first
        | (go_at_call 43; refine htq.mono ?_; clear htq; rintro e w3 ⟨A3, c3, rfl, ho3, hb3⟩; have hr3 := htr w3 (own_mono (own_below hr hb3) (Nat.zero_le _)))
        | (go_at_call 43; refine hr3.mono ?_; rintro e w4 ⟨A4, c4, rfl, ho4, hb4⟩))
      go_ret2
      exact ⟨_, _, A3, A4, c3, c4, HDQ.out, rfl, own_mono (own_below ho3 hb4) hb.size, own_mono ho4 (Nat.le_trans hb.size hb3.size), bel_call (bel_call hb hb3) hb4⟩
set_option maxRecDepth 10000 in
set_option maxHeartbeats 2000000 in
theorem s_divide (P : Nat) [NeZero P] (hP : P ≤ 97) (hp : FX.Prm P) (A A' : Option Addr) (n c n' c' : Nat) (f g : List Int) (w : World) (hn : n = f.length) (hn' : n' = g.length) (h0' : 0 < n') (hl : n ≤ 100) (hl' : n' ≤ 100) (hf : FX.Can P f) (hg : FX.Can P g) (hs : w.ownsRow 0 2 1 (.slice A n c) n (ints f)) (hs' : IS w w.heap.size A' g) :
    Calls Try.prog 68 #[.int .i64 (P : Int), .slice A n c, .slice A' n' c'] w (DVR P f g w) := by
  have h1 : 0 < P := Nat.pos_of_ne_zero (NeZero.ne P)
  obtain ⟨d, hd⟩ : ∃ d, n' = d + 1 := ⟨n' - 1, by omega⟩
  obtain ⟨M, hM⟩ : ∃ M, M = n + 1 - n' := ⟨_, rfl⟩
  have hmk := fun W => run_make_row' (P := Try.prog) 22 2 (.int .i64 0) 8 Try.underlying22 infoI64 rfl .i64 .i64 M (by omega) (by omega) W
  have hcl := s_ownO A c f w (by omega) (by rw [OA, ← hn]; exact hs)
  rw [← hn] at hcl
  have hst := dvi_start P (g := g) hf
  rw [← hn, ← hn', ← hM] at hst
  obtain ⟨zl, hzl⟩ := Int.eq_ofNat_of_zero_le (hg.1 d).1
  have hzP : zl < P := by have := (hg.1 d).2; omega
  have hz0 : 0 < zl := by
    have := hg.2 (by omega)
    rw [← hn', hd, Nat.add_sub_cancel, hzl] at this
    omega
  have hiv := FX.inv_ci P hp hz0 hzP
  have hib := FX.inv_bd zl P h1
  have hcall := fun W => (s_l02Inverse zl P W (by omega) (by omega) h1).mono fun _ _ h => Q.toM h
  generalize invM zl P = v at *
  have hstep := fun qs rs i c (a : DVI P f g qs rs (i + 1)) b b' e => dvi_step (v := v) (c := c) P a (by omega) b b' (by rw [← hn', hd, Nat.add_sub_cancel, hzl]; exact hiv) e
  rw [← hn', hd, Nat.add_sub_cancel] at hstep
  have hend := fun qs rs (a : DVI P f g qs rs 0) (b : qs.length = M) => dvi_end P a (by omega) (by rw [b, hM, hn, hn'])
  have hmd := fun x W => s_modS x P W h1 hP
  have hg' : g.length - 1 = d := by omega
  have HG' := Lib.hid hg'
  have HD := Lib.hid hd
  have HN := Lib.hid hn
  have HN' := Lib.hid hn'
  have HST := Lib.hid hst
  have HSTEP := Lib.hid hstep
  have HEND := Lib.hid hend
  have HG := Lib.hid hg
  obtain ⟨gb, go, rfl, hgb, hgc⟩ := hs'.at (k := d) (by omega)
  have hz := hgc d (by omega)
  rw [hzl] at hz
  have HZ := Lib.hid hzl
  have HGC := Lib.hid hgc
  have HM := Lib.hid hM
  have hnd : (n' : Int) - 1 = (d : Int) := by omega
  have hdn : d < n' := by omega
  have hns := fun W => NS.zero W M 0 (Nat.zero_le _)
  by_cases hx : n' ≤ n
  · have hx1 : (n : Int) - (n' : Int) + 1 = (M : Int) := by omega
    have hx2 : (0 : Int) < (M : Int) := by omega
    have hMd : M + d = n := by omega
    clear hn hn' hf hg hst hstep hend hiv hs hzl hgc hd hM hx hg'
    go_enter Try.func68, Try.ntmps68
    go_wp2_with (first
      | (go_at_call 58; refine hcl.mono ?_; clear hcl; rintro e w1 ⟨A1, c1, rfl, ho1, hb1⟩; rw [← HN.out] at ho1 ⊢; have hbm := hb1.alloc hb1.size (.cells (madeCells #[.int .i64 0] M) 2); have hz1 := (hbm.cell (p := ⟨gb, go + d, none⟩) hgb).trans hz)
      | (go_at_call 73; refine (hcall _).mono ?_; rintro e w2 ⟨rfl, hb2⟩))
    have hbn := bel_call hbm hb2
    have hns2 := (hns w1).os.call hb2
    have ho2 := own_below (World.ownsRow.alloc ho1 (.cells (madeCells #[.int .i64 0] M) 2)) hb2
    have hgA : (Value.slice A1 n c1).ownBlock ≠ some w1.heap.size := fun e => by
      have := ho1.lt _ e; omega
    have hgB : w.heap.size ≤ w1.heap.size := hb1.size
    clear hbm hb2 hb1 hz1 ho1 hcall hns hz hmk
    generalize w1.heap.size = gq at *
    go_loopw [11] (fun u wr => ∃ (k : Nat) (qs rs : List Int), k ≤ M ∧ u = .int .i64 ((k : Int) - 1) ∧ qs.length = M ∧ rs.length = n ∧ DVI P f g qs rs k ∧ OS wr gq qs ∧ wr.ownsRow w.heap.size 2 1 (.slice A1 n c1) n (ints rs) ∧ Below w.heap.size w wr) (fun u _ => (intOf u + 1).toNat)
    case atStart => exact ⟨M, List.replicate M 0, f, Nat.le_refl _, rfl, by simp, HN.out.symm, HST.out, hns2, ho2, hbn⟩
    case round =>
    clear hns2 ho2 hbn
    obtain ⟨wo, rfl⟩ : ∃ wo : World, wo = wr := ⟨_, rfl⟩
    obtain ⟨k, qs, rs, hk, rfl, hql, hrl, hdv, hq, hr, hb⟩ := hrel
    by_cases hk0 : k = 0
    · subst hk0
      have hdq := HEND.out qs rs hdv hql
      have htq := s_trim gq M M qs wo hql.symm (by omega) (Nat.le_refl _) hq.cs
      have htr := fun W h => s_trimO A1 n c1 rs W hrl.symm (by omega) h
      have HDQ := Lib.hid hdq
      clear hdq hdv hql hrl
      go_wp2_with (first
        | (go_at_call 37; refine htq.mono ?_; clear htq; rintro e w3 ⟨A3, c3, rfl, ho3, hb3⟩; have hr3 := htr w3 (own_mono (own_below hr hb3) (Nat.zero_le _)))
        | (go_at_call 37; refine hr3.mono ?_; rintro e w4 ⟨A4, c4, rfl, ho4, hb4⟩))
      go_ret2
      exact ⟨_, _, A3, A4, c3, c4, HDQ.out, rfl, own_mono (own_below ho3 hb4) hb.size, own_mono ho4 (Nat.le_trans hb.size hb3.size), bel_call (bel_call hb hb3) hb4⟩
    · obtain ⟨i, rfl⟩ : ∃ i, k = i + 1 := ⟨k - 1, by omega⟩
      rw [show (((i + 1 : Nat) : Int) - 1) = (i : Int) by omega]
      obtain ⟨gr, rfl, hgr, _, hro⟩ := own_os hr hrl.symm (by omega)
      have hne : gr ≠ gq := fun e => hgA (by simp [Value.ownBlock, e])
      have e1 := hro.cell (j := i + d) (by omega)
      obtain ⟨y, hy⟩ : ∃ y, y = gt rs (i + d) := ⟨_, rfl⟩
      have hyb := hdv.2.1 (i + d)
      rw [← hy] at e1 hyb
      obtain ⟨cc, hcc⟩ : ∃ cc, cc = y * v % (P : Int) := ⟨_, rfl⟩
      have hyv := sub_bd hP hyb hyb hib
      have htm : (y * v).tmod (P : Int) = cc := by rw [hcc, Int.tmod_eq_emod_of_nonneg hyv.1]
      have hcb : 0 ≤ cc ∧ cc < (P : Int) := by rw [hcc]; exact mod_bd P _
      have hnx := HSTEP.out qs rs i cc hdv (by omega) (by omega) (by rw [hcc, hy])
      have e2 := hq.cell (j := i) (by omega)
      have e3 := hq.fz i
      have hset := hq.set cc (r := i) (by omega)
      have hset2 := ownsRow_setCell_other hr (a := ⟨gq, i, none⟩) (by simp [Value.ownBlock]; exact hne) (.int .i64 cc)
      have hw1 : (i : Int) + (n' : Int) - 1 = ((i + d : Nat) : Int) := by omega
      have hidn : i + d < n := by omega
      have hiM : i < M := by omega
      have hPz : ((P : Int) == 0) = false := by rw [beq_eq_false_iff_ne]; omega
      have HNX := Lib.hid hnx
      have HRB := Lib.hid hdv.2.1
      have HQL := Lib.hid hql
      have HRL := Lib.hid hrl
      have HQG := Lib.hid (show gt (qs.set i cc) i = cc by rw [gt_setI i (by omega), if_pos rfl])
      have HQSL := Lib.hid (show (qs.set i cc).length = M by rw [List.length_set]; exact hql)
      generalize hqs' : qs.set i cc = qs' at *
      clear hnx hdv hql hrl hcc hy hq hqs'
      generalize hid : i + d = id at *
      go_wp2_with (fail)
      go_loopw [13] (fun u wr => ∃ t : Nat, t ≤ n' ∧ u = .int .i64 (t : Int) ∧ OS wr gq qs' ∧ wr.ownsRow w.heap.size 2 1 (.slice (some ⟨gr, 0, none⟩) n c1) n (ints (subM (P : Int) cc g rs i t)) ∧ Below w.heap.size w wr) (fun u _ => n' - (intOf u).toNat)
      case atStart => exact ⟨0, Nat.zero_le _, rfl, hset, hset2, hb.setCell hgB _⟩
      case round =>
      clear hset hset2 hb hr e1 e2 e3 hro
      obtain ⟨wt, rfl⟩ : ∃ wt : World, wt = wr := ⟨_, rfl⟩
      obtain ⟨t, ht, rfl, hq, hr, hb⟩ := hrel
      by_cases htt : t < n'
      · have hsl : (subM (P : Int) cc g rs i t).length = n := by rw [subM_len]; exact HRL.out
        have hit : i + t < n := by omega
        obtain ⟨gr', hge, _, _, hro⟩ := own_os hr hsl.symm (by omega)
        injection hge with hge; injection hge with hge; subst hge
        have e1 := hro.cell (j := i + t) (by omega)
        have e2 := hro.fz (i + t)
        have e3 := hq.cell (j := i) (by rw [HQSL.out]; exact hiM)
        rw [HQG.out] at e3
        have e4 := (hb.cell (p := ⟨gb, go + t, none⟩) hgb).trans (HGC.out t (by rw [← HN'.out]; exact htt))
        have hgt := subM_gt (P : Int) cc g rs i t (i + t) (by rw [HRL.out]; omega)
        rw [if_neg (by omega)] at hgt
        have hyb2 := HRB.out (i + t)
        rw [← hgt] at hyb2
        have hzb := HG.out.1 t
        have hcz := sub_bd hP hyb2 hcb hzb
        have hst := ((own_below hr (below_drewN (Below.refl _ _) 1)).stored (i + t) (.int .i64 ((gt (subM (P : Int) cc g rs i t) (i + t) - cc * gt g t) % (P : Int)))).1
        rw [ints_set] at hst
        have HSET : Hid (((wt.drewN 1).setCell ⟨gr, i + t, none⟩ (.int .i64 ((gt (subM (P : Int) cc g rs i t) (i + t) - cc * gt g t) % (P : Int)))).ownsRow w.heap.size 2 1 (.slice (some ⟨gr, 0, none⟩) n c1) n (ints (subM (P : Int) cc g rs i (t + 1)))) := hst
        have hmw := fun W => hmd (gt (subM (P : Int) cc g rs i t) (i + t) - cc * gt g t) W (by omega) (by omega)
        have hq2 := (hq.drewN 1).far (p := ⟨gr, i + t, none⟩) (fun e => hne e.symm) (.int .i64 ((gt (subM (P : Int) cc g rs i t) (i + t) - cc * gt g t) % (P : Int)))
        clear hst hgt hro hr hmd
        generalize gt (subM (P : Int) cc g rs i t) (i + t) = y2 at *
        generalize gt g t = z at *
        have hw2 : IntKind.i64.wrap ((i : Int) + (t : Int)) = ((i + t : Nat) : Int) := by rw [IntWalk.i64_in _ (by omega)]; omega
        have hw3 : IntKind.i64.wrap (cc * z) = cc * z := IntWalk.i64_in _ (by omega)
        have hw4 : IntKind.i64.wrap (y2 - cc * z) = y2 - cc * z := IntWalk.i64_in _ (by omega)
        generalize hxx : (y2 - cc * z) % (P : Int) = xx at *
        generalize hs0 : i + t = s0 at *
        clear hxx
        go_wp2_with (fail)
        go_still_tail 20, (by kernel_rfl)
        still_call (hmw wt.drew)
        repeat still_step
        refine wpStill_nil ?_
        change wpList _ _ _ _ _ wt.drew
        go_wp2_with (fail)
        go_roundw
        case rel => exact ⟨t + 1, by omega, by go_num, hq2, HSET.out, (below_drewN hb 1).setCell (by omega) _⟩
        case measure => simp [intOf]; omega
      · obtain rfl : n' = t := by omega
        rw [HD.out] at hr
        go_wp2_with (fail)
        go_roundw
        case rel => exact ⟨i, qs', subM (P : Int) cc g rs i (d + 1), by omega, by go_num, HQSL.out, by rw [subM_len]; exact HRL.out, HNX.out, hq, hr, hb⟩
        case measure => simp [intOf] <;> omega
  · have hx1 : (n : Int) - (n' : Int) + 1 ≤ 0 := by omega
    obtain rfl : M = 0 := by omega
    simp only [Int.ofNat_zero, Int.natCast_zero] at hmk
    clear hn hn' hf hg hstep hiv hs hzl hgc hd hM hx hg'
    go_enter Try.func68, Try.ntmps68
    go_wp2_with (first
      | (go_at_call 58; refine hcl.mono ?_; clear hcl; rintro e w1 ⟨A1, c1, rfl, ho1, hb1⟩; rw [← HN.out] at ho1 ⊢; have hbm := hb1.alloc hb1.size (.cells (madeCells #[.int .i64 0] 0) 2); have hz1 := (hbm.cell (p := ⟨gb, go + d, none⟩) hgb).trans hz)
      | (go_at_call 73; refine (hcall _).mono ?_; rintro e w2 ⟨rfl, hb2⟩))
    have hbn := bel_call hbm hb2
    have hns2 := (hns w1).os.call hb2
    have ho2 := own_below (World.ownsRow.alloc ho1 (.cells (madeCells #[.int .i64 0] 0) 2)) hb2
    have hgA : (Value.slice A1 n c1).ownBlock ≠ some w1.heap.size := fun e => by
      have := ho1.lt _ e; omega
    have hgB : w.heap.size ≤ w1.heap.size := hb1.size
    clear hbm hb2 hb1 hz1 ho1 hcall hns hz hmk
    generalize w1.heap.size = gq at *
    go_loopw [11] (fun u wr => u = .int .i64 (-1) ∧ wr = w2) (fun _ _ => 0)
    case atStart => exact ⟨rfl, rfl⟩
    case round =>
      obtain ⟨rfl, rfl⟩ := hrel
      obtain ⟨wo, rfl⟩ : ∃ wo : World, wo = wr := ⟨_, rfl⟩
      obtain ⟨qs, rs, hql, hrl, hdv, hq, hr, hb⟩ : ∃ qs rs : List Int, qs.length = 0 ∧ rs.length = n ∧ DVI P f g qs rs 0 ∧ OS wo gq qs ∧ wo.ownsRow w.heap.size 2 1 (.slice A1 n c1) n (ints rs) ∧ Below w.heap.size w wo := ⟨List.replicate 0 0, f, rfl, HN.out.symm, HST.out, hns2, ho2, hbn⟩
      clear hns2 ho2 hbn
      have hdq := HEND.out qs rs hdv hql
      have htq := s_trim gq 0 0 qs wo hql.symm (by omega) (Nat.le_refl _) hq.cs
      have htr := fun W h => s_trimO A1 n c1 rs W hrl.symm (by omega) h
      have HDQ := Lib.hid hdq
      clear hdq hdv hql hrl
      go_wp2_with (first
        | (go_at_call 37; refine htq.mono ?_; clear htq; rintro e w3 ⟨A3, c3, rfl, ho3, hb3⟩; have hr3 := htr w3 (own_mono (own_below hr hb3) (Nat.zero_le _)))
        | (go_at_call 37; refine hr3.mono ?_; rintro e w4 ⟨A4, c4, rfl, ho4, hb4⟩))
      go_ret2
      exact ⟨_, _, A3, A4, c3, c4, HDQ.out, rfl, own_mono (own_below ho3 hb4) hb.size, own_mono ho4 (Nat.le_trans hb.size hb3.size), bel_call (bel_call hb hb3) hb4⟩
end Go.Proofs.Ytifaccppbhbfhaa
