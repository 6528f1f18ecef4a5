/- Several parts of the proof in one text; each part says what it shows. Nothing is assumed. -/
import Derived.Test.YtkiglhaeiomohaaGreatA134
import Derived.Test.YtkiglhaeiomohaaGreatA137
import Derived.Test.YtkiglhaeiomohaaGreatA138
import Derived.Test.YtkiglhaeiomohaaGreatA88
/- SubgroupNames: the program's side. -/
namespace Go.Proofs.YtkiglhaeiomohaaGreat
set_option linter.unusedVariables false
set_option linter.unusedSimpArgs false
open Go.RowKit

theorem fact_720 {n : Nat} (h : n ≤ 6) : fact n ≤ 720 := (fact_le h).2
set_option maxRecDepth 100000 in
set_option maxHeartbeats 2000000 in
theorem i_subE (k : Nat) (hk : k < 14) (nb : ByteArray) (A A' : Option Addr) (G c L' c' gx : Nat) (p' : Int) (l' : List Int) (w : World) (hG : G = (lbG k).length) (h0 : 0 < (RK (lbP k) (lbG k)).length) (hlR : (RK (lbP k) (lbG k)).length ≤ 1000) (hii : II w w.heap.size A (lbG k)) (hL' : L' = l'.length) (hl' : L' ≤ 1000) (hs' : IS w w.heap.size A' l') (hgx : gx < w.heap.size) (g0 : w.cell? ⟨gx, 0, none⟩ = some (.int .i64 p')) (g1 : w.cell? ⟨gx, 1, none⟩ = some (.slice A' L' c')) :
    Calls Tryz.prog 38 #[.agg #[.string nb, .int .i64 (lbP k : Nat), .slice A G c], .pointer (some ⟨gx, 0, none⟩)] w (M (.bool (sbB (lbP k) (RK (lbP k) (lbG k)) l')) w) := by
  obtain ⟨p1, p2, _, _, _⟩ := lb_in k hk
  have hin := RK_in k hk
  have hgr := fun W h => i_libgroup k hk A G c hG nb W h
  have hcon := fun A c W h => i_conjugatesOf (lbP k) A (RK (lbP k) (lbG k)).length c (RK (lbP k) (lbG k)) W p1 (by omega) rfl h0 hlR hin h
  have hcl := cjA_len (lbP k) (RK (lbP k) (lbG k)) (fact (lbP k))
  have hF := fact_720 (show lbP k ≤ 6 by omega)
  have hll : ∀ j, j < fact (lbP k) → (gl (cjA (lbP k) (RK (lbP k) (lbG k)) (fact (lbP k))) j).length ≤ 1000 := fun j hj => by
    have e : gl (cjA (lbP k) (RK (lbP k) (lbG k)) (fact (lbP k))) j = rkC (cjM (lbP k) (wrL (lbP k) j) (RK (lbP k) (lbG k))) := by
      unfold cjA
      simp [gl, hj]
    rw [e]
    have := (rkC_in p1 (wrL_in hj) hin).2
    omega
  have hsb : sbB (lbP k) (RK (lbP k) (lbG k)) l' = (cjA (lbP k) (RK (lbP k) (lbG k)) (fact (lbP k))).any fun x => partB x l' := rfl
  rw [hsb]
  have hidx := fun A c base vs W ho hr hs' hgx g0 g1 => c_idxSub gx (lbP k) p' A' L' c' l' A (fact (lbP k)) c base vs (cjA (lbP k) (RK (lbP k) (lbG k)) (fact (lbP k))) W hcl.symm (by omega) ho hr hll hL' hl' hs' hgx g0 g1
  have hcont := fun A c base vs W ho hr hs' hgx g0 g1 => c_contSub A (fact (lbP k)) c _ _ W (hidx A c base vs W ho hr hs' hgx g0 g1)
  generalize ((cjA (lbP k) (RK (lbP k) (lbG k)) (fact (lbP k))).any fun x => partB x l') = bb at *
  generalize cjA (lbP k) (RK (lbP k) (lbG k)) (fact (lbP k)) = ll at *
  generalize RK (lbP k) (lbG k) = R at *
  generalize fact (lbP k) = F at *
  generalize lbP k = p at *
  generalize lbG k = gens at *
  generalize hR : R.length = L at *
  have HR := Lib.hid hR.symm
  have hb0 := (Below.refl w.heap.size w).alloc (Nat.le_refl _) (.cells #[.string nb, .int .i64 (p : Int), .slice A G c] 62)
  have hii0 := ((hii.below hb0).more hb0.size)
  obtain ⟨d0, d1, d2⟩ := BK.tri (BK.new w 62 #[.string nb, .int .i64 (p : Int), .slice A G c])
  have gA := fun W (h : Below w.heap.size w W) => (h.cell (p := ⟨gx, 0, none⟩) hgx).trans g0
  have gB := fun W (h : Below w.heap.size w W) => (h.cell (p := ⟨gx, 1, none⟩) hgx).trans g1
  have gS := fun W (h : Below w.heap.size w W) => hs'.call h
  clear hG hii hL' hs' hsb hidx hcl hll hin h0 hR
  go_enter Tryz.func38, Tryz.ntmps38
  go_wp2_with (first
    | (go_at_call 41; refine (hgr _ hii0).mono ?_; rintro e w1 ⟨v, rfl, ho1, hb1⟩; obtain ⟨Ar, cr, rfl, _⟩ := own_slice' ho1; have hbw1 := bel_call hb0 hb1; rw [← HR.out] at ho1 ⊢)
    | (go_at_call 40; refine (hcon Ar cr _ (own_isn ho1 HR.out)).mono ?_; rintro e w2 ⟨A2, c2, vs, rfl, ho2, hr2, hb2⟩; have hbw2 := bel_call hbw1 hb2)
    | (go_at_call 39; refine (hcont A2 c2 _ vs _ ho2 hr2 (gS _ hbw2) (by have := hbw2.size; omega) (gA _ hbw2) (gB _ hbw2)).mono ?_; rintro e w3 ⟨rfl, hb3⟩))
  go_ret
  exact ⟨rfl, bel_call hbw2 hb3⟩
def snK (n : Int) (q : Nat → Bool) (k : Nat) : List Nat := (nmK n k).filter q
theorem snK_yes {n : Int} {q : Nat → Bool} {k : Nat} (h : (lbP k : Int) = n) (hq : q k = true) : snK n q (k + 1) = snK n q k ++ [k] := by
  unfold snK; rw [nmK_yes h, List.filter_append]; simp [hq]
theorem snK_no {n : Int} {q : Nat → Bool} {k : Nat} (h : (lbP k : Int) = n) (hq : q k = false) : snK n q (k + 1) = snK n q k := by
  unfold snK; rw [nmK_yes h, List.filter_append]; simp [hq]
theorem snK_none {n : Int} {q : Nat → Bool} {k : Nat} (h : ¬ (lbP k : Int) = n) : snK n q (k + 1) = snK n q k := by
  unfold snK; rw [nmK_no h]
set_option maxRecDepth 10000 in
set_option maxHeartbeats 2000000 in
theorem i_namesSub (n : Int) (gx : Nat) (q : Nat → Bool) (w : World) (hclo : ∀ k, k < 14 → (lbP k : Int) = n → ∀ nb A G c W, Below w.heap.size w W → G = (lbG k).length → II W W.heap.size A (lbG k) → Calls Tryz.prog 38 #[.agg #[.string nb, .int .i64 (lbP k : Nat), .slice A G c], .pointer (some ⟨gx, 0, none⟩)] W (M (.bool (q k)) W)) :
    Calls Tryz.prog 37 #[.int .i64 n, .func (.func 38) #[] #[.pointer (some ⟨gx, 0, none⟩)]] w (OS (snK n q 14) w) := by
  obtain ⟨i0, hi, hz0, hz1, hz2⟩ := info_parts infoStr
  have HCLO := Lib.hid hclo
  clear hclo
  go_enter Tryz.func37, Tryz.ntmps37
  go_wp2_with (go_at_call 81; refine (i_library _).mono ?_; rintro e w1 ⟨b, rfl, hlib, hb1⟩)
  have hz1' := hb1.size
  go_loopw [5, 10] (fun u3 u5 wr => ∃ k m : Nat, k ≤ 14 ∧ m ≤ k ∧ u5 = .int .i64 k ∧ OwnS wr w1.heap.size u3 m ((snK n q k).map lbN) ∧ Hid (m = (snK n q k).length) ∧ Below w1.heap.size w1 wr) (fun _ u5 _ => 14 - (intOf u5).toNat)
  case atStart => exact ⟨0, 0, Nat.zero_le _, Nat.le_refl _, rfl, ⟨[], World.ownsRow_nil _ _ _ _, rfl⟩, rfl, Below.refl _ _⟩
  case round =>
    obtain ⟨ws, rfl⟩ : ∃ ws : World, ws = wr := ⟨_, rfl⟩
    obtain ⟨k, m, hk, hm, rfl, ⟨bs, hown, hbs⟩, HM, hb⟩ := hrel
    obtain ⟨A1, c1, rfl, _⟩ := own_slice' hown
    have hsz := hb.size
    by_cases hlt : k < 14
    · obtain ⟨nb, A, c, hn, e0, e1, e2, hii⟩ := (hlib.below hb).2 k hlt
      have HBS := Lib.hid hbs
      have HN := Lib.hid hn
      have hclo := HCLO.out k hlt
      clear hbs hn
      generalize hG : (lbG k).length = G at *
      have HG := Lib.hid hG
      have B9 := BK.new ws 62 #[.string nb, .int .i64 ((lbP k : Nat) : Int), .slice A G c]
      have hbA := (Below.refl ws.heap.size ws).alloc (Nat.le_refl _) (.cells #[.string nb, .int .i64 ((lbP k : Nat) : Int), .slice A G c] 62)
      have hbw := bel_call (bel_call hb1 hb) hbA
      have hii2 := (hii.below (hbA.mono hsz)).more (show w1.heap.size ≤ (ws.alloc (.cells #[.string nb, .int .i64 ((lbP k : Nat) : Int), .slice A G c] 62)).heap.size by have := hbA.size; omega)
      by_cases hpn : (lbP k : Int) = n
      · have ht : ((lbP k : Int) == n) = true := by rw [beq_iff_eq]; exact hpn
        have hcl := hclo hpn nb A G c _ hbw rfl hii2
        cases hq : q k
        · have HY := Lib.hid (snK_no hpn hq)
          rw [hq] at hcl
          clear hpn hclo hq hii hG
          generalize lbP k = pk at *
          generalize lbG k = gens at *
          obtain ⟨d0, d1, d2⟩ := B9.tri
          go_wp2_with (first | (go_at_call 38; refine hcl.mono ?_; rintro e w9 ⟨rfl, hb9⟩) | go_in)
          go_roundw
          case rel => exact ⟨k + 1, m, by omega, by omega, by go_num, ⟨bs, own_below (World.ownsRow.alloc hown _) hb9, by rw [HY.out]; exact HBS.out⟩, by unfold Hid; rw [HY.out]; exact HM.out, bel_call (hb.alloc hsz _) hb9⟩
          case measure => simp [intOf]; omega
        · have HY := Lib.hid (snK_yes hpn hq)
          rw [hq] at hcl
          clear hpn hclo hq hii hG
          generalize lbP k = pk at *
          generalize lbG k = gens at *
          obtain ⟨d0, d1, d2⟩ := B9.tri
          have hB9 := fun W (h : Below (ws.alloc (.cells #[.string nb, .int .i64 (pk : Int), .slice A G c] 62)).heap.size (ws.alloc (.cells #[.string nb, .int .i64 (pk : Int), .slice A G c] 62)) W) => (B9.below h (by simp)).tri
          go_wp2_with (first
            | (go_at_call 38; refine hcl.mono ?_; rintro e w9 ⟨rfl, hb9⟩; obtain ⟨k0, k1, k2⟩ := hB9 _ hb9)
            | (at_builtin; refine wpList_append_src rfl (.tmp 23) (.tmp 26) 25 rfl w1.heap.size 9 i0 (.string ⟨#[]⟩) 1 16 Tryz.underlying25 hi hz0 hz1 hz2 rfl (by omega) (.slice A1 m c1) m (strs bs) rfl (World.ownsRow.alloc (own_below (World.ownsRow.alloc hown (.cells #[.string nb, .int .i64 (pk : Int), .slice A G c] 62)) hb9) _) (some ⟨w9.heap.size, 0, none⟩) 1 1 [.string nb] rfl rfl (one_src w9 _ _) (by intro h; cases h) (by intro u hu; simp at hu; subst hu; rfl) (by simp only [maxLen]; omega) (by omega) (by have := hb9.size; simp at this; simp; omega) ?_; intro v5 w5 hown5 hg5 hat5)
            | go_in)
          have hz9 := hb9.size
          simp at hz9
          go_roundw
          case rel =>
            refine ⟨k + 1, m + 1, by omega, by omega, by go_num, ⟨bs ++ [nb], by simpa [strs] using hown5, ?_⟩, ?_, ?_⟩
            · rw [HY.out, List.map_append, List.map_append, HBS.out]; simp [HN.out]
            · unfold Hid; rw [HY.out, List.length_append, HM.out]; rfl
            · exact ((bel_call (hb.alloc hsz _) hb9).alloc (by omega) _).grown hg5 (by simp; omega) (fun g hg => (hown.lt g hg).1)
          case measure => simp [intOf]; omega
      · have ht : ((lbP k : Int) == n) = false := by rw [beq_eq_false_iff_ne]; exact hpn
        have HY := Lib.hid (snK_none (q := q) hpn)
        clear hpn hclo hii hG hii2
        generalize lbP k = pk at *
        obtain ⟨d0, d1, d2⟩ := B9.tri
        go_wp2_with (go_in)
        go_roundw
        case rel => exact ⟨k + 1, m, by omega, by omega, by go_num, ⟨bs, World.ownsRow.alloc hown _, by rw [HY.out]; exact HBS.out⟩, by unfold Hid; rw [HY.out]; exact HM.out, hb.alloc hsz _⟩
        case measure => simp [intOf]; omega
    · obtain rfl : k = 14 := by omega
      go_wp2_with (fail)
      go_ret
      exact ⟨_, rfl, ⟨bs, by rw [← HM.out]; exact own_mono hown hz1', hbs⟩, bel_call hb1 hb⟩
end Go.Proofs.YtkiglhaeiomohaaGreat
/- SubgroupNames: the program's side, joined. -/
namespace Go.Proofs.YtkiglhaeiomohaaGreat
set_option linter.unusedVariables false
set_option linter.unusedSimpArgs false
open Go.RowKit

def sgQ (i k : Nat) : Bool := sbB (lbP k) (RK (lbP k) (lbG k)) (RK (lbP i) (lbG i))
theorem RK_len (i : Nat) (hi : i < 14) : (RK (lbP i) (lbG i)).length ≤ 1000 := by
  have h := (nv_code (s := ⟨(lbN i).toArray⟩) (.inl ⟨i, hi, by simp, rfl, rfl, rfl⟩)).2
  omega
set_option maxRecDepth 10000 in
set_option maxHeartbeats 2000000 in
theorem i_SubgroupNames (s : ByteArray) (i : Nat) (hi : i < 14) (hs : s.toList = lbN i) (w : World) : Calls Tryz.prog 7 #[.string s] w (OSC (snK (lbP i : Nat) (sgQ i) 14) 0 w) := by
  have hg := fun W => i_GroupNamed s _ _ _ (.inl ⟨i, hi, hs, rfl, rfl, rfl⟩) W
  have hlen := RK_len i hi
  have hnm := fun A' L' c' W (gx : Nat) (hL' : L' = (RK (lbP i) (lbG i)).length) (hs' : IS W W.heap.size A' (RK (lbP i) (lbG i))) (hgx : gx < W.heap.size) (g0 : W.cell? ⟨gx, 0, none⟩ = some (.int .i64 (lbP i : Nat))) (g1 : W.cell? ⟨gx, 1, none⟩ = some (.slice A' L' c')) =>
    i_namesSub (lbP i : Nat) gx (sgQ i) W (fun k hk _ nb A G c W2 hb hG hii => i_subE k hk nb A A' G c L' c' gx (lbP i : Nat) (RK (lbP i) (lbG i)) W2 hG (rk14 ⟨k, hk⟩) (RK_len k hk) hii hL' (by rw [hL']; exact hlen) (hs'.call hb) (by have := hb.size; omega) ((hb.cell (p := ⟨gx, 0, none⟩) hgx).trans g0) ((hb.cell (p := ⟨gx, 1, none⟩) hgx).trans g1))
  generalize snK (lbP i : Nat) (sgQ i) 14 = is at *
  generalize RK (lbP i) (lbG i) = l at *
  generalize lbP i = p at *
  generalize hL : l.length = L at *
  have HL := Lib.hid hL.symm
  generalize hm : is.length = m at *
  have HM := Lib.hid hm
  have hnl : ∀ A' c' W gx, IS W W.heap.size A' l → gx < W.heap.size → W.cell? ⟨gx, 0, none⟩ = some (.int .i64 (p : Int)) → W.cell? ⟨gx, 1, none⟩ = some (.slice A' L c') → Calls Tryz.prog 37 #[.int .i64 (p : Int), .func (.func 38) #[] #[.pointer (some ⟨gx, 0, none⟩)]] W (fun e w' => ∃ A cap, e = .returned (.slice A m cap) ∧ OwnS w' W.heap.size (.slice A m cap) m (is.map lbN) ∧ Below W.heap.size W w') := fun A' c' W gx h1 h2 h3 h4 => (hnm A' L c' W gx rfl h1 h2 h3 h4).mono fun e w' ⟨v, e1, ⟨bs, e2, e3⟩, e4⟩ => by
    rw [hm] at e2
    obtain ⟨A, c, rfl, _⟩ := own_slice' e2
    exact ⟨A, c, e1, ⟨bs, e2, e3⟩, e4⟩
  clear hs hL hnm hm
  go_enter Tryz.func7, Tryz.ntmps7
  go_wp2_with (first
    | (go_at_call 17; refine (hg _).mono ?_; rintro e w1 ⟨v, rfl, ho, hb1⟩; obtain ⟨Ar, cr, rfl, _⟩ := own_slice' ho; rw [← HL.out] at ho; rw [← HL.out]; obtain ⟨c0, c1, _, _⟩ := BK.two (BK.new w1 41 #[.int .i64 (p : Int), .slice Ar L cr]); have hb1a := hb1.alloc hb1.size (.cells #[.int .i64 (p : Int), .slice Ar L cr] 41); have hisr := (own_isn ho HL.out).call ((Below.refl w1.heap.size w1).alloc (Nat.le_refl _) (.cells #[.int .i64 (p : Int), .slice Ar L cr] 41)))
    | (go_at_call 37; refine (hnl Ar cr _ w1.heap.size hisr (by simp) c0 c1).mono ?_; rintro e w2 ⟨A2, c2, rfl, ⟨bs, ho2, hs2⟩, hb2⟩))
  go_ret2
  unfold OSC
  rw [HM.out]
  exact ⟨_, _, rfl, ⟨bs, own_mono ho2 (by have := hb1a.size; simp at this ⊢; omega), hs2⟩, bel_call hb1a hb2⟩
theorem i_SubgroupNames_no (s : ByteArray) (h : NoN s) (w : World) : Calls Tryz.prog 7 #[.string s] w (OSC [] 4 w) := by
  have hg := fun W => i_GroupNamed s _ _ _ (.inr ⟨h, rfl, rfl, rfl⟩) W
  clear h
  go_enter Tryz.func7, Tryz.ntmps7
  go_wp2_with (go_at_call 17; refine (hg _).mono ?_; rintro e w1 ⟨v, rfl, ho, hb1⟩; obtain ⟨Ar, cr, rfl, _⟩ := own_slice' ho)
  go_ret2
  exact ⟨none, 0, rfl, ⟨[], World.ownsRow_nil _ _ _ _, rfl⟩, hb1.alloc hb1.size _⟩
end Go.Proofs.YtkiglhaeiomohaaGreat
/- SubgroupNames: the reference's side. -/
namespace Go.Proofs.YtkiglhaeiomohaaGreat
set_option linter.unusedVariables false
set_option linter.unusedSimpArgs false
open Go.RowKit

def sgS (i k : Nat) : Bool := ((RK (lbP i) (lbG i)).length % (RK (lbP k) (lbG k)).length == 0) && cgB (lbP k) (RK (lbP k) (lbG k)) (RK (lbP i) (lbG i))
theorem filt_yes {ks : List Nat} {q : Nat → Bool} {j : Nat} (h : j < ks.length) (hq : q (ks.getD j 0) = true) : (ks.take (j + 1)).filter q = (ks.take j).filter q ++ [ks.getD j 0] := by
  rw [List.take_succ_eq_append_getElem h, List.filter_append]
  have e : ks.getD j 0 = ks[j] := by simp [List.getElem?_eq_getElem h]
  rw [e] at hq ⊢
  simp only [List.filter_cons, List.filter_nil, hq, if_true]
theorem filt_no {ks : List Nat} {q : Nat → Bool} {j : Nat} (h : j < ks.length) (hq : q (ks.getD j 0) = false) : (ks.take (j + 1)).filter q = (ks.take j).filter q := by
  rw [List.take_succ_eq_append_getElem h, List.filter_append]
  have e : ks.getD j 0 = ks[j] := by simp [List.getElem?_eq_getElem h]
  rw [e] at hq
  simp only [List.filter_cons, List.filter_nil, hq, Bool.false_eq_true, if_false, List.append_nil]
theorem nmK_at {n : Int} {j : Nat} (h : j < (nmK n 14).length) : (nmK n 14).getD j 0 < 14 ∧ (lbP ((nmK n 14).getD j 0) : Int) = n := by
  have e : (nmK n 14).getD j 0 = (nmK n 14)[j] := by simp [List.getElem?_eq_getElem h]
  have hm : (nmK n 14)[j] ∈ nmK n 14 := List.getElem_mem h
  rw [← e] at hm
  unfold nmK at hm
  rw [List.mem_filter] at hm
  simpa [nmK] using hm
theorem strs_nm {bs : List ByteArray} {ks : List Nat} (h : bs.map (·.toList) = ks.map lbN) {j : Nat} (hj : j < ks.length) : ∃ nb : ByteArray, (strs bs)[j]? = some (.string nb) ∧ nb.toList = lbN (ks.getD j 0) := by
  have hl : bs.length = ks.length := by have := congrArg List.length h; simpa using this
  have h2 := congrArg (fun l => l[j]?) h
  have hb : j < bs.length := by omega
  simp [List.getElem?_eq_getElem hb, List.getElem?_eq_getElem hj] at h2
  exact ⟨bs[j], by simp [strs, List.getElem?_eq_getElem hb], by simpa [List.getElem?_eq_getElem hj] using h2⟩
set_option maxRecDepth 100000 in
set_option maxHeartbeats 4000000 in
theorem s_SubgroupNames (s : ByteArray) (i : Nat) (hi : i < 14) (hs : s.toList = lbN i) (w : World) : Calls Tryz.prog 8 #[.string s] w (OSC ((nmK (lbP i : Nat) 14).filter (sgS i)) 0 w) := by
  have hp := fun W => s_l24Points i hi s hs W
  have hg := fun W => s_l24Group i hi s hs W
  have hlst := fun W => s_l24List (lbP i : Nat) W
  have hlen := RK_len i hi
  have hin := RK_in i hi
  obtain ⟨p1, p2, _, _, _⟩ := lb_in i hi
  have hkj := fun j (h : j < (nmK (lbP i : Nat) 14).length) => nmK_at h
  have hgk := fun k (hk : k < 14) nb (h : nb.toList = lbN k) W => s_l24Group k hk nb h W
  have hcj := fun k (hk : k < 14) (hpk : lbP k = lbP i) A A' c c' W h h' => s_l24Conjugate (lbP i) A A' (RK (lbP k) (lbG k)).length c (RK (lbP i) (lbG i)).length c' (RK (lbP k) (lbG k)) (RK (lbP i) (lbG i)) W p1 (by omega) rfl (RK_len k hk) rfl hlen (hpk ▸ RK_in k hk) hin h h'
  have hsg : ∀ k, lbP k = lbP i → sgS i k = (((RK (lbP i) (lbG i)).length % (RK (lbP k) (lbG k)).length == 0) && cgB (lbP i) (RK (lbP k) (lbG k)) (RK (lbP i) (lbG i))) := fun k h => by unfold sgS; rw [h]
  have hR0 := fun k (hk : k < 14) => rk14 ⟨k, hk⟩
  have hRL := fun k (hk : k < 14) => RK_len k hk
  have hnl := nmK_le (lbP i : Nat) 14
  have hyes := fun j h hq => filt_yes (ks := nmK (lbP i : Nat) 14) (q := sgS i) (j := j) h hq
  have hno := fun j h hq => filt_no (ks := nmK (lbP i : Nat) 14) (q := sgS i) (j := j) h hq
  have hstr := fun bs h j (hj : j < (nmK (lbP i : Nat) 14).length) => strs_nm (bs := bs) (ks := nmK (lbP i : Nat) 14) h hj
  generalize sgS i = sq at *
  generalize nmK (lbP i : Nat) 14 = ks at *
  generalize RK (lbP i) (lbG i) = l at *
  generalize lbP i = p at *
  generalize hL : l.length = L at *
  generalize hM : ks.length = M at *
  have HL := Lib.hid hL.symm
  have HM := Lib.hid hM.symm
  have hpz : ((p : Int) == 0) = false := by rw [beq_eq_false_iff_ne]; omega
  have hlst2 : ∀ W, Calls Tryz.prog 46 #[.int .i64 (p : Int)] W (fun e w' => ∃ A cap bs, e = .returned (.slice A M cap) ∧ w'.ownsRow W.heap.size 9 1 (.slice A M cap) M (strs bs) ∧ bs.map (·.toList) = ks.map lbN ∧ Below W.heap.size W w') := fun W => (hlst W).mono fun e w' ⟨v, e1, ⟨bs, e2, e3⟩, e4⟩ => by
    rw [hM] at e2
    obtain ⟨A, c, rfl, _⟩ := own_slice' e2
    exact ⟨A, c, bs, e1, e2, e3, e4⟩
  obtain ⟨i0, hi0, hz0, hz1, hz2⟩ := info_parts infoStr
  have HKJ := Lib.hid hkj
  have HGK := Lib.hid hgk
  have HCJ := Lib.hid hcj
  have HSG := Lib.hid hsg
  have HR0 := Lib.hid hR0
  have HRL := Lib.hid hRL
  have HY := Lib.hid hyes
  have HNO := Lib.hid hno
  have HSTR := Lib.hid hstr
  clear hs hin hlst hL hM hkj hgk hcj hsg hR0 hRL hyes hno hstr hi
  go_enter Tryz.func8, Tryz.ntmps8
  go_wp2_with (first
    | (go_at_call 44; refine (hp _).mono ?_; rintro e w1 ⟨rfl, hb1⟩)
    | (go_at_call 45; refine (hg _).mono ?_; rintro e w2 ⟨v, rfl, ho, hb2⟩; obtain ⟨Ar, cr, rfl, _⟩ := own_slice' ho; rw [← HL.out] at ho; rw [← HL.out]; have hb12 := bel_call hb1 hb2)
    | (go_at_call 46; refine (hlst2 _).mono ?_; rintro e w4 ⟨Al, cl, bn, rfl, hon, hbn, hb4⟩))
  have hb2a := hb12.alloc hb12.size (.cells #[.int .i64 (p : Int), .slice Ar L cr] 41)
  have hB3 := BK.new w2 41 #[.int .i64 (p : Int), .slice Ar L cr]
  have hisr := (own_isn ho HL.out).call ((Below.refl w2.heap.size w2).alloc (Nat.le_refl _) (.cells #[.int .i64 (p : Int), .slice Ar L cr] 41))
  have o6 := World.ownsRow_lit (base := (w2.alloc (.cells #[.int .i64 (p : Int), .slice Ar L cr] 41)).heap.size) (e := 9) (size := 1) (w2.alloc (.cells #[.int .i64 (p : Int), .slice Ar L cr] 41)) #[] 0 (Nat.le_refl _) (by simp [maxLen]) rfl
  have hb34 := bel_call ((Below.refl (w2.alloc (.cells #[.int .i64 (p : Int), .slice Ar L cr] 41)).heap.size (w2.alloc (.cells #[.int .i64 (p : Int), .slice Ar L cr] 41))).alloc (Nat.le_refl _) (.cells #[] 9)) hb4
  have o6 := own_below o6 hb4
  have hne6 : ∀ g, (Value.slice (some ⟨(w2.alloc (.cells #[.int .i64 (p : Int), .slice Ar L cr] 41)).heap.size, 0, none⟩) 0 0).ownBlock = some g → (Value.slice Al M cl).ownBlock ≠ some g := fun g h1 h2 => by
    have h3 := (hon.lt g h2).1
    simp [Value.ownBlock] at h1
    simp at h3
    omega
  have hon := own_mono (base' := (w2.alloc (.cells #[.int .i64 (p : Int), .slice Ar L cr] 41)).heap.size) hon (by simp)
  have hz3 : (w2.alloc (.cells #[.int .i64 (p : Int), .slice Ar L cr] 41)).heap.size = w2.heap.size + 1 := by simp
  have hbn' := HSTR.out bn hbn
  have HBN := Lib.hid hbn'
  clear hb4 hb12 hb1 hb2 ho hbn hbn' hp hg hlst2
  generalize w2.alloc (.cells #[.int .i64 (p : Int), .slice Ar L cr] 41) = w3 at *
  have hB3x : ∀ W, Below w3.heap.size w3 W → BK W w2.heap.size 41 #[.int .i64 (p : Int), .slice Ar L cr] := fun W h => hB3.below h (by omega)
  clear hB3
  go_loopw [6, 8] (fun u6 u8 wr => ∃ j q : Nat, j ≤ M ∧ q ≤ j ∧ u8 = .int .i64 j ∧ OwnS wr w3.heap.size u6 q (((ks.take j).filter sq).map lbN) ∧ Hid (q = ((ks.take j).filter sq).length) ∧ wr.ownsRow w3.heap.size 9 1 (.slice Al M cl) M (strs bn) ∧ (∀ g, u6.ownBlock = some g → (Value.slice Al M cl).ownBlock ≠ some g) ∧ Below w3.heap.size w3 wr) (fun _ u8 _ => M - (intOf u8).toNat)
  case atStart => exact ⟨0, 0, Nat.zero_le _, Nat.le_refl _, rfl, ⟨[], by simpa [hz3, strs] using o6, rfl⟩, rfl, hon, by simpa [hz3] using hne6, hb34⟩
  case round =>
    clear o6 hon hne6 hb34
    obtain ⟨ws, rfl⟩ : ∃ ws : World, ws = wr := ⟨_, rfl⟩
    obtain ⟨j, q, hj, hq, rfl, ⟨bs, hown, hbs⟩, HQ, hon, hne, hb⟩ := hrel
    obtain ⟨A6, c6, rfl, _⟩ := own_slice' hown
    have hsz := hb.size
    obtain ⟨f0, f1, _, _⟩ := (hB3x _ hb).two
    by_cases hlt : j < M
    · obtain ⟨nb, hnb, hnl2⟩ := HBN.out j hlt
      obtain ⟨gn, hgn, _, hgl, hcn⟩ := own_src hon (by omega)
      have e1 := hcn j _ hnb
      have hkk := HKJ.out j hlt
      have hyy := HY.out j hlt
      have hnn := HNO.out j hlt
      generalize ks.getD j 0 = k at *
      obtain ⟨hk14, hkp⟩ := hkk
      have hkp : lbP k = p := by omega
      have hgk := fun W => HGK.out k hk14 nb hnl2 W
      have hcj := HCJ.out k hk14 hkp
      have hsg := HSG.out k hkp
      have hR0 := HR0.out k hk14
      have hRL := HRL.out k hk14
      generalize RK (lbP k) (lbG k) = lk at *
      rw [hkp] at hgk
      generalize hLk : lk.length = Lk at *
      have HLK := Lib.hid hLk.symm
      have HNB := Lib.hid hnl2
      have HBS := Lib.hid hbs
      obtain ⟨R, hR⟩ : ∃ R, L % Lk = R := ⟨_, rfl⟩
      have hRb : R < Lk := by rw [← hR]; exact Nat.mod_lt _ hR0
      have hrem : Int.tmod (L : Int) (Lk : Int) = (R : Int) := by rw [← hR]; rw [Int.tmod_eq_emod_of_nonneg (by omega)]; simp
      have hlz : ((Lk : Int) == 0) = false := by rw [beq_eq_false_iff_ne]; omega
      rw [hR] at hsg
      subst hgn
      clear hLk hnl2 hbs hR hcn hnb
      by_cases hd : R = 0
      · have htd : ((R : Int) == 0) = true := by rw [beq_iff_eq]; omega
        have hsq : sq k = cgB p lk l := by rw [hsg, hd]; rfl
        cases hcb : cgB p lk l
        · rw [hcb] at hcj hsq
          have HNX := Lib.hid (hnn hsq)
          clear hsg hsq hyy hnn hcb hd
          go_wp2_with (first
            | (go_at_call 45; refine (hgk _).mono ?_; rintro e w5 ⟨v5, rfl, ho5, hb5⟩; obtain ⟨Ak, ck, rfl, _⟩ := own_slice' ho5; rw [← HLK.out] at ho5 ⊢; have hA := (hb5.alloc hb5.size (.cells #[.int .i64 (p : Int), .slice Ak Lk ck] 41)); have hA3 := hb.trans (hA.mono hsz); obtain ⟨x0, x1, _, _⟩ := (hB3x _ hA3).two; obtain ⟨y0, y1, _, _⟩ := (BK.new w5 41 #[.int .i64 (p : Int), .slice Ak Lk ck]).two)
            | (go_at_call 47; refine (hcj Ak Ar ck cr _ (own_isn (World.ownsRow.alloc ho5 _) HLK.out) (hisr.call hA3)).mono ?_; rintro e w6 ⟨rfl, hb6⟩; have hb56 := bel_call hA hb6; have e2 := (hb56.cell (p := ⟨gn, j, none⟩) hgl).trans e1))
          go_roundw
          case rel => exact ⟨j + 1, q, by omega, by omega, by go_num, ⟨bs, own_below hown hb56, by rw [HNX.out]; exact HBS.out⟩, by unfold Hid; rw [HNX.out]; exact HQ.out, own_below hon hb56, hne, hb.trans (hb56.mono hsz)⟩
          case measure => simp [intOf]; omega
        · rw [hcb] at hcj hsq
          have HYX := Lib.hid (hyy hsq)
          clear hsg hsq hyy hnn hcb hd
          go_wp2_with (first
            | (go_at_call 45; refine (hgk _).mono ?_; rintro e w5 ⟨v5, rfl, ho5, hb5⟩; obtain ⟨Ak, ck, rfl, _⟩ := own_slice' ho5; rw [← HLK.out] at ho5 ⊢; have hA := (hb5.alloc hb5.size (.cells #[.int .i64 (p : Int), .slice Ak Lk ck] 41)); have hA3 := hb.trans (hA.mono hsz); obtain ⟨x0, x1, _, _⟩ := (hB3x _ hA3).two; obtain ⟨y0, y1, _, _⟩ := (BK.new w5 41 #[.int .i64 (p : Int), .slice Ak Lk ck]).two)
            | (go_at_call 47; refine (hcj Ak Ar ck cr _ (own_isn (World.ownsRow.alloc ho5 _) HLK.out) (hisr.call hA3)).mono ?_; rintro e w6 ⟨rfl, hb6⟩; have hb56 := bel_call hA hb6; have e2 := (hb56.cell (p := ⟨gn, j, none⟩) hgl).trans e1)
            | (at_builtin; refine wpList_append_src rfl (.tmp 43) (.tmp 48) 25 rfl w3.heap.size 9 i0 (.string ⟨#[]⟩) 1 16 Tryz.underlying25 hi0 hz0 hz1 hz2 rfl (by omega) (.slice A6 q c6) q (strs bs) rfl (World.ownsRow.alloc (own_below hown hb56) _) (some ⟨w6.heap.size, 0, none⟩) 1 1 [.string nb] rfl rfl (one_src w6 _ _) (by intro h; cases h) (by intro u hu; simp at hu; subst hu; rfl) (by simp only [maxLen]; omega) (by omega) (by have := hb56.size; simp; omega) ?_; intro v7 w7 hown7 hg7 hat7))
          have hz6 := hb56.size
          go_roundw
          case rel =>
            refine ⟨j + 1, q + 1, by omega, by omega, by go_num, ⟨bs ++ [nb], by simpa [strs] using hown7, ?_⟩, ?_, ?_, ?_, ?_⟩
            · rw [HYX.out, List.map_append, List.map_append, HBS.out]; simp [HNB.out]
            · unfold Hid; rw [HYX.out, List.length_append, HQ.out]; rfl
            · refine World.ownsRow.kept (World.ownsRow.alloc (own_below hon hb56) _) hg7 (.inr fun e => ?_)
              exact hne gn e.symm rfl
            · intro g h1 h2
              rcases hat7 with h | h
              · rw [h] at h1; exact hne g h1 h2
              · rw [h] at h1
                simp [Value.ownBlock] at h2
                injection h1 with h1
                simp at h1
                omega
            · exact ((hb.trans (hb56.mono hsz)).alloc (by omega) _).grown hg7 (by simp; omega) (fun g hg => (hown.lt g hg).1)
          case measure => simp [intOf]; omega
      · have htd : ((R : Int) == 0) = false := by rw [beq_eq_false_iff_ne]; omega
        have hsq : sq k = false := by rw [hsg]; simp [hd]
        have HNX := Lib.hid (hnn hsq)
        clear hsg hsq hyy hnn hcj hd
        go_wp2_with (first
          | (go_at_call 45; refine (hgk _).mono ?_; rintro e w5 ⟨v5, rfl, ho5, hb5⟩; obtain ⟨Ak, ck, rfl, _⟩ := own_slice' ho5; rw [← HLK.out] at ho5 ⊢; have hA := (hb5.alloc hb5.size (.cells #[.int .i64 (p : Int), .slice Ak Lk ck] 41)); have hA3 := hb.trans (hA.mono hsz); obtain ⟨x0, x1, _, _⟩ := (hB3x _ hA3).two; obtain ⟨y0, y1, _, _⟩ := (BK.new w5 41 #[.int .i64 (p : Int), .slice Ak Lk ck]).two))
        go_roundw
        case rel => exact ⟨j + 1, q, by omega, by omega, by go_num, ⟨bs, own_below hown hA, by rw [HNX.out]; exact HBS.out⟩, by unfold Hid; rw [HNX.out]; exact HQ.out, own_below hon hA, hne, hb.trans (hA.mono hsz)⟩
        case measure => simp [intOf]; omega
    · obtain rfl : j = M := by omega
      rw [List.take_of_length_le (by rw [← HM.out]; exact Nat.le_refl _)] at hbs HQ
      go_wp2_with (fail)
      go_ret2
      unfold OSC
      rw [← HQ.out]
      exact ⟨A6, c6, rfl, ⟨bs, own_mono hown (by have := hb2a.size; omega), hbs⟩, bel_call hb2a hb⟩
end Go.Proofs.YtkiglhaeiomohaaGreat
/- The law of SubgroupNames. -/
namespace Go.Proofs.YtkiglhaeiomohaaGreat
set_option linter.unusedVariables false
set_option linter.unusedSimpArgs false
open Go.RowKit

theorem cgA_part {n : Nat} {l l' : List Int} {r : Nat} (hn : 1 ≤ n) (hr : r < fact n) (hk : InK n l) (hk' : InK n l') : cgA n l l' r = partB (rkC (cjM n (wrL n r) l)) l' := by
  have hin := (rkC_in hn (wrL_in hr) hk).1
  unfold cgA partB cmL
  generalize rkC (cjM n (wrL n r) l) = xr at *
  rw [Bool.eq_iff_iff, decide_eq_true_eq, List.length_filter_eq_length_iff, List.all_eq_true]
  have hx : ∀ x ∈ xr, (fgS (fact n) l' l'.length).getD x.toNat false = true ↔ x ∈ l' := fun x hx => by
    obtain ⟨j, hj, e⟩ := List.mem_iff_getElem.1 hx
    have hg : gt xr j = x := by simp [gt, List.getElem?_eq_getElem hj, e]
    have h0 := (hin j hj).1
    rw [hg] at h0
    rw [fgS_mem (F := fact n) (l := l') hk' l'.length (Nat.le_refl _) x.toNat, Int.toNat_of_nonneg h0]
    constructor
    · rintro ⟨k, h1, h2⟩
      rw [← h2]
      exact gt_mem h1
    · intro h
      obtain ⟨k, h1, h2⟩ := List.mem_iff_getElem.1 h
      exact ⟨k, h1, by simp [gt, List.getElem?_eq_getElem h1, h2]⟩
  constructor
  · intro h x hxm
    rw [decide_eq_true_eq]
    exact (hx x hxm).1 (h x hxm)
  · intro h x hxm
    exact (hx x hxm).2 (of_decide_eq_true (h x hxm))
theorem cgB_sb {n : Nat} {l l' : List Int} (hn : 1 ≤ n) (hk : InK n l) (hk' : InK n l') : cgB n l l' = sbB n l l' := by
  unfold cgB sbB cjA
  rw [List.any_map, Bool.eq_iff_iff, List.any_eq_true, List.any_eq_true]
  constructor
  · rintro ⟨r, hr, h⟩
    rw [cgA_part hn (by simpa using hr) hk hk'] at h
    exact ⟨r, hr, h⟩
  · rintro ⟨r, hr, h⟩
    refine ⟨r, hr, ?_⟩
    rw [cgA_part hn (by simpa using hr) hk hk']
    exact h
theorem part_chk {n : Nat} {l l' : List Int} {r : Nat} (h : partB (rkC (cjM n (wrL n r) l)) l' = true) : chkC n l l' r = true := by
  unfold partB at h
  rw [List.all_eq_true] at h
  unfold chkC
  rw [List.all_eq_true]
  intro b hb
  have hm : ((rk (cjL (wrL n r) b) : Nat) : Int) ∈ rksL (cjM n (wrL n r) l) := by
    unfold rksL cjM
    exact List.mem_map.2 ⟨cjL (wrL n r) b, List.mem_map.2 ⟨b, hb, rfl⟩, rfl⟩
  have hc : ((rk (cjL (wrL n r) b) : Nat) : Int) ∈ rkC (cjM n (wrL n r) l) := ((sorted_compact (rksL (cjM n (wrL n r) l))).2 _).2 hm
  have h2 := of_decide_eq_true (h _ hc)
  simpa using h2
theorem sg_same (i k : Nat) (hi : i < 14) (hk : k < 14) (hp : lbP k = lbP i) : sgS i k = sgQ i k := by
  obtain ⟨p1, _, _, _, _⟩ := lb_in k hk
  have hin := RK_in k hk
  have hin' := RK_in i hi
  rw [← hp] at hin'
  unfold sgS sgQ
  rw [cgB_sb p1 hin (by rw [← hp]; exact hin')]
  cases hb : sbB (lbP k) (RK (lbP k) (lbG k)) (RK (lbP i) (lbG i))
  · simp
  · have hd := div14 ⟨k, hk⟩ ⟨i, hi⟩
    unfold divOk at hd
    simp only [hp, bne_self_eq_false, Bool.false_or] at hd
    rw [Bool.or_eq_true] at hd
    rw [Bool.and_true]
    rcases hd with hd | hd
    · rw [hp]; exact hd
    · exfalso
      unfold sbB cjA at hb
      rw [List.any_map, List.any_eq_true] at hb
      obtain ⟨r, hr, h⟩ := hb
      have hc := part_chk h
      rw [List.all_eq_true] at hd
      rw [hp] at hr hc
      have h3 := hd r hr
      rw [hc] at h3
      simp at h3
theorem sg_lists (i : Nat) (hi : i < 14) : (nmK (lbP i : Nat) 14).filter (sgS i) = snK (lbP i : Nat) (sgQ i) 14 := by
  unfold snK
  apply List.filter_congr
  intro k hk
  unfold nmK at hk
  rw [List.mem_filter] at hk
  obtain ⟨h1, h2⟩ := hk
  have h3 := of_decide_eq_true h2
  exact sg_same i k hi (by simpa using h1) (by omega)
theorem s_SubgroupNames_no (s : ByteArray) (h : NoN s) (w : World) : Calls Tryz.prog 8 #[.string s] w (OSC [] 4 w) := by
  go_enter Tryz.func8, Tryz.ntmps8
  go_wp2_with (go_at_call 44; refine (s_l24Points_no s h _).mono ?_; rintro e w1 ⟨rfl, nq, rfl⟩)
  go_ret2
  exact ⟨none, 0, rfl, ⟨[], World.ownsRow_nil _ _ _ _, rfl⟩, below_drewN (Below.refl _ _) _⟩
theorem sn_len (i : Nat) (hi : i < 14) : (snK (lbP i : Nat) (sgQ i) 14).length ≤ 5 := by
  unfold snK
  refine Nat.le_trans (List.length_filter_le _ _) ?_
  have : ∀ m : Fin 6, (nmK ((m : Nat) : Int) 14).length ≤ 5 := by decide +kernel
  obtain ⟨_, p2, _⟩ := lb_in i hi
  exact this ⟨lbP i, by omega⟩
end Go.Proofs.YtkiglhaeiomohaaGreat
