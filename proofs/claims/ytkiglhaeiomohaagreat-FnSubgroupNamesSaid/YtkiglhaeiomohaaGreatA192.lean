/- The law FnSubgroupNames: for every code. -/
import Derived.Test.YtkiglhaeiomohaaGreatA191
import Derived.Test.YtkiglhaeiomohaaGreatA119
import Derived.Test.YtkiglhaeiomohaaGreatA83
import Derived.Deep.RegionHeld3
import Derived.Deep.RegionLaw
import Derived.BigQuiet
namespace Go.Proofs.YtkiglhaeiomohaaGreat
set_option linter.unusedVariables false
set_option linter.unusedSimpArgs false
open Go.RowKit

theorem i_SolveAny (s : ByteArray) : ∃ b c, (∀ W, Calls Tryz.prog 9 #[.string s] W (MBI b c W)) ∧ (∀ W, Calls Tryz.prog 10 #[.string s] W (MBI b c W)) := by
  obtain ⟨p, l, code, h⟩ := nv_ex s
  exact ⟨_, _, fun W => i_IsSolvableName s p l code h _ _ rfl rfl W, fun W => s_IsSolvableName s p l code h _ _ rfl rfl W⟩
theorem i_SuitAny (s : ByteArray) (xs : List Int) (m : Nat) (hm : m = xs.length) (hml : m ≤ 1048576) : ∃ b c, (∀ A d W, IS W W.heap.size A xs → Calls Tryz.prog 12 #[.string s, .slice A m d] W (MBI b c W)) ∧ (∀ A d W, IS W W.heap.size A xs → Calls Tryz.prog 13 #[.string s, .slice A m d] W (MBI b c W)) := by
  by_cases h : ∃ i, i < 14 ∧ s.toList = lbN i
  · obtain ⟨i, hi, hs⟩ := h
    exact ⟨_, _, fun A d W h => i_IsSuitable s i hi hs A m d xs W hm hml h, fun A d W h => s_IsSuitable s i hi hs A m d xs W hm hml h⟩
  · have hno : NoN s := fun i hi he => h ⟨i, hi, he⟩
    exact ⟨_, _, fun A d W _ => i_IsSuitable_no s hno _ W, fun A d W _ => s_IsSuitable_no s hno _ W⟩
theorem up_undrew {g B : Nat} {w w' : World} (h : Up g B w.drew w') : Up g B w w' := ⟨h.os, h.tape, h.output, h.size, h.block⟩
theorem dic_drew {w : World} {g : Nat} (h : DIC w g) : DIC w.drew g := h
theorem wr_mem {n : Nat} {l : List Int} {r ρ : Nat} (hr : r < l.length) (h : gt l r = (ρ : Int)) : wrL n ρ ∈ memL n l := by
  unfold memL
  refine List.mem_map.2 ⟨gt l r, gt_mem hr, ?_⟩
  rw [h]; simp
/-- What a round needs to know of a name of the list. -/
theorem sn_round (i : Nat) (hi : i < 14) (k : Nat) (hk : k < (snK (lbP i : Nat) (sgQ i) 14).length) (nb : ByteArray) (hnb : nb.toList = lbN ((snK (lbP i : Nat) (sgQ i) 14).getD k 0)) :
    ∃ (p : Nat) (x : List Int), NV nb p x 0 ∧ 1 ≤ p ∧ p ≤ 5 ∧ 1 ≤ x.length ∧ x.length ≤ 720 ∧ (RK (lbP i) (lbG i)).length % x.length = 0 ∧ InK p x ∧ ∀ b ∈ memL p x, hasT (lbP i) (RK (lbP i) (lbG i)) (tyS b) = true := by
  have hm : (snK (lbP i : Nat) (sgQ i) 14).getD k 0 ∈ snK (lbP i : Nat) (sgQ i) 14 := by
    simp [List.getElem?_eq_getElem hk]
  generalize (snK (lbP i : Nat) (sgQ i) 14).getD k 0 = j at *
  obtain ⟨h1, h2, h3⟩ := sn_mem hm
  obtain ⟨p1, p2, _⟩ := lb_in j h1
  have hnv : NV nb (lbP j) (RK (lbP j) (lbG j)) 0 := .inl ⟨j, h1, hnb, rfl, rfl, rfl⟩
  have hpos := rk14 ⟨j, h1⟩
  exact ⟨lbP j, _, hnv, p1, p2, hpos, (nv_code hnv).2, sg_div hi h1 h2 h3, RK_in j h1, fun b hb => sg_type hi h1 h2 h3 b hb⟩
set_option maxRecDepth 10000 in
set_option maxHeartbeats 4000000 in
theorem law_SubNames (A : Option Addr) (n c : Nat) (w : World) (hm : n ≤ maxLen) (hs : YB w w.heap.size A n) :
    Calls Tryz.prog 3 #[.slice A n c] w (M (.bool true) w) := by
  unfold maxLen at hm
  by_cases hbig : 4096 < n
  · go_enter Tryz.func3, Tryz.ntmps3
    go_wp2_with (go_at_call 5; refine (l_bigYes A n c _ hbig).mono ?_; rintro e w1 ⟨rfl, q1, rfl⟩)
    go_ret
    exact ⟨rfl, below_drewN (Below.refl _ _) _⟩
  have hn : n ≤ 4096 := by omega
  clear hm hbig
  have hdn := fun W h => s_DrawSubgroupNames A n c W hn h
  have hds := fun W h => s_DrawIsSuitable A n c W hn h
  have hro := fun W h => l_roll A n c 2401 W hn h
  go_enter Tryz.func3, Tryz.ntmps3
  go_wp2_with (go_at_call 5; refine (l_bigNo A n c _ hn).mono ?_; rintro e w1 ⟨rfl, q1, rfl⟩)
  have hs1 := hs.call (below_drewN (Below.refl w.heap.size w) q1)
  have b1 := below_drewN (Below.refl w.heap.size w) q1
  generalize w.drewN q1 = w1 at *
  refine (hdn _ hs1).mono ?_
  rintro e w2 ⟨s, rfl, hb2⟩
  have b2 := bel_call b1 hb2
  clear b1 hb2 hs1
  have hall : ∃ is code, is.length ≤ 5 ∧ (∀ W, Calls Tryz.prog 8 #[.string s] W (OSC is code W)) ∧ (∀ W, Calls Tryz.prog 7 #[.string s] W (OSC is code W)) ∧ (code = 4 ∨ (code = 0 ∧ ∃ i, i < 14 ∧ s.toList = lbN i ∧ is = snK (lbP i : Nat) (sgQ i) 14)) := by
    by_cases h : ∃ i, i < 14 ∧ s.toList = lbN i
    · obtain ⟨i, hi, hs⟩ := h
      exact ⟨_, _, sn_len i hi, fun W => by have h := s_SubgroupNames s i hi hs W; rw [sg_lists i hi] at h; exact h, fun W => i_SubgroupNames s i hi hs W, .inr ⟨rfl, i, hi, hs, rfl⟩⟩
    · have hno : NoN s := fun i hi he => h ⟨i, hi, he⟩
      exact ⟨[], 4, by simp, fun W => s_SubgroupNames_no s hno W, fun W => i_SubgroupNames_no s hno W, .inl rfl⟩
  obtain ⟨is, code, hlen, hS, hI, hcode⟩ := hall
  unfold OSC at hS hI
  have HCODE := Lib.hid hcode
  obtain ⟨bv, cv, hvi, hvs⟩ := i_SolveAny s
  clear hcode
  go_wp2_with (fail)
  refine (hI _).mono ?_
  rintro e w3 ⟨A1, c1, rfl, ⟨bs1, o1, hs1⟩, hb3⟩
  have b3 := bel_call b2 hb3
  clear hb3 b2
  go_wp2_with (fail)
  refine (hS _).mono ?_
  rintro e w4 ⟨A2, c2, rfl, ⟨bs2, o2, hs2⟩, hb4⟩
  have b4 := bel_call b3 hb4
  have o1 := own_below o1 hb4
  have hA1 := o1.lt
  have n1 : is.length = bs1.length := by have := congrArg List.length hs1; simp at this; omega
  have n2 : is.length = bs2.length := by have := congrArg List.length hs2; simp at this; omega
  have H12 := Lib.hid (hs1.trans hs2.symm)
  generalize hm : is.length = m at *
  have HM := Lib.hid hm.symm
  have N1 := Lib.hid n1
  have N2 := Lib.hid n2
  have HS1 := Lib.hid hs1
  clear hb4 b3 n1 n2 hs1 hs2 hm hS
  go_wp2_with (fail)
  refine (hvi _).mono ?_
  rintro e w5 ⟨rfl, hb5⟩
  have b5 := bel_call b4 hb5
  have o1 := own_below o1 hb5
  have o2 := own_below o2 hb5
  clear hb5 b4
  go_wp2_with (fail)
  refine (hvs _).mono ?_
  rintro e w6 ⟨rfl, hb6⟩
  have b6 := bel_call b5 hb6
  have o1 := own_below o1 hb6
  have o2 := own_below o2 hb6
  clear hb6 b5
  go_wp2_with (fail)
  refine (hds _ (hs.call b6)).mono ?_
  rintro e w7 ⟨nb, B, mm, d, xs, rfl, hmx, hm6, hix, hb7⟩
  have b7 := bel_call b6 hb7
  have o1 := own_below o1 hb7
  have o2 := own_below o2 hb7
  obtain ⟨bt, ct, hti, hts⟩ := i_SuitAny nb xs mm hmx (by omega)
  have HMX := Lib.hid hmx
  clear hb7 b6 hmx
  go_wp2_with (fail)
  refine (hti _ _ _ hix).mono ?_
  rintro e w8 ⟨rfl, hb8⟩
  have b8 := bel_call b7 hb8
  have o1 := own_below o1 hb8
  have o2 := own_below o2 hb8
  have hix := hix.call hb8
  clear hb8 b7
  go_wp2_with (fail)
  refine (hts _ _ _ hix).mono ?_
  rintro e w9 ⟨rfl, hb9⟩
  have b9 := bel_call b8 hb9
  have o1 := own_below o1 hb9
  have o2 := own_below o2 hb9
  have i1 := own_ib o1 N1.out
  have i2 := own_ib o2 N2.out
  have hlk := fun W h1 h2 => l_likeTexts A1 A2 m c1 c2 bs1 bs2 W w9.heap.size w9.heap.size N1.out N2.out (by omega) h1 h2 H12.out
  clear hb9 b8 hix hti hts hvi hvs hI hds hdn
  rcases HCODE.out with rfl | ⟨rfl, i, hi, hsi, his⟩
  · go_wp2_with (go_at_call 14; refine (hlk _ i1 i2).mono ?_; rintro e w10 ⟨rfl, q10, rfl⟩)
    go_ret
    exact ⟨rfl, below_drewN b9 _⟩
  obtain ⟨p1, p2, _⟩ := lb_in i hi
  have hnvs : NV s (lbP i) (RK (lbP i) (lbG i)) 0 := .inl ⟨i, hi, hsi, rfl, rfl, rfl⟩
  have hszs := fun W => i_SizeOf s _ _ _ hnvs W
  have hrk : 0 < (RK (lbP i) (lbG i)).length ∧ (RK (lbP i) (lbG i)).length ≤ 720 := ⟨rk14 ⟨i, hi⟩, (nv_code hnvs).2⟩
  have hrd := fun k hk nb hnb => sn_round i hi k hk nb hnb
  rw [← his, ← HM.out] at hrd
  have hst := fun A m d xs W hm hml h => i_IsSuitable s i hi hsi A m d xs W hm hml h
  have hmem : ∃ j, j < m ∧ is.getD j 0 = i := by
    have h := sn_own i hi
    rw [← his] at h
    obtain ⟨j, hj, e⟩ := List.mem_iff_getElem.1 h
    exact ⟨j, by rw [HM.out]; exact hj, by simp [List.getElem?_eq_getElem hj, e]⟩
  obtain ⟨j0, hj0, hj1⟩ := hmem
  have hnm : ∀ k, k < m → (gs bs1 k).toList = lbN (is.getD k 0) := fun k hk => by
    have h1 : (bs1.map (·.toList))[k]? = (is.map lbN)[k]? := by rw [HS1.out]
    have hk1 : k < bs1.length := by rw [← N1.out]; exact hk
    have hk2 : k < is.length := by rw [← HM.out]; exact hk
    rw [List.getElem?_map, List.getElem?_map, List.getElem?_eq_getElem hk1, List.getElem?_eq_getElem hk2] at h1
    simpa [gs, List.getElem?_eq_getElem hk1, List.getElem?_eq_getElem hk2] using h1
  have hht : (gs bs1 j0).toList = s.toList := by rw [hnm j0 hj0, hj1, hsi]
  have hrd2 : ∀ k, k < m → ∃ (p : Nat) (x : List Int), NV (gs bs1 k) p x 0 ∧ 1 ≤ p ∧ p ≤ 5 ∧ 1 ≤ x.length ∧ x.length ≤ 720 ∧ (RK (lbP i) (lbG i)).length % x.length = 0 ∧ InK p x ∧ ∀ b ∈ memL p x, hasT (lbP i) (RK (lbP i) (lbG i)) (tyS b) = true := fun k hk => hrd k hk _ (hnm k hk)
  generalize RK (lbP i) (lbG i) = X at *
  generalize lbP i = P at *
  generalize hY : X.length = Y at *
  have HRD := Lib.hid hrd2
  have HHT := Lib.hid hht
  clear hrd hrd2 hnm hht hj1 his HS1 HCODE H12 hnvs hsi hY HM
  go_wp2_with (first
    | (go_at_call 14; refine (hlk _ i1 i2).mono ?_; rintro e w10 ⟨rfl, q10, rfl⟩)
    | (go_at_call 15; refine (hszs _).mono ?_; rintro e w11 ⟨rfl, hb11⟩))
  have hb11 := undrew hb11
  have b11 := bel_call b9 hb11
  have o1 := own_below o1 hb11
  clear hlk i1 i2 o2 hb11
  obtain ⟨g1, rfl, _, hg1, hc1⟩ := own_src o1 (by omega)
  have hc1 : ∀ k, k < m → w11.cell? ⟨g1, k, none⟩ = some (.string (gs bs1 k)) := fun k hk => hc1 k _ (strs_at (by rw [← N1.out]; exact hk))
  refine (hro _ (hs.call b11)).mono ?_
  rintro e w12 ⟨rfl, hD, hb12⟩
  have b12 := bel_call b11 hb12
  have hz12 := hb12.size
  have hc1 : ∀ k, k < m → w12.cell? ⟨g1, k, none⟩ = some (.string (gs bs1 k)) := fun k hk => (hb12.cell (p := ⟨g1, k, none⟩) hg1).trans (hc1 k hk)
  have HC := Lib.hid hc1
  clear hb12 o1 hro hszs hc1
  go_wp2_with (fail)
  go_loopw [21] (fun u wr => ∃ k : Nat, k ≤ m ∧ u = .int .i64 k ∧ DIC wr w11.heap.size ∧ Up w11.heap.size w12.heap.size w12 wr) (fun u _ => m - (intOf u).toNat)
  case atStart => exact ⟨0, Nat.zero_le _, rfl, hD, Up.refl⟩
  case round =>
    clear hD
    obtain ⟨ws, rfl⟩ : ∃ ws : World, ws = wr := ⟨_, rfl⟩
    obtain ⟨k, hk, rfl, hD, hU⟩ := hrel
    have hsz := hU.size
    by_cases hlt : k < m
    · have e1 := (hU.cell (p := ⟨g1, k, none⟩) (by show g1 < _; omega) (by show g1 ≠ _; omega)).trans (HC.out k hlt)
      obtain ⟨p, x, hnv, q1, q2, x1, x2, hdv, hin, hty⟩ := HRD.out k hlt
      have hsk := fun W => i_SizeOf _ _ _ _ hnv W
      have hgn := fun W => i_GroupNamed _ _ _ _ hnv W
      have hgk := hin
      unfold GRC at hgn
      have hmt : ∀ r ρ : Nat, r < x.length → gt x r = (ρ : Int) → hasT P X (tyS (wrL p ρ)) = true := fun r ρ h1 h2 => hty _ (wr_mem h1 h2)
      generalize gs bs1 k = nk at *
      generalize hL : x.length = L at *
      have hL1 : ¬ (L : Int) < 1 := by omega
      have hL0 : ((L : Int) == 0) = false := by rw [beq_eq_false_iff_ne]; omega
      have hrem : Int.tmod (Y : Int) (L : Int) = 0 := by
        rw [Int.tmod_eq_emod_of_nonneg (by omega)]
        have : ((Y % L : Nat) : Int) = 0 := by rw [hdv]; rfl
        rw [Int.natCast_emod] at this
        exact this
      have HL := Lib.hid hL.symm
      have HIN := Lib.hid hgk
      have HMT := Lib.hid hmt
      clear hnv hty hin hgk hmt hL hdv
      go_wp2_with (first
        | (go_at_call 15; refine (hsk _).mono ?_; rintro e w13 ⟨rfl, hb13⟩; have e2 := (hb13.cell (p := ⟨g1, k, none⟩) (by show g1 < _; omega)).trans e1)
        | (go_at_call 17; refine (hgn _).mono ?_; rintro e w14 ⟨v14, rfl, ho14, hb14⟩; obtain ⟨A14, c14, rfl, _⟩ := own_slice' ho14; obtain ⟨g14, rfl, hg14, hg14', hc14⟩ := own_src ho14 x1; have B14 := BK.new w14 41 #[.int .i64 (p : Int), .slice (some ⟨g14, 0, none⟩) L c14]; obtain ⟨f0, f1, _, _⟩ := B14.two))
      have hba := (Below.refl w14.heap.size w14).alloc (Nat.le_refl _) (.cells #[.int .i64 (p : Int), .slice (some ⟨g14, 0, none⟩) L c14] 41)
      have hb14' := bel_call (bel_call hb13 hb14) hba
      have hD14 := hD.call hb14'
      have hU14 := hU.thenB hb14'
      have hgs : w11.heap.size < ws.heap.size := hD.lt
      have hz13 := hb13.size
      have hz14 := hb14.size
      have hcx : ∀ r, r < L → ∃ ρ : Nat, gt x r = (ρ : Int) ∧ ρ < fact p ∧ (w14.alloc (.cells #[.int .i64 (p : Int), .slice (some ⟨g14, 0, none⟩) L c14] 41)).cell? ⟨g14, r, none⟩ = some (.int .i64 (ρ : Int)) ∧ hasT P X (tyS (wrL p ρ)) = true := fun r hr => by
        have hrx : r < x.length := by rw [← HL.out]; exact hr
        obtain ⟨h1, h2⟩ := HIN.out r hrx
        obtain ⟨ρ, hρ⟩ := Int.eq_ofNat_of_zero_le h1
        refine ⟨ρ, hρ, by omega, ?_, HMT.out r ρ hr hρ⟩
        rw [← hρ]
        exact (hba.cell (p := ⟨g14, r, none⟩) hg14').trans (hc14 r _ (by simp [ints, gt, hrx]))
      have HCX := Lib.hid hcx
      have hbl := fun W h => l_below w11.heap.size L W x1 (by omega) h
      have hpw := fun ρ W h => i_PermutationWith p ρ W q1 (by omega) h
      have hz15 : w14.heap.size < (w14.alloc (.cells #[.int .i64 (p : Int), .slice (some ⟨g14, 0, none⟩) L c14] 41)).heap.size := by simp
      generalize w14.alloc (.cells #[.int .i64 (p : Int), .slice (some ⟨g14, 0, none⟩) L c14] 41) = w15 at *
      clear hcx hc14 B14 hba
      go_region_law
        (go_simp; first
          | (go_at_call 19; refine (hbl _ (dic_drew hD14)).mono ?_; rintro e w16 ⟨r, rfl, hr, hD16, hU16⟩; obtain ⟨ρ, _, hρ, hcρ, hTy⟩ := HCX.out r hr; have e9 := (hU16.cell (p := ⟨g14, r, none⟩) (by show g14 < w15.heap.size; omega) (by show g14 ≠ _; omega)).trans hcρ; have f2 := (hU16.cell (p := ⟨w14.heap.size, 0, none⟩) (by show w14.heap.size < w15.heap.size; omega) (by show w14.heap.size ≠ _; omega)).trans f0; have f3 := (hU16.cell (p := ⟨w14.heap.size, 1, none⟩) (by show w14.heap.size < w15.heap.size; omega) (by show w14.heap.size ≠ _; omega)).trans f1)
          | (go_at_call 18; refine (hpw ρ _ hρ).mono ?_; rintro e w17 ⟨Aw, cw, rfl, hcw, hiw, hb17⟩))
      all_goals
        have hUf := hU14.trans ((up_undrew (B := w15.heap.size) hU16).mono (by have := hb14'.size; omega))
        have hL6 := (wrL_in hρ).1
        have hin6 := wrL_in hρ
        have hcy := i_CycleType Aw p cw (wrL p ρ) _ q1 (by omega) hcw hin6 (fun k hk => wr_distinct' q2 hρ hk) hiw
        have hle := cycL_len (wrL p ρ)
        rw [hL6] at hle
        have hsu := fun A m d W hm h => hst A m d (tyS (wrL p ρ)) W hm (by rw [hm, tyS_len]; omega) h
        rw [hTy] at hsu
        generalize tyS (wrL p ρ) = ty at *
        clear e1 e2 e9 f0 f1 f2 f3 hst hL6 hin6 hle hTy hcρ hρ hsk hgn hpw hbl hcw hiw
        go_wp2_with (first
          | (go_at_call 20; refine hcy.mono ?_; rintro e w18 ⟨At, ct, rfl, hit, hb18⟩)
          | (go_at_call 12; refine (hsu At _ ct _ rfl hit).mono ?_; rintro e w19 ⟨rfl, hb19⟩))
        go_roundw
        case rel => exact ⟨k + 1, by omega, by go_num, ((hD16.call hb17).call hb18).call hb19, ((hUf.thenB hb17).thenB hb18).thenB hb19⟩
        case measure => simp [intOf]; omega
    · obtain rfl : k = m := by omega
      go_wp2_with (fail)
      have hib : IB ws ws.heap.size (some ⟨g1, 0, none⟩) bs1 := fun _ => ⟨g1, 0, rfl, by omega, fun j hj => by
        rw [Nat.zero_add]
        exact (hU.cell (p := ⟨g1, j, none⟩) (by show g1 < _; omega) (by show g1 ≠ _; omega)).trans (HC.out j (by rw [N1.out]; exact hj))⟩
      refine (l_hasText _ k c1 j0 bs1 s ws ws.heap.size N1.out (by omega) hib hj0 HHT.out).mono ?_
      rintro e w20 ⟨rfl, q20, rfl⟩
      go_wp2_with (fail)
      go_ret
      exact ⟨rfl, below_drewN (b12.trans ((hU.mono (B' := w.heap.size) b12.size).below b11.size)) _⟩
end Go.Proofs.YtkiglhaeiomohaaGreat
