/- ReadType: the reference's side. -/
import Derived.Test.YtjfinniebijgbaaDoorA321
namespace Go.Proofs.YtjfinniebijgbaaDoor
set_option linter.unusedVariables false
set_option linter.unusedSimpArgs false
open Go.RowKit
open Go.Lib hiding intOf

/-- What the reference's reader of numbers returns. -/
def NUM (b : Bool) (n : Nat) (l : List Int) (w : World) (e : Ending) (w' : World) : Prop :=
  (b = true ∧ ∃ A cap, e = .returned (.tuple #[.slice A n cap, .bool true]) ∧ w'.ownsRow w.heap.size 2 1 (.slice A n cap) n (ints l) ∧ Below w.heap.size w w') ∨
  (b = false ∧ e = .returned (.tuple #[.slice none 0 0, .bool false]) ∧ Below w.heap.size w w')
set_option maxRecDepth 20000 in
set_option maxHeartbeats 2000000 in
theorem s_l01Numbers (g n c : Nat) (ws : List (List UInt8)) (w : World) (hn : n = ws.length) (hn2 : n ≤ 1048577) (hsm : ∀ k, (tw ws k).length ≤ 1048576) (hg : g < w.heap.size) (hcel : ∀ k, k < n → w.cell? ⟨g, k, none⟩ = some (.string (bl (tw ws k)))) :
    Calls Tryd.prog 29 #[.slice (some ⟨g, 0, none⟩) n c] w (NUM (ws.all sgB) n (ws.map sgN) w) := by
  obtain ⟨i0, hi, hz0, hz1, hz2⟩ := info_parts infoI64
  have HN := Lib.hid hn
  have HCEL := Lib.hid hcel
  have hno : ∀ k, k < ws.length → sgB (tw ws k) = false → ws.all sgB = false := fun k hk h => by
    rw [Bool.eq_false_iff]
    intro ha
    have := List.all_eq_true.1 ha (tw ws k) (by simp [tw, List.getElem?_eq_getElem hk])
    rw [h] at this
    cases this
  have hyes : (∀ k, k < ws.length → sgB (tw ws k) = true) → ws.all sgB = true := fun h => by
    rw [List.all_eq_true]
    intro x hx
    obtain ⟨k, hk, e⟩ := List.mem_iff_getElem.1 hx
    have := h k hk
    simpa [tw, List.getElem?_eq_getElem hk, e] using this
  have HNO := Lib.hid hno
  have HYES := Lib.hid hyes
  have ho0 : (w.alloc (.cells #[] 2)).ownsRow w.heap.size 2 1 (.slice (some ⟨w.heap.size, 0, none⟩) 0 0) 0 [] := World.ownsRow_lit (base := w.heap.size) (e := 2) (size := 1) w #[] 0 (Nat.le_refl _) (by simp [maxLen]) rfl
  clear hn hcel hno hyes
  generalize hal : ws.all sgB = al at *
  clear hal
  go_enter Tryd.func29, Tryd.ntmps29
  go_wp2_with (fail)
  go_loopw [4, 5] (fun u4 u5 wr => ∃ (k g4 c4 : Nat), k ≤ n ∧ u5 = .int .i64 (k : Int) ∧ u4 = .slice (some ⟨g4, 0, none⟩) k c4 ∧ Hid (wr.ownsRow w.heap.size 2 1 (.slice (some ⟨g4, 0, none⟩) k c4) k (ints ((ws.take k).map sgN))) ∧ Hid (∀ j, j < k → sgB (tw ws j) = true) ∧ Below w.heap.size w wr) (fun _ u5 _ => n - (intOf u5).toNat)
  case atStart => exact ⟨0, w.heap.size, 0, Nat.zero_le _, rfl, rfl, ho0, fun j hj => by omega, (Below.refl _ _).alloc (Nat.le_refl _) _⟩
  case round =>
    clear ho0
    obtain ⟨wo, rfl⟩ : ∃ wo : World, wo = wr := ⟨_, rfl⟩
    obtain ⟨k, g4, c4, hk, rfl, rfl, HO, HP, hbo⟩ := hrel
    by_cases hlt : k < n
    · have hkw : k < ws.length := by rw [← HN.out]; exact hlt
      have e2 := (hbo.cell (p := ⟨g, k, none⟩) hg).trans (HCEL.out k hlt)
      have hrd := fun W => s_l01Signed (bl (tw ws k)) W (by rw [bl_size]; exact hsm k)
      unfold SB at hrd
      rw [bl_toList] at hrd
      have HSN := Lib.hid (tw_snoc (f := sgN) hkw)
      have HNK := Lib.hid (HNO.out k hkw)
      cases hb : sgB (tw ws k)
      · have HF := Lib.hid (HNK.out hb)
        rw [hb] at hrd
        clear hb
        generalize sgN (tw ws k) = x at *
        generalize bl (tw ws k) = tx at *
        go_wp2_with (first
          | (go_at_call 46; refine (hrd _).mono ?_; rintro e w5 ⟨v, rfl, hvv, hb5⟩; clear hvv))
        go_ret2
        exact .inr ⟨HF.out, rfl, bel_call hbo hb5⟩
      · have HP2 : Hid (∀ j, j < k + 1 → sgB (tw ws j) = true) := fun j hj => by
          by_cases h : j = k
          · subst h; exact hb
          · exact HP.out j (by omega)
        rw [hb] at hrd
        clear hb
        generalize sgN (tw ws k) = x at *
        generalize bl (tw ws k) = tx at *
        go_wp2_with (first
          | (go_at_call 46; refine (hrd _).mono ?_; rintro e w5 ⟨v, rfl, hvv, hb5⟩; have HVV := Lib.hid (hvv rfl); clear hvv)
          | (at_builtin; refine wpList_append_own _ rfl (.tmp 25) (.tmp 27) 22 rfl w.heap.size 2 i0 (.int .i64 0) 1 8 Tryd.underlying22 hi hz0 hz1 hz2 rfl (by omega) (.slice (some ⟨g4, 0, none⟩) k c4) k (ints ((ws.take k).map sgN)) rfl (World.ownsRow.alloc (own_below HO.out hb5) _) ⟨w5.heap.size, 0, none⟩ 1 1 [.int .i64 v] rfl rfl (num_srcR _ _) (by intro u hu; simp at hu; subst hu; rfl) (by simp only [maxLen]; omega) (by omega) (by have h1 := (bel_call hbo hb5).size; simp; omega) ?_; intro v7 w7 o7 g9 _; have hb7 := ((bel_call hbo hb5).alloc ((bel_call hbo hb5).size) _).grown g9 (by have h1 := (bel_call hbo hb5).size; simp; omega) (fun g' hg' => ((HO.out).lt g' hg').1); obtain ⟨A7, c9, rfl, _⟩ := own_slice' o7; obtain ⟨g8, rfl, _⟩ := own_src o7 (by omega)))
        have o8 := o7
        rw [HVV.out, ← ints_sn, ← HSN.out] at o8
        have HO8 := Lib.hid o8
        clear o7 o8
        go_roundw
        case rel => exact ⟨k + 1, g8, c9, by omega, by go_num, rfl, HO8, HP2.out, hb7⟩
        case measure => simp [intOf]; omega
    · have hall : (ws.take k).map sgN = ws.map sgN := by rw [show k = ws.length by have := HN.out; omega, List.take_length]
      have ho := HO.out
      rw [hall] at ho
      have HOO := Lib.hid ho
      have HT := Lib.hid (HYES.out fun j hj => HP.out j (by have := HN.out; omega))
      clear ho hall
      obtain rfl : k = n := by omega
      go_wp2_with (fail)
      go_ret2
      exact .inl ⟨HT.out, _, _, rfl, HOO.out, hbo⟩
set_option maxRecDepth 20000 in
set_option maxHeartbeats 2000000 in
theorem s_ReadType (s : ByteArray) (w : World) (hs : s.size ≤ 1048576) :
    Calls Tryd.prog 13 #[.string s] w (RS (rtyL s.data.toList) (rtyC s.data.toList) w) := by
  have hsp : Calls Tryd.prog 30 #[.string s, .int .u8 46] w (SPL (spl 46 s.data.toList) w) := s_split s 46 w hs
  have hlen := spl_length 46 s.data.toList
  have hsz : s.data.toList.length ≤ 1048576 := hs
  have hsm := fun k => Nat.le_trans (tw_small (spl_smallR 46 s.data.toList) k) hsz
  have hou : (spl 46 s.data.toList).map sgN = ouS s.data.toList := rfl
  have hrt := rty_ou s.data.toList
  have hcy := cy_ou (l := s.data.toList)
  have hst : ∀ tx : List UInt8, ((bl tx).toList == s.toList) = (tx == s.data.toList) := fun tx => by rw [ByteArray.toList_eq, ByteArray.toList_eq, bl_toList]
  unfold rtyL rtyC
  generalize rtyB s.data.toList = rb at *
  generalize cyR s.data.toList = cy at *
  generalize ouS s.data.toList = ou at *
  generalize spl 46 s.data.toList = ws at *
  generalize s.data.toList = l at *
  generalize hL : (if rb = true then cy else []) = L
  generalize hC : (if rb = true then (0 : Int) else 6) = cd
  have HL := Lib.hid hL
  have HC := Lib.hid hC
  clear hL hC
  unfold SPL at hsp
  have HOU := Lib.hid hou
  have HRT := Lib.hid hrt
  have HST := Lib.hid hst
  have HCY := Lib.hid hcy
  clear hou hrt hst hcy
  have hnum := fun g n c W hn hn2 hg hc => s_l01Numbers g n c ws W hn hn2 hsm hg hc
  unfold NUM at hnum
  rw [HOU.out] at hnum
  cases hal : ws.all sgB
  · rw [hal] at hnum
    have hrb : rb = false := by rw [HRT.out, hal]; rfl
    subst hrb
    clear hal
    go_enter Tryd.func13, Tryd.ntmps13
    go_wp2_with (first
      | (go_at_call 30; refine hsp.mono ?_; rintro e w2 ⟨g, n, c, rfl, hn, o2, hb2⟩; have HNN := Lib.hid hn; have HO2 := Lib.hid o2; clear hn o2)
      | (go_at_call 29; refine (hnum g n c w2 HNN.out (by have := HNN.out; omega) (HO2.out.lt g rfl).2 (fun k hk => by have h := own_hsrc HO2.out ⟨g, 0, none⟩ rfl k _ (strs_at (ws := ws) (k := k) (by rw [← HNN.out]; exact hk)); rw [Go.WideShapes.add_plain, Nat.zero_add] at h; exact h)).mono ?_; rintro e w3 (⟨h9, _⟩ | ⟨_, rfl, hb3⟩); · cases h9))
    go_ret2
    have hL : L = [] := by have h := HL.out; simpa using h.symm
    have hC : cd = 6 := by have h := HC.out; simpa using h.symm
    rw [hL, hC]
    exact RS.nil (bel_call hb2 hb3)
  · rw [hal] at hnum
    have HEQ := Lib.hid (HCY.out hal)
    have hrb : rb = (typeB ou && (jn 46 (itx ou) == l)) := by rw [HRT.out, hal]; rfl
    have HRB := Lib.hid hrb
    clear hal hrb
    have hty := fun A4 k c4 W B h1 h2 h => s_IsTypeW A4 k c4 ou W B h1 h2 h
    have HLEN := Lib.hid (show ws.length = ou.length by rw [← HOU.out, List.length_map])
    have hlen2 : ws.length ≤ 1048577 := by omega
    go_enter Tryd.func13, Tryd.ntmps13
    go_wp2_with (fail)
    refine hsp.mono ?_
    rintro e w2 ⟨g, n, c, rfl, hn, o2, hb2⟩
    have HNN := Lib.hid hn
    have HO2 := Lib.hid o2
    have hn2 : n ≤ 1048577 := by omega
    clear hn o2 hsp
    go_wp2_with (fail)
    refine (hnum g n c w2 HNN.out (by have := HNN.out; omega) (HO2.out.lt g rfl).2 (fun k hk => by have h := own_hsrc HO2.out ⟨g, 0, none⟩ rfl k _ (strs_at (ws := ws) (k := k) (by rw [← HNN.out]; exact hk)); rw [Go.WideShapes.add_plain, Nat.zero_add] at h; exact h)).mono ?_
    rintro e w3 (⟨_, A3, c3, rfl, o3, hb3⟩ | ⟨h9, _⟩)
    · have hkc : n = ou.length := by rw [HNN.out, HLEN.out]
      have his := own_isn o3 hkc
      have ht1 := hty A3 n c3 w3 w3.heap.size hkc (by omega) his
      have hb03 := bel_call hb2 hb3
      cases hb : typeB ou
      · have hr : rb = false := by rw [HRB.out, hb]; rfl
        subst hr
        rw [hb] at ht1
        clear hb hkc o3 hnum hty
        go_wp2_with (go_at_call 21; refine ht1.mono ?_; rintro e w5 ⟨rfl, q5, rfl⟩)
        go_ret2
        have hL : L = [] := by have h := HL.out; simpa using h.symm
        have hC : cd = 6 := by have h := HC.out; simpa using h.symm
        rw [hL, hC]
        exact RS.nil (below_drewN hb03 q5)
      · have htt := fun q => s_l01Join A3 n c3 ou (w3.drewN q) hkc (typeB_p hb) (his.drewN q)
        have hsq := HST.out (jn 46 (itx ou))
        have hr : rb = (jn 46 (itx ou) == l) := by rw [HRB.out, hb]; rfl
        rw [← hr] at hsq
        rw [hb] at ht1
        have HKC := Lib.hid hkc
        have HOO := Lib.hid o3
        clear hb hr hkc o3 hnum hty
        generalize bl (jn 46 (itx ou)) = tx at *
        cases rb
        · have hsq2 : (tx.toList != s.toList) = true := by unfold bne; rw [hsq]; rfl
          go_wp2_with (first
            | (go_at_call 21; refine ht1.mono ?_; rintro e w5 ⟨rfl, q5, rfl⟩)
            | (go_at_call 22; refine (htt _).mono ?_; rintro e w6 ⟨rfl, hb6⟩))
          go_ret2
          have hL : L = [] := by have h := HL.out; simpa using h.symm
          have hC : cd = 6 := by have h := HC.out; simpa using h.symm
          rw [hL, hC]
          exact RS.nil (bel_call hb03 (undrew hb6))
        · have hsq2 : (tx.toList != s.toList) = false := by unfold bne; rw [hsq]; rfl
          go_wp2_with (first
            | (go_at_call 21; refine ht1.mono ?_; rintro e w5 ⟨rfl, q5, rfl⟩)
            | (go_at_call 22; refine (htt _).mono ?_; rintro e w6 ⟨rfl, hb6⟩))
          have o9 := own_mono (own_below HOO.out (undrew hb6)) hb2.size
          go_ret2
          have hL : L = cy := by have h := HL.out; simpa using h.symm
          have hC : cd = 0 := by have h := HC.out; simpa using h.symm
          rw [hL, hC, HEQ.out]
          have hkc := HKC.out
          rw [hkc] at o9 ⊢
          exact ⟨A3, c3, rfl, o9, bel_call hb03 (undrew hb6)⟩
    · cases h9
end Go.Proofs.YtjfinniebijgbaaDoor
