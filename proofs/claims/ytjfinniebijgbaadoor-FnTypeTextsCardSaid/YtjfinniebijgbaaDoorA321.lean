/- ReadType: the program's side. -/
import Derived.Test.YtjfinniebijgbaaDoorA320
namespace Go.Proofs.YtjfinniebijgbaaDoor
set_option linter.unusedVariables false
set_option linter.unusedSimpArgs false
open Go.RowKit
open Go.Lib hiding intOf

theorem spl_length (c : UInt8) : ∀ l, (spl c l).length ≤ l.length + 1
  | [] => by simp [spl]
  | b :: l => by
    have ih := spl_length c l
    have hne := List.length_pos_iff.2 (spl_ne c l)
    rw [spl]
    split
    · rw [List.length_cons, List.length_cons]; omega
    · rw [List.length_cons, List.length_tail, List.length_cons]; omega
theorem spl_smallR (c : UInt8) : ∀ l, ∀ x ∈ spl c l, x.length ≤ l.length
  | [], x, h => by simp [spl] at h; subst h; simp
  | b :: l, x, h => by
    rw [spl] at h
    split at h
    · rw [List.mem_cons] at h
      rcases h with rfl | h
      · simp
      · have := spl_smallR c l x h
        simp
        omega
    · rw [List.mem_cons] at h
      rcases h with rfl | h
      · have : ((spl c l).headD []).length ≤ l.length := by
          cases hq : spl c l with
          | nil => simp
          | cons y r => exact spl_smallR c l y (by rw [hq]; simp)
        rw [List.length_cons, List.length_cons]
        omega
      · have := spl_smallR c l x (List.mem_of_mem_tail h)
        simp
        omega
theorem tw_small {ws : List (List UInt8)} {n : Nat} (h : ∀ x ∈ ws, x.length ≤ n) (k : Nat) : (tw ws k).length ≤ n := by
  unfold tw
  rw [List.getD_eq_getElem?_getD]
  cases hq : ws[k]? with
  | none => simp
  | some x => exact h x (List.mem_of_getElem? hq)
theorem tw_snoc {f : List UInt8 → Int} {ws : List (List UInt8)} {k : Nat} (h : k < ws.length) : (ws.take (k + 1)).map f = (ws.take k).map f ++ [f (tw ws k)] := by
  rw [List.take_succ_eq_append_getElem h, List.map_append]
  simp [tw, List.getElem?_eq_getElem h]
theorem num_srcR (W : World) (x : Int) : ∀ j u, [Value.int .i64 x][j]? = some u → (W.alloc (.cells #[.int .i64 x] 2)).cell? ((⟨W.heap.size, 0, none⟩ : Addr).add j) = some u := fun j u hj => by
  rw [Go.WideShapes.add_plain, Nat.zero_add, World.cell?_alloc_at (w := W) #[.int .i64 x] _ W.heap.size j rfl]
  rcases j with _ | j
  · simpa using hj
  · simp at hj
theorem ints_sn (l : List Int) (x : Int) : ints (l ++ [x]) = ints l ++ [Value.int .i64 x] := by simp [ints]
set_option maxRecDepth 20000 in
set_option maxHeartbeats 2000000 in
theorem i_ReadType (s : ByteArray) (w : World) (hs : s.size ≤ 1048576) (hv : VW w) :
    Calls Tryd.prog 14 #[.string s] w (RS (rtyL s.data.toList) (rtyC s.data.toList) w) := by
  obtain ⟨i0, hi, hz0, hz1, hz2⟩ := info_parts infoI64
  have hsp := i_split s 46 w hs hv
  have hlen := spl_length 46 s.data.toList
  have hsm := fun k => tw_small (spl_smallR 46 s.data.toList) k
  have hsz : s.data.toList.length ≤ 1048576 := hs
  have hcy : (spl 46 s.data.toList).map rdN = cyR s.data.toList := rfl
  have hrt : rtyB s.data.toList = (typeB (cyR s.data.toList) && (jn 46 (itx (cyR s.data.toList)) == s.data.toList)) := rfl
  have hst : ∀ tx : List UInt8, ((bl tx).toList == s.toList) = (tx == s.data.toList) := fun tx => by rw [ByteArray.toList_eq, ByteArray.toList_eq, bl_toList]
  unfold rtyL rtyC
  generalize rtyB s.data.toList = rb at *
  generalize cyR s.data.toList = cy at *
  generalize spl 46 s.data.toList = ws at *
  generalize s.data.toList = l at *
  generalize hL : (if rb = true then cy else []) = L
  generalize hC : (if rb = true then (0 : Int) else 6) = cd
  have HL := Lib.hid hL
  have HC := Lib.hid hC
  clear hL hC
  unfold SPL at hsp
  have HV := Lib.hid hv
  have HCY := Lib.hid hcy
  have HRT := Lib.hid hrt
  have HST := Lib.hid hst
  clear hv hcy hrt hst
  go_enter Tryd.func14, Tryd.ntmps14
  go_wp2_with (fail)
  refine hsp.mono ?_
  rintro e w2 ⟨g, n, c, rfl, hn, o2, hb2⟩
  have HN := Lib.hid hn
  have hn2 : n ≤ 1048577 := by omega
  have hcel := fun k (h : k < n) => own_hsrc o2 ⟨g, 0, none⟩ rfl k _ (strs_at (ws := ws) (k := k) (by rw [← HN.out]; exact h))
  have HCEL := Lib.hid hcel
  have HG := Lib.hid (o2.lt g rfl).2
  clear hn hcel o2 hsp hlen
  go_wp2_with (fail)
  go_loopw [4, 12] (fun u4 u12 wr => ∃ (k c4 : Nat) (A4 : Option Addr), k ≤ n ∧ u12 = .int .i64 (k : Int) ∧ u4 = .slice A4 k c4 ∧ Hid (wr.ownsRow w2.heap.size 2 1 (.slice A4 k c4) k (ints ((ws.take k).map rdN))) ∧ Below w.heap.size w wr ∧ Below w2.heap.size w2 wr) (fun _ u12 _ => n - (intOf u12).toNat)
  case atStart => exact ⟨0, 0, none, Nat.zero_le _, rfl, rfl, World.ownsRow_nil _ _ _ _, hb2, Below.refl _ _⟩
  case round =>
    obtain ⟨wo, rfl⟩ : ∃ wo : World, wo = wr := ⟨_, rfl⟩
    obtain ⟨k, c4, A4, hk, rfl, rfl, HO, hbo, hbo2⟩ := hrel
    by_cases hlt : k < n
    · have hkw : k < ws.length := by rw [← HN.out]; exact hlt
      have e1 : w2.cell? ⟨g, k, none⟩ = some (.string (bl (tw ws k))) := by
        have h := HCEL.out k hlt
        rw [Go.WideShapes.add_plain, Nat.zero_add] at h
        exact h
      have hg2 : g < w2.heap.size := HG.out
      have e2 := (hbo2.cell (p := ⟨g, k, none⟩) hg2).trans e1
      have hrd := fun W hW => i_readDecimal (bl (tw ws k)) W (by rw [bl_size]; have := hsm k; omega) hW
      rw [bl_toList] at hrd
      have HSN := Lib.hid (tw_snoc (f := rdN) hkw)
      have HVO := Lib.hid (HV.out.below hbo)
      generalize rdN (tw ws k) = x at *
      generalize rdB (tw ws k) = b at *
      generalize bl (tw ws k) = tx at *
      clear e1
      go_wp2_with (first
        | (go_at_call 31; refine (hrd _ HVO.out).mono ?_; rintro e w5 ⟨rfl, hb5⟩)
        | (at_builtin; refine wpList_append_own _ rfl (.tmp 21) (.tmp 23) 22 rfl w2.heap.size 2 i0 (.int .i64 0) 1 8 Tryd.underlying22 hi hz0 hz1 hz2 rfl (by omega) (.slice A4 k c4) k (ints ((ws.take k).map rdN)) rfl (World.ownsRow.alloc (own_below HO.out hb5) _) ⟨w5.heap.size, 0, none⟩ 1 1 [.int .i64 x] rfl rfl (num_srcR _ _) (by intro u hu; simp at hu; subst hu; rfl) (by simp only [maxLen]; omega) (by omega) (by have h1 := (bel_call hbo2 hb5).size; simp; omega) ?_; intro v7 w7 o7 g9 _; have hb7 := ((bel_call hbo hb5).alloc ((bel_call hbo hb5).size) _).grown g9 (by have h1 := (bel_call hbo hb5).size; simp; omega) (fun g' hg' => by have h1 := ((HO.out).lt g' hg').1; have h2 := hb2.size; omega); have hb7' := ((bel_call hbo2 hb5).alloc ((bel_call hbo2 hb5).size) _).grown g9 (by have h1 := (bel_call hbo2 hb5).size; simp; omega) (fun g' hg' => ((HO.out).lt g' hg').1); obtain ⟨A7, c9, rfl, _⟩ := own_slice' o7))
      have o8 := o7
      rw [← ints_sn, ← HSN.out] at o8
      have HO8 := Lib.hid o8
      clear o7 o8
      go_roundw
      case rel => exact ⟨k + 1, c9, A7, by omega, by go_num, rfl, HO8, hb7, hb7'⟩
      case measure => simp [intOf]; omega
    · have hall : (ws.take k).map rdN = cy := by
        rw [show k = ws.length by have := HN.out; omega, List.take_length, HCY.out]
      have ho := HO.out
      rw [hall] at ho
      have hkc : k = cy.length := by rw [← hall, List.length_map, List.length_take]; have := HN.out; omega
      have hkn : (k : Int) = (n : Int) := by omega
      have his := own_isn ho hkc
      have hty := fun W B h => i_IsTypeW A4 k c4 cy W B hkc (by omega) h
      cases hb : typeB cy
      · have hrb : rb = false := by rw [HRT.out, hb]; rfl
        subst hrb
        rw [hb] at hty
        clear hb ho hall hkc
        go_wp2_with (go_at_call 23; refine (hty _ _ his).mono ?_; rintro e w5 ⟨rfl, q5, rfl⟩)
        go_ret2
        have hL : L = [] := by have h := HL.out; simpa using h.symm
        have hC : cd = 6 := by have h := HC.out; simpa using h.symm
        rw [hL, hC]
        exact RS.nil (below_drewN hbo q5)
      · have htt := fun q => i_typeText A4 k c4 cy (wo.drewN q) hkc (typeB_p hb) (his.drewN q) (fun W hW => (HV.out.below hbo).mw W (undrew hW))
        have hsq := HST.out (jn 46 (itx cy))
        have hrb : rb = (jn 46 (itx cy) == l) := by rw [HRT.out, hb]; rfl
        rw [← hrb] at hsq
        rw [hb] at hty
        have HKC := Lib.hid hkc
        have HOO := Lib.hid ho
        clear hb hrb hall hkc ho
        generalize bl (jn 46 (itx cy)) = tx at *
        cases rb
        · have hsq2 : (tx.toList != s.toList) = true := by unfold bne; rw [hsq]; rfl
          go_wp2_with (first
            | (go_at_call 23; refine (hty _ _ his).mono ?_; rintro e w5 ⟨rfl, q5, rfl⟩)
            | (go_at_call 24; refine (htt _).mono ?_; rintro e w6 ⟨rfl, hb6⟩))
          go_ret2
          have hL : L = [] := by have h := HL.out; simpa using h.symm
          have hC : cd = 6 := by have h := HC.out; simpa using h.symm
          rw [hL, hC]
          exact RS.nil (bel_call hbo (undrew hb6))
        · have hsq2 : (tx.toList != s.toList) = false := by unfold bne; rw [hsq]; rfl
          go_wp2_with (first
            | (go_at_call 23; refine (hty _ _ his).mono ?_; rintro e w5 ⟨rfl, q5, rfl⟩)
            | (go_at_call 24; refine (htt _).mono ?_; rintro e w6 ⟨rfl, hb6⟩))
          have o9 := own_mono (own_below HOO.out (undrew hb6)) hb2.size
          go_ret2
          have hL : L = cy := by have h := HL.out; simpa using h.symm
          have hC : cd = 0 := by have h := HC.out; simpa using h.symm
          rw [hL, hC]
          have hkc := HKC.out
          rw [hkc] at o9 ⊢
          exact ⟨A4, c4, rfl, o9, bel_call hbo (undrew hb6)⟩
end Go.Proofs.YtjfinniebijgbaaDoor
