/- IsConsoleLine: both sides and the law. -/
import Derived.Test.YtjfinniebijgbaaDoorA314
namespace Go.Proofs.YtjfinniebijgbaaDoor
set_option linter.unusedVariables false
set_option linter.unusedSimpArgs false
open Go.RowKit
open Go.Lib hiding intOf

def wB (k : UInt8) (x : List UInt8) : Bool := if k = 73 then numB x else if k = 74 then sgB x else true
def bw (K : List UInt8) (k : Nat) : UInt8 := K.getD k 0
def wdA (K : List UInt8) (ws : List (List UInt8)) (k : Nat) : Bool := wB (bw K k) (tw ws (k + 1))
def linB (ws : List (List UInt8)) : Bool := match kd (tw ws 0) with
  | none => false
  | some K => decide (ws.length = K.length + 1) && (List.range K.length).all fun k => wdA K ws k
theorem linB_none {ws : List (List UInt8)} (h : kd (tw ws 0) = none) : linB ws = false := by unfold linB; rw [h]
theorem linB_len {ws : List (List UInt8)} {K : List UInt8} (h : kd (tw ws 0) = some K) (hl : ws.length ≠ K.length + 1) : linB ws = false := by
  unfold linB
  rw [h]
  simp only []
  rw [decide_eq_false hl]
  rfl
theorem linB_no {ws : List (List UInt8)} {K : List UInt8} {k : Nat} (h : kd (tw ws 0) = some K) (hk : k < K.length) (hw : wdA K ws k = false) : linB ws = false := by
  unfold linB
  rw [h]
  simp only []
  rw [Bool.and_eq_false_iff]
  refine .inr ?_
  rw [Bool.eq_false_iff]
  intro ha
  rw [List.all_eq_true] at ha
  have := ha k (List.mem_range.2 hk)
  rw [hw] at this
  cases this
theorem linB_yes {ws : List (List UInt8)} {K : List UInt8} (h : kd (tw ws 0) = some K) (hl : ws.length = K.length + 1) (hw : ∀ k, k < K.length → wdA K ws k = true) : linB ws = true := by
  unfold linB
  rw [h]
  simp only []
  rw [decide_eq_true hl, Bool.true_and, List.all_eq_true]
  exact fun k hk => hw k (List.mem_range.1 hk)
theorem kd_kinds {l K : List UInt8} (h : kd l = some K) : K.length ≤ 3 ∧ K ≠ [45] ∧ ∀ k, k < K.length → bw K k = 73 ∨ bw K k = 74 ∨ bw K k = 84 := by
  have hm := kd_one h
  simp only [List.mem_cons, List.not_mem_nil, or_false] at hm
  rcases hm with rfl | rfl | rfl | rfl | rfl <;> refine ⟨by decide, by decide, ?_⟩ <;> intro k hk
  · match k, hk with
    | 0, _ => exact .inl rfl
    | 1, _ => exact .inl rfl
  · match k, hk with
    | 0, _ => exact .inr (.inr rfl)
  · match k, hk with
    | 0, _ => exact .inl rfl
  · match k, hk with
    | 0, _ => exact .inl rfl
    | 1, _ => exact .inr (.inl rfl)
    | 2, _ => exact .inr (.inl rfl)
  · simp at hk
theorem bl_at {K : List UInt8} {k : Nat} (h : k < (bl K).size) : (bl K)[k] = bw K k := by
  have h' : k < K.length := by rw [bl_size] at h; exact h
  show K.toArray[k] = _
  simp [bw, List.getElem?_eq_getElem h']
theorem spl_small (c : UInt8) : ∀ l, ∀ x ∈ spl c l, x.length ≤ l.length
  | [], x, h => by simp [spl] at h; subst h; simp
  | b :: l, x, h => by
    rw [spl] at h
    split at h
    · rw [List.mem_cons] at h
      rcases h with rfl | h
      · simp
      · have := spl_small c l x h
        simp
        omega
    · rw [List.mem_cons] at h
      rcases h with rfl | h
      · have : ((spl c l).headD []).length ≤ l.length := by
          cases hq : spl c l with
          | nil => simp
          | cons y r => exact spl_small c l y (by rw [hq]; simp)
        rw [List.length_cons, List.length_cons]
        omega
      · have := spl_small c l x (List.mem_of_mem_tail h)
        simp
        omega
theorem getD_small {ws : List (List UInt8)} {n : Nat} (h : ∀ x ∈ ws, x.length ≤ n) (k : Nat) : (tw ws k).length ≤ n := by
  unfold tw
  rw [List.getD_eq_getElem?_getD]
  cases hq : ws[k]? with
  | none => simp
  | some x => exact h x (List.mem_of_getElem? hq)
/-- A word of any kind. -/
theorem i_word (k : UInt8) (x : List UInt8) (w : World) (hk : k = 73 ∨ k = 74 ∨ k = 84) (hx : x.length ≤ 1048576) (hv : VW w) :
    Calls Tryd.prog 28 #[.int .u8 (k.toNat : Int), .string (bl x)] w (M (.bool (wB k x)) w) := by
  have hs : (bl x).size ≤ 1048576 := by rw [bl_size]; exact hx
  rcases hk with rfl | rfl | rfl
  · have h := i_wordI (bl x) w hs hv
    rw [bl_toList] at h
    exact h
  · have h := i_wordJ (bl x) w hs hv
    rw [bl_toList] at h
    exact h
  · exact i_wordT (bl x) w
set_option maxRecDepth 20000 in
set_option maxHeartbeats 1000000 in
theorem i_IsConsoleLine (s : ByteArray) (w : World) (hs : s.size ≤ 1048576) (hv : VW w) :
    Calls Tryd.prog 12 #[.string s] w (M (.bool (linB (spl 32 s.data.toList))) w) := by
  have hsp := i_split s 32 w hs hv
  have hsm := spl_small 32 s.data.toList
  have hne := spl_ne 32 s.data.toList
  have hsz : s.data.toList.length ≤ 1048576 := hs
  generalize spl 32 s.data.toList = ws at *
  have hsm' := fun k => getD_small hsm k
  have hl0 : 0 < ws.length := List.length_pos_iff.2 hne
  have hkd := fun W => i_kinds (bl (tw ws 0)) W
  rw [bl_toList] at hkd
  unfold SPL at hsp
  have HV := Lib.hid hv
  clear hsm hne hv
  cases hk : kd (tw ws 0) with
  | none =>
    rw [linB_none hk]
    rw [hk] at hkd
    clear hk
    go_enter Tryd.func12, Tryd.ntmps12
    go_wp2_with (first
      | (go_at_call 26; refine hsp.mono ?_; rintro e w2 ⟨g, n, c, rfl, hn, o2, hb2⟩; have hn0 : 0 < n := (by omega); have hc0 := own_hsrc o2 ⟨g, 0, none⟩ rfl 0 _ (strs_at hl0); rw [Go.WideShapes.add_plain] at hc0; clear hn o2)
      | (go_at_call 27; refine (hkd _).mono ?_; rintro e w3 ⟨rfl, q3, rfl⟩))
    go_ret
    exact ⟨rfl, below_drewN hb2 _⟩
  | some K =>
    obtain ⟨hK3, _, hKk⟩ := kd_kinds hk
    rw [hk] at hkd
    simp only [Option.getD_some, Option.isSome_some] at hkd
    have hks := bl_size K
    have hka := fun k (h : k < (bl K).size) => bl_at h
    generalize bl K = kk at *
    by_cases hln : ws.length = K.length + 1
    · have HY := Lib.hid (linB_yes hk hln)
      have HNO := Lib.hid (fun k => linB_no (k := k) hk)
      have HLN := Lib.hid hln
      have HKK := Lib.hid hKk
      have HKS := Lib.hid hks
      have hkl : kk.size ≤ 3 := by omega
      clear hk hKk hln hks
      go_enter Tryd.func12, Tryd.ntmps12
      go_wp2_with (fail)
      refine hsp.mono ?_
      rintro e w2 ⟨g, n, c, rfl, hn, o2, hb2⟩
      have hc0 := own_hsrc o2 ⟨g, 0, none⟩ rfl 0 _ (strs_at hl0)
      rw [Go.WideShapes.add_plain] at hc0
      have hcap : n ≤ c := by
        obtain ⟨A', c', he, h⟩ := own_slice' o2
        injection he with _ _ he
        omega
      have hn1 : n = kk.size + 1 := by rw [hn, HLN.out, HKS.out]
      have HN1 := Lib.hid hn1
      have hn0 : 0 < n := by omega
      have hnn : ((n : Int) != ((kk.size : Int) + 1)) = false := by unfold bne; rw [show ((n : Int) == ((kk.size : Int) + 1)) = true from by rw [beq_iff_eq]; omega]; rfl
      have hnm : ((n - 1 : Nat) : Int) = (kk.size : Int) := by omega
      have hcel := fun k (h : k < kk.size) => own_hsrc o2 ⟨g, 0, none⟩ rfl (k + 1) _ (strs_at (ws := ws) (k := k + 1) (by have := HLN.out; have := HKS.out; omega))
      have HCEL := Lib.hid hcel
      have HG := Lib.hid (o2.lt g rfl).2
      have HSP := Lib.hid hsm'
      clear hn hn1 hcel o2 hsp hsm'
      by_cases hc1 : c = 1
      · subst hc1
        have hk0 : kk.size = 0 := by omega
        obtain rfl : n = 1 := by omega
        have HK0 := Lib.hid (show K.length = 0 by have := HKS.out; omega)
        clear hk0 hnn hnm
        have hnn : ((1 : Int) != ((kk.size : Int) + 1)) = false := by rw [← HKS.out] at HK0; rw [HK0.out]; rfl
        have HYY := Lib.hid (HY.out fun j hj => by have := HK0.out; omega)
        go_wp2_with (go_at_call 27; refine (hkd _).mono ?_; rintro e w3 ⟨rfl, q3, rfl⟩)
        go_loopw [30] (fun u30 wr => u30 = .int .i64 0 ∧ Below w.heap.size w wr) (fun _ _ => 0)
        case atStart => exact ⟨rfl, below_drewN hb2 q3⟩
        case round =>
          obtain ⟨rfl, hbo⟩ := hrel
          go_wp2_with (fail)
          go_ret
          exact ⟨ret_bool HYY.out.symm, hbo⟩
      · go_wp2_with (go_at_call 27; refine (hkd _).mono ?_; rintro e w3 ⟨rfl, q3, rfl⟩)
        have hb23 : Below w2.heap.size w2 (w2.drewN q3) := below_drewN (Below.refl _ _) q3
        have hb03 : Below w.heap.size w (w2.drewN q3) := below_drewN hb2 q3
        go_loopw [30] (fun u30 wr => ∃ k : Nat, k ≤ kk.size ∧ u30 = .int .i64 (k : Int) ∧ Hid (∀ j, j < k → wdA K ws j = true) ∧ Below w.heap.size w wr ∧ Below w2.heap.size w2 wr) (fun u30 _ => kk.size - (intOf u30).toNat)
        case atStart => exact ⟨0, Nat.zero_le _, rfl, fun j hj => by omega, hb03, hb23⟩
        case round =>
          obtain ⟨wo, rfl⟩ : ∃ wo : World, wo = wr := ⟨_, rfl⟩
          obtain ⟨k, hkk', rfl, HP, hbo, hbo2⟩ := hrel
          by_cases hlt : k < kk.size
          · have hkK : k < K.length := by rw [← HKS.out]; exact hlt
            have e1 : w2.cell? ⟨g, 1 + k, none⟩ = some (.string (bl (tw ws (k + 1)))) := by
              have h := HCEL.out k hlt
              rw [Go.WideShapes.add_plain, Nat.zero_add] at h
              rw [Nat.add_comm 1 k]
              exact h
            have hg2 : g < w2.heap.size := HG.out
            have e2 := (hbo2.cell (p := ⟨g, 1 + k, none⟩) hg2).trans e1
            have hbk := hka k hlt
            have hwd := fun W hW => i_word (bw K k) (tw ws (k + 1)) W (HKK.out k hkK) (Nat.le_trans (HSP.out (k + 1)) hsz) hW
            have HVO := Lib.hid (HV.out.below hbo)
            cases hw : wB (bw K k) (tw ws (k + 1))
            · have HF := Lib.hid (HNO.out k hkK hw)
              rw [hw] at hwd
              clear hw e1
              go_wp2_with (go_at_call 28; refine (hwd _ HVO.out).mono ?_; rintro e w5 ⟨rfl, hb5⟩)
              go_ret
              exact ⟨ret_bool HF.out.symm, bel_call hbo hb5⟩
            · have HP2 : Hid (∀ j, j < k + 1 → wdA K ws j = true) := fun j hj => by
                by_cases h : j = k
                · subst h; exact hw
                · exact HP.out j (by omega)
              rw [hw] at hwd
              clear hw e1
              go_wp2_with (go_at_call 28; refine (hwd _ HVO.out).mono ?_; rintro e w5 ⟨rfl, hb5⟩)
              go_roundw
              case rel => exact ⟨k + 1, by omega, by go_num, HP2.out, bel_call hbo hb5, bel_call hbo2 hb5⟩
              case measure => simp [intOf]; omega
          · have HYY := Lib.hid (HY.out fun j hj => HP.out j (by have := HKS.out; omega))
            obtain rfl : k = kk.size := by omega
            go_wp2_with (fail)
            go_ret
            exact ⟨ret_bool HYY.out.symm, hbo⟩
    · have HNO := Lib.hid (linB_len hk hln)
      have HLN := Lib.hid hln
      have HKS := Lib.hid hks
      have hkl : kk.size ≤ 3 := by omega
      clear hk hKk hln hks hka
      go_enter Tryd.func12, Tryd.ntmps12
      go_wp2_with (fail)
      refine hsp.mono ?_
      rintro e w2 ⟨g, n, c, rfl, hn, o2, hb2⟩
      have hc0 := own_hsrc o2 ⟨g, 0, none⟩ rfl 0 _ (strs_at hl0)
      rw [Go.WideShapes.add_plain] at hc0
      have hn0 : 0 < n := by omega
      have hnn : ((n : Int) != ((kk.size : Int) + 1)) = true := by
        have h1 := HLN.out
        have h2 := HKS.out
        unfold bne
        rw [show ((n : Int) == ((kk.size : Int) + 1)) = false from by rw [beq_eq_false_iff_ne]; omega]
        rfl
      clear hn o2
      go_wp2_with (go_at_call 27; refine (hkd _).mono ?_; rintro e w3 ⟨rfl, q3, rfl⟩)
      go_ret
      exact ⟨ret_bool HNO.out.symm, below_drewN hb2 _⟩
/-- What the reference's parser returns, as far as it counts. -/
def PRS (b : Bool) (w : World) (e : Ending) (w' : World) : Prop := ∃ x y : Value, e = .returned (.tuple #[x, y, .bool b]) ∧ Below w.heap.size w w'
theorem num_src (W : World) (x : Int) : ∀ j u, [Value.int .i64 x][j]? = some u → (W.alloc (.cells #[.int .i64 x] 2)).cell? ((⟨W.heap.size, 0, none⟩ : Addr).add j) = some u := fun j u hj => by
  rw [Go.WideShapes.add_plain, Nat.zero_add, World.cell?_alloc_at (w := W) #[.int .i64 x] _ W.heap.size j rfl]
  rcases j with _ | j
  · simpa using hj
  · simp at hj
theorem s_word1 (x : List UInt8) (w : World) (hx : x.length ≤ 1048576) : Calls Tryd.prog 45 #[.string (bl x)] w (fun e w' => ∃ v : Int, e = .returned (.tuple #[.int .i64 v, .bool (wB 73 x)]) ∧ Below w.heap.size w w') := by
  refine (s_l01Value (bl x) w (by rw [bl_size]; exact hx)).mono ?_
  rintro e w' ⟨v, rfl, _, _, hb⟩
  rw [bl_toList]
  exact ⟨v, rfl, hb⟩
theorem s_word2 (x : List UInt8) (w : World) (hx : x.length ≤ 1048576) : Calls Tryd.prog 46 #[.string (bl x)] w (fun e w' => ∃ v : Int, e = .returned (.tuple #[.int .i64 v, .bool (wB 74 x)]) ∧ Below w.heap.size w w') := by
  refine (s_l01Signed (bl x) w (by rw [bl_size]; exact hx)).mono ?_
  rintro e w' ⟨v, rfl, _, hb⟩
  rw [bl_toList]
  exact ⟨v, rfl, hb⟩
set_option maxRecDepth 20000 in
set_option maxHeartbeats 2000000 in
theorem s_parse (s : ByteArray) (w : World) (hs : s.size ≤ 1048576) :
    Calls Tryd.prog 25 #[.string s] w (PRS (linB (spl 32 s.data.toList)) w) := by
  obtain ⟨i0, hi, hz0, hz1, hz2⟩ := info_parts infoI64
  have hsp : Calls Tryd.prog 30 #[.string s, .int .u8 32] w (SPL (spl 32 s.data.toList) w) := s_split s 32 w hs
  have hsm := spl_small 32 s.data.toList
  have hne := spl_ne 32 s.data.toList
  have hsz : s.data.toList.length ≤ 1048576 := hs
  generalize spl 32 s.data.toList = ws at *
  have hsm' := fun k => getD_small hsm k
  have hl0 : 0 < ws.length := List.length_pos_iff.2 hne
  have hkd := fun W => s_kinds (bl (tw ws 0)) W
  rw [bl_toList] at hkd
  unfold SPL at hsp
  clear hsm hne
  cases hk : kd (tw ws 0) with
  | none =>
    rw [hk] at hkd
    simp only [Option.getD_none] at hkd
    have hkt : ((bl [45]).toList == [45]) = true := by rw [ByteArray.toList_eq, bl_toList]; rfl
    generalize bl [45] = kk at *
    have HF := Lib.hid (linB_none hk)
    clear hk
    go_enter Tryd.func25, Tryd.ntmps25
    go_wp2_with (fail)
    refine hsp.mono ?_
    rintro e w2 ⟨g, n, c, rfl, hn, o2, hb2⟩
    have hc0 := own_hsrc o2 ⟨g, 0, none⟩ rfl 0 _ (strs_at hl0)
    rw [Go.WideShapes.add_plain] at hc0
    have hn0 : 0 < n := by omega
    clear hn o2
    go_wp2_with (go_at_call 44; refine (hkd _).mono ?_; rintro e w3 ⟨rfl, q3, rfl⟩)
    go_ret3
    exact ⟨_, _, (by rw [HF.out]; rfl), below_drewN hb2 _⟩
  | some K =>
    obtain ⟨hK3, hK45, hKk⟩ := kd_kinds hk
    rw [hk] at hkd
    simp only [Option.getD_some] at hkd
    have hks := bl_size K
    have hka := fun k (h : k < (bl K).size) => bl_at h
    have hkt : ((bl K).toList == [45]) = false := by rw [ByteArray.toList_eq, bl_toList, beq_eq_false_iff_ne]; exact hK45
    generalize bl K = kk at *
    by_cases hln : ws.length = K.length + 1
    · have HY := Lib.hid (linB_yes hk hln)
      have HNO := Lib.hid (fun k => linB_no (k := k) hk)
      have HLN := Lib.hid hln
      have HKK := Lib.hid hKk
      have HKS := Lib.hid hks
      have hkl : kk.size ≤ 3 := by omega
      clear hk hKk hln hks
      go_enter Tryd.func25, Tryd.ntmps25
      go_wp2_with (fail)
      refine hsp.mono ?_
      rintro e w2 ⟨g, n, c, rfl, hn, o2, hb2⟩
      have hc0 := own_hsrc o2 ⟨g, 0, none⟩ rfl 0 _ (strs_at hl0)
      rw [Go.WideShapes.add_plain] at hc0
      have hn1 : n = kk.size + 1 := by rw [hn, HLN.out, HKS.out]
      have HN1 := Lib.hid hn1
      have hn0 : 0 < n := by omega
      have hnn : ((n : Int) != ((kk.size : Int) + 1)) = false := by unfold bne; rw [show ((n : Int) == ((kk.size : Int) + 1)) = true from by rw [beq_iff_eq]; omega]; rfl
      have hcel := fun k (h : k < kk.size) => own_hsrc o2 ⟨g, 0, none⟩ rfl (k + 1) _ (strs_at (ws := ws) (k := k + 1) (by have := HLN.out; have := HKS.out; omega))
      have HCEL := Lib.hid hcel
      have HG := Lib.hid (o2.lt g rfl).2
      have HSP := Lib.hid hsm'
      clear hn hn1 hcel o2 hsp hsm'
      go_wp2_with (go_at_call 44; refine (hkd _).mono ?_; rintro e w3 ⟨rfl, q3, rfl⟩)
      have hb03 : Below w.heap.size w ((w2.drewN q3).alloc (.cells #[] 2)) := (below_drewN hb2 q3).alloc hb2.size _
      have hb23 : Below w2.heap.size w2 ((w2.drewN q3).alloc (.cells #[] 2)) := (below_drewN (Below.refl _ _) q3).alloc (Nat.le_refl _) _
      have ho0 : ((w2.drewN q3).alloc (.cells #[] 2)).ownsRow w2.heap.size 2 1 (.slice (some ⟨w2.heap.size, 0, none⟩) 0 0) 0 [] := World.ownsRow_lit (base := w2.heap.size) (e := 2) (size := 1) (w2.drewN q3) #[] 0 (Nat.le_refl _) (by simp [maxLen]) rfl
      go_loopw [7, 8] (fun u7 u8 wr => ∃ (i g7 c7 : Nat) (ns : List Int), i ≤ kk.size ∧ u8 = .int .i64 (i : Int) ∧ u7 = .slice (some ⟨g7, 0, none⟩) i c7 ∧ Hid (wr.ownsRow w2.heap.size 2 1 (.slice (some ⟨g7, 0, none⟩) i c7) i (ints ns)) ∧ Hid (∀ j, j < i → wdA K ws j = true) ∧ Below w.heap.size w wr ∧ Below w2.heap.size w2 wr) (fun _ u8 _ => kk.size - (intOf u8).toNat)
      case atStart => exact ⟨0, w2.heap.size, 0, [], Nat.zero_le _, rfl, rfl, ho0, fun j hj => by omega, hb03, hb23⟩
      case round =>
        clear ho0 hb03 hb23
        obtain ⟨wo, rfl⟩ : ∃ wo : World, wo = wr := ⟨_, rfl⟩
        obtain ⟨i, g7, c7, ns, hik, rfl, rfl, HO, HP, hbo, hbo2⟩ := hrel
        by_cases hlt : i < kk.size
        · have hiK : i < K.length := by rw [← HKS.out]; exact hlt
          have hi1 : (i : Int) + 1 < (n : Int) := by have := HN1.out; omega
          have e1 : w2.cell? ⟨g, i + 1, none⟩ = some (.string (bl (tw ws (i + 1)))) := by
            have h := HCEL.out i hlt
            rw [Go.WideShapes.add_plain, Nat.zero_add] at h
            exact h
          have hg2 : g < w2.heap.size := HG.out
          have e2 := (hbo2.cell (p := ⟨g, i + 1, none⟩) hg2).trans e1
          rcases HKK.out i hiK with hbk | hbk | hbk
          · skip
            have hk1 : ((bw K i).toNat : Int) = 73 := by rw [hbk]; rfl
            have hwx : wdA K ws i = wB 73 (tw ws (i + 1)) := by unfold wdA; rw [hbk]
            have hcall := fun W => s_word1 (tw ws (i + 1)) W (Nat.le_trans (HSP.out (i + 1)) hsz)
            cases hw : wB 73 (tw ws (i + 1))
            · have HF := Lib.hid (HNO.out i hiK (hwx.trans hw))
              rw [hw] at hcall
              clear hw hwx hbk
              go_wp2_with (go_at_call 45; refine (hcall _).mono ?_; rintro e w5 ⟨v, rfl, hb5⟩)
              go_ret3
              exact ⟨_, _, (by rw [HF.out]; rfl), bel_call hbo hb5⟩
            · have HP2 : Hid (∀ j, j < i + 1 → wdA K ws j = true) := fun j hj => by
                by_cases h : j = i
                · subst h; exact hwx.trans hw
                · exact HP.out j (by omega)
              rw [hw] at hcall
              clear hw hwx hbk
              go_wp2_with (first
                | (go_at_call 45; refine (hcall _).mono ?_; rintro e w5 ⟨v, rfl, hb5⟩)
                | (at_builtin; go_loud (refine wpList_append_own _ rfl (.tmp 61) (.tmp 63) 22 rfl w2.heap.size 2 i0 (.int .i64 0) 1 8 Tryd.underlying22 hi hz0 hz1 hz2 rfl (by omega) (.slice (some ⟨g7, 0, none⟩) i c7) i (ints ns) rfl (World.ownsRow.alloc (own_below HO.out hb5) _) ⟨(w5).heap.size, 0, none⟩ 1 1 [.int .i64 (v)] rfl rfl (num_src _ _) (by intro u hu; simp at hu; subst hu; rfl) (by simp only [maxLen]; omega) (by omega) (by have h1 := (bel_call hbo2 hb5).size; simp; omega) ?_); intro v7 w7 o7 g9 _; have hb7 := ((bel_call hbo hb5).alloc ((bel_call hbo hb5).size) _).grown g9 (by have h1 := (bel_call hbo hb5).size; simp; omega) (fun g' hg' => by have h1 := ((HO.out).lt g' hg').1; have h2 := hb2.size; omega); have hb7' := ((bel_call hbo2 hb5).alloc ((bel_call hbo2 hb5).size) _).grown g9 (by have h1 := (bel_call hbo2 hb5).size; simp; omega) (fun g' hg' => ((HO.out).lt g' hg').1); obtain ⟨A7, c9, rfl, _⟩ := own_slice' o7; obtain ⟨g8, rfl, _⟩ := own_src o7 (by omega)))
              have o8 := o7
              rw [show ints ns ++ [Value.int .i64 (v)] = ints (ns ++ [v]) from by simp [ints]] at o8
              have HO8 := Lib.hid o8
              clear o7 o8
              go_roundw
              case rel => exact ⟨i + 1, g8, c9, _, by omega, by go_num, rfl, HO8, HP2.out, hb7, hb7'⟩
              case measure => simp [intOf]; omega
          · skip
            have hk1 : ((bw K i).toNat : Int) = 74 := by rw [hbk]; rfl
            have hwx : wdA K ws i = wB 74 (tw ws (i + 1)) := by unfold wdA; rw [hbk]
            have hcall := fun W => s_word2 (tw ws (i + 1)) W (Nat.le_trans (HSP.out (i + 1)) hsz)
            cases hw : wB 74 (tw ws (i + 1))
            · have HF := Lib.hid (HNO.out i hiK (hwx.trans hw))
              rw [hw] at hcall
              clear hw hwx hbk
              go_wp2_with (go_at_call 46; refine (hcall _).mono ?_; rintro e w5 ⟨v, rfl, hb5⟩)
              go_ret3
              exact ⟨_, _, (by rw [HF.out]; rfl), bel_call hbo hb5⟩
            · have HP2 : Hid (∀ j, j < i + 1 → wdA K ws j = true) := fun j hj => by
                by_cases h : j = i
                · subst h; exact hwx.trans hw
                · exact HP.out j (by omega)
              rw [hw] at hcall
              clear hw hwx hbk
              go_wp2_with (first
                | (go_at_call 46; refine (hcall _).mono ?_; rintro e w5 ⟨v, rfl, hb5⟩)
                | (at_builtin; go_loud (refine wpList_append_own _ rfl (.tmp 61) (.tmp 63) 22 rfl w2.heap.size 2 i0 (.int .i64 0) 1 8 Tryd.underlying22 hi hz0 hz1 hz2 rfl (by omega) (.slice (some ⟨g7, 0, none⟩) i c7) i (ints ns) rfl (World.ownsRow.alloc (own_below HO.out hb5) _) ⟨(w5).heap.size, 0, none⟩ 1 1 [.int .i64 (v)] rfl rfl (num_src _ _) (by intro u hu; simp at hu; subst hu; rfl) (by simp only [maxLen]; omega) (by omega) (by have h1 := (bel_call hbo2 hb5).size; simp; omega) ?_); intro v7 w7 o7 g9 _; have hb7 := ((bel_call hbo hb5).alloc ((bel_call hbo hb5).size) _).grown g9 (by have h1 := (bel_call hbo hb5).size; simp; omega) (fun g' hg' => by have h1 := ((HO.out).lt g' hg').1; have h2 := hb2.size; omega); have hb7' := ((bel_call hbo2 hb5).alloc ((bel_call hbo2 hb5).size) _).grown g9 (by have h1 := (bel_call hbo2 hb5).size; simp; omega) (fun g' hg' => ((HO.out).lt g' hg').1); obtain ⟨A7, c9, rfl, _⟩ := own_slice' o7; obtain ⟨g8, rfl, _⟩ := own_src o7 (by omega)))
              have o8 := o7
              rw [show ints ns ++ [Value.int .i64 (v)] = ints (ns ++ [v]) from by simp [ints]] at o8
              have HO8 := Lib.hid o8
              clear o7 o8
              go_roundw
              case rel => exact ⟨i + 1, g8, c9, _, by omega, by go_num, rfl, HO8, HP2.out, hb7, hb7'⟩
              case measure => simp [intOf]; omega
          · have hk1 : ((bw K i).toNat : Int) = 84 := by rw [hbk]; rfl
            have hwx : wdA K ws i = true := by unfold wdA; rw [hbk]; rfl
            have HP2 : Hid (∀ j, j < i + 1 → wdA K ws j = true) := fun j hj => by
              by_cases h : j = i
              · subst h; exact hwx
              · exact HP.out j (by omega)
            clear hwx hbk
            go_wp2_with (at_builtin; go_loud (refine wpList_append_own _ rfl (.tmp 61) (.tmp 63) 22 rfl w2.heap.size 2 i0 (.int .i64 0) 1 8 Tryd.underlying22 hi hz0 hz1 hz2 rfl (by omega) (.slice (some ⟨g7, 0, none⟩) i c7) i (ints ns) rfl (World.ownsRow.alloc (HO.out) _) ⟨(wo).heap.size, 0, none⟩ 1 1 [.int .i64 (0)] rfl rfl (num_src _ _) (by intro u hu; simp at hu; subst hu; rfl) (by simp only [maxLen]; omega) (by omega) (by have h1 := (hbo2).size; simp; omega) ?_); intro v7 w7 o7 g9 _; have hb7 := ((hbo).alloc ((hbo).size) _).grown g9 (by have h1 := (hbo).size; simp; omega) (fun g' hg' => by have h1 := ((HO.out).lt g' hg').1; have h2 := hb2.size; omega); have hb7' := ((hbo2).alloc ((hbo2).size) _).grown g9 (by have h1 := (hbo2).size; simp; omega) (fun g' hg' => ((HO.out).lt g' hg').1); obtain ⟨A7, c9, rfl, _⟩ := own_slice' o7; obtain ⟨g8, rfl, _⟩ := own_src o7 (by omega))
            have o8 := o7
            rw [show ints ns ++ [Value.int .i64 (0)] = ints (ns ++ [0]) from by simp [ints]] at o8
            have HO8 := Lib.hid o8
            clear o7 o8
            go_roundw
            case rel => exact ⟨i + 1, g8, c9, _, by omega, by go_num, rfl, HO8, HP2.out, hb7, hb7'⟩
            case measure => simp [intOf]; omega
        · have HYY := Lib.hid (HY.out fun j hj => HP.out j (by have := HKS.out; omega))
          obtain rfl : i = kk.size := by omega
          go_wp2_with (fail)
          go_ret3
          exact ⟨_, _, (by rw [HYY.out]; rfl), hbo⟩
    · have HF := Lib.hid (linB_len hk hln)
      have HLN := Lib.hid hln
      have HKS := Lib.hid hks
      have hkl : kk.size ≤ 3 := by omega
      clear hk hKk hln hks hka
      go_enter Tryd.func25, Tryd.ntmps25
      go_wp2_with (fail)
      refine hsp.mono ?_
      rintro e w2 ⟨g, n, c, rfl, hn, o2, hb2⟩
      have hc0 := own_hsrc o2 ⟨g, 0, none⟩ rfl 0 _ (strs_at hl0)
      rw [Go.WideShapes.add_plain] at hc0
      have hn0 : 0 < n := by omega
      have hnn : ((n : Int) != ((kk.size : Int) + 1)) = true := by
        have h1 := HLN.out
        have h2 := HKS.out
        unfold bne
        rw [show ((n : Int) == ((kk.size : Int) + 1)) = false from by rw [beq_eq_false_iff_ne]; omega]
        rfl
      clear hn o2
      go_wp2_with (go_at_call 44; refine (hkd _).mono ?_; rintro e w3 ⟨rfl, q3, rfl⟩)
      go_ret3
      exact ⟨_, _, (by rw [HF.out]; rfl), below_drewN hb2 _⟩
end Go.Proofs.YtjfinniebijgbaaDoor
