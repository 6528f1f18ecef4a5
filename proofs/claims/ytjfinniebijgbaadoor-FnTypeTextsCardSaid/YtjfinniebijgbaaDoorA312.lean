/- Texts: reading and writing numbers, on the side of the reference. -/
import Derived.Test.YtjfinniebijgbaaDoorA310
import Derived.Test.YtjfinniebijgbaaDoorA92
import Derived.Deep.RegionLaw
import Derived.Laws.IdiomStrings
namespace Go.Proofs.YtjfinniebijgbaaDoor
set_option linter.unusedVariables false
set_option linter.unusedSimpArgs false
open Go.RowKit
open Go.Lib hiding intOf

set_option maxRecDepth 20000 in
theorem conv1 (w : World) (c : UInt8) (z : Int) (h : z = (c.toNat : Int)) : (convert 32 9 (.slice (some ⟨w.heap.size, 0, none⟩) 1 1)).run Tryd.prog (w.alloc (.cells #[.int .u8 z] 5)) = .ok (.string ⟨#[c]⟩) (w.alloc (.cells #[.int .u8 z] 5)) := by
  subst h
  exact run_convert_bytes_back (P := Tryd.prog) (w.alloc (.cells #[.int .u8 (c.toNat : Int)] 5)) 32 9 5 ⟨w.heap.size, 0, none⟩ 1 [c] Tryd.underlying32 Tryd.underlying5 Tryd.underlying9 (fun j hj => by
    obtain rfl : j = 0 := by simpa using hj
    exact (BK.new w 5 #[.int .u8 (c.toNat : Int)]).cell 0)
set_option maxRecDepth 20000 in
theorem conv2 (W : World) (g : Nat) (c : UInt8) (z : Int) (h : z = (c.toNat : Int)) (hc : W.cell? ⟨g, 0, none⟩ = some (.int .u8 z)) : (convert 32 9 (.slice (some ⟨g, 0, none⟩) 1 1)).run Tryd.prog W = .ok (.string ⟨#[c]⟩) W := by
  subst h
  exact run_convert_bytes_back (P := Tryd.prog) W 32 9 5 ⟨g, 0, none⟩ 1 [c] Tryd.underlying32 Tryd.underlying5 Tryd.underlying9 (fun j hj => by
    obtain rfl : j = 0 := by simpa using hj
    exact hc)
theorem str_app (a b : List UInt8) : (⟨a.toArray⟩ : ByteArray) ++ ⟨b.toArray⟩ = ⟨(a ++ b).toArray⟩ := by
  apply ByteArray.ext
  simp
theorem dec_len : ∀ k n, n < k → (decDigits n).length ≤ n + 1
  | 0, n, h => by omega
  | k + 1, n, h => by
    by_cases h10 : n < 10
    · rw [decDigits_one h10]; simp
    · rw [decDigits, dif_neg h10, List.length_append]
      have := dec_len k (n / 10) (by omega)
      simp
      omega
theorem dig_c (n : Nat) (h : n < 10) : ∃ c : UInt8, UInt8.ofNat (48 + n) = c ∧ 48 + (n : Int) = (c.toNat : Int) := ⟨_, rfl, by rw [dg_toNat n h]; omega⟩
set_option maxRecDepth 20000 in
set_option maxHeartbeats 1000000 in
theorem s_dec1 (n : Nat) (w : World) (h : n < 10) :
    Calls Tryd.prog 57 #[.int .i64 n] w (M (.string ⟨(decDigits n).toArray⟩) w) := by
  rw [decDigits_one h]
  obtain ⟨c, e1, e2⟩ := dig_c n h
  rw [e1]
  have hw1 : IntKind.i64.wrap (48 + (n : Int)) = 48 + (n : Int) := IntWalk.i64_in _ (by omega)
  have hw8 : IntKind.u8.wrap (48 + (n : Int)) = 48 + (n : Int) := IntWalk.u8_in _ (by omega)
  have hlt : (n : Int) < 10 := by omega
  have hcv := conv1 w c _ e2
  clear e1 e2
  go_enter Tryd.func57, Tryd.ntmps57
  go_wp2_with (fail)
  go_ret
  exact ⟨rfl, (Below.refl _ _).alloc (Nat.le_refl _) _⟩
set_option maxRecDepth 20000 in
set_option maxHeartbeats 2000000 in
theorem s_l01Dec : ∀ (f n : Nat) (w : World), n < f → n ≤ 1000000000000000 → Calls Tryd.prog 57 #[.int .i64 n] w (M (.string ⟨(decDigits n).toArray⟩) w)
  | 0, n, w, h, _ => by omega
  | f + 1, n, w, h, hb => by
    by_cases h10 : n < 10
    · exact s_dec1 n w h10
    · have ih := fun W => s_l01Dec f (n / 10) W (by omega) (by omega)
      rw [decDigits, dif_neg h10]
      obtain ⟨c, e1, e2⟩ := dig_c (n % 10) (by omega)
      rw [e1]
      have hge : ¬ (n : Int) < 10 := by omega
      have hq1 : (n : Int).tdiv 10 = ((n / 10 : Nat) : Int) := by rw [Int.tdiv_eq_ediv_of_nonneg (by omega)]; omega
      have hq2 : (n : Int).tmod 10 = ((n % 10 : Nat) : Int) := by rw [Int.tmod_eq_emod_of_nonneg (by omega)]; omega
      have hw1 : IntKind.i64.wrap (48 + ((n % 10 : Nat) : Int)) = 48 + ((n % 10 : Nat) : Int) := IntWalk.i64_in _ (by omega)
      have hw8 : IntKind.u8.wrap (48 + ((n % 10 : Nat) : Int)) = 48 + ((n % 10 : Nat) : Int) := IntWalk.u8_in _ (by omega)
      have hcv := fun W => conv1 W c _ e2
      have hw0 : IntKind.i64.wrap ((n / 10 : Nat) : Int) = ((n / 10 : Nat) : Int) := IntWalk.i64_in _ (by omega)
      have hdl := dec_len (n / 10 + 1) (n / 10) (by omega)
      generalize decDigits (n / 10) = ds at *
      have hsl : ¬ 9223372036854775807 < ds.length + 1 := by omega
      have happ := str_app ds [c]
      clear hdl
      generalize hn1 : n / 10 = n1 at *
      generalize hn2 : n % 10 = n2 at *
      have E2 := Lib.hid e2
      have hcv0 := conv2 (w.alloc (.cells #[.int .u8 (48 + (n2 : Int))] 5)).drew w.heap.size c _ e2 ((BK.new w 5 #[.int .u8 (48 + (n2 : Int))]).cell 0)
      clear e1 e2 hn1 hn2 hcv
      go_enter Tryd.func57, Tryd.ntmps57
      go_wp2_with (fail)
      go_region_law
        (go_simp; go_at_call 57; refine (ih _).mono ?_; rintro e w2 ⟨rfl, hb2⟩; have hcv1 := conv1 w2 c _ E2.out; try (have hcv2 := conv2 w2 w.heap.size c _ E2.out ((hb2.cell (p := ⟨w.heap.size, 0, none⟩) (by simp)).trans ((BK.new w 5 #[.int .u8 (48 + (n2 : Int))]).cell 0))))
      all_goals
        go_wp2_with (fail)
        go_ret
        refine ⟨by first | exact congrArg (fun b => Ending.returned (.string b)) happ | rfl, ?_⟩
        first
          | exact (undrew (n := 1) hb2).alloc (undrew (n := 1) hb2).size _
          | exact bel_call (below_drewN ((Below.refl w.heap.size w).alloc (Nat.le_refl _) _) 1) hb2
set_option maxHeartbeats 1000000 in
theorem s_l01Number (n : Int) (w : World) (h0 : -1000000000000000 ≤ n) (h1 : n ≤ 1000000000000000) :
    Calls Tryd.prog 39 #[.int .i64 n] w (M (.string ⟨(itoa n).toArray⟩) w) := by
  by_cases hn : n < 0
  · obtain ⟨m, rfl⟩ : ∃ m : Nat, n = -(m : Int) := ⟨(-n).toNat, by omega⟩
    have hd := fun W => s_l01Dec (m + 1) m W (by omega) (by omega)
    rw [itoa_neg m (by omega)]
    have hdl := dec_len (m + 1) m (by omega)
    have happ := str_app [45] (decDigits m)
    generalize decDigits m = ds at *
    have hsl : ¬ 9223372036854775807 < 1 + ds.length := by omega
    have hw1 : IntKind.i64.wrap (- -(m : Int)) = (m : Int) := by rw [Int.neg_neg]; exact IntWalk.i64_in _ (by omega)
    have hw2 : IntKind.i64.wrap ((m : Int)) = (m : Int) := IntWalk.i64_in _ (by omega)
    clear hdl
    go_enter Tryd.func39, Tryd.ntmps39
    go_wp2_with (go_at_call 57; refine (hd _).mono ?_; rintro e w2 ⟨rfl, hb2⟩)
    go_ret
    exact ⟨congrArg (fun b => Ending.returned (.string b)) happ, hb2⟩
  · obtain ⟨m, rfl⟩ : ∃ m : Nat, n = (m : Int) := ⟨n.toNat, by omega⟩
    have hd := fun W => s_l01Dec (m + 1) m W (by omega) (by omega)
    rw [itoa_nonneg m]
    generalize decDigits m = ds at *
    go_enter Tryd.func39, Tryd.ntmps39
    go_wp2_with (go_at_call 57; refine (hd _).mono ?_; rintro e w2 ⟨rfl, hb2⟩)
    go_ret
    exact ⟨rfl, hb2⟩
def VB (s : ByteArray) (w : World) (e : Ending) (w' : World) : Prop := ∃ v : Int, e = .returned (.tuple #[.int .i64 v, .bool (numB s.data.toList)]) ∧ (numB s.data.toList = true → v = ((valF 0 s.data.toList : Nat) : Int)) ∧ (0 ≤ v ∧ v ≤ 10000000000000) ∧ Below w.heap.size w w'
set_option maxHeartbeats 2000000 in
theorem s_l01Value (s : ByteArray) (w : World) (hs : s.size ≤ 1048576) : Calls Tryd.prog 45 #[.string s] w (VB s w) := by
  have hsz : s.data.toList.length = s.size := rfl
  by_cases h1 : s.size < 1
  · have hn : numB s.data.toList = false := by unfold numB; rw [hsz, decide_eq_false (by omega)]; rfl
    have HNN := Lib.hid hn
    clear hn hsz
    go_enter Tryd.func45, Tryd.ntmps45
    go_wp2_with (fail)
    go_ret2
    exact ⟨0, (by rw [HNN.out]; rfl), (fun h => by rw [HNN.out] at h; cases h), (by omega), Below.refl _ _⟩
  by_cases h13 : 13 < s.size
  · have hn : numB s.data.toList = false := by unfold numB; rw [hsz, decide_eq_false (p := s.size ≤ 13) (by omega), Bool.and_false]; rfl
    have HNN := Lib.hid hn
    clear hn hsz
    go_enter Tryd.func45, Tryd.ntmps45
    go_wp2_with (fail)
    go_ret2
    exact ⟨0, (by rw [HNN.out]; rfl), (fun h => by rw [HNN.out] at h; cases h), (by omega), Below.refl _ _⟩
  have hs1 : ¬ (s.size : Int) < 1 := by omega
  have hs13 : ¬ (13 : Int) < (s.size : Int) := by omega
  go_enter Tryd.func45, Tryd.ntmps45
  go_wp2_with (fail)
  go_loopw [4, 5] (fun u4 u5 wr => ∃ i : Nat, i ≤ s.size ∧ u5 = .int .i64 (i : Int) ∧ u4 = .int .i64 ((valF 0 (s.data.toList.take i) : Nat) : Int) ∧ Hid (((s.data.toList.take i).all digB) = true) ∧ DR w wr) (fun _ u5 _ => s.size - (intOf u5).toNat)
  case atStart => exact ⟨0, Nat.zero_le _, rfl, rfl, rfl, DR.refl _⟩
  case round =>
    obtain ⟨ws, rfl⟩ : ∃ ws : World, ws = wr := ⟨_, rfl⟩
    obtain ⟨i, hi, rfl, rfl, HD, hdr⟩ := hrel
    have hbel : Below w.heap.size w ws := by obtain ⟨q, rfl⟩ := hdr; exact below_drewN (Below.refl _ _) q
    have hvl := valF_lt _ 0 HD.out
    have hpw : 10 ^ (s.data.toList.take i).length ≤ 10 ^ 13 := Nat.pow_le_pow_right (by decide) (by rw [List.length_take]; omega)
    by_cases hlt : i < s.size
    · have htk : s.data.toList.take (i + 1) = s.data.toList.take i ++ [s[i]] := by
        rw [List.take_succ_eq_append_getElem (by rw [hsz]; exact hlt)]
        simp
        rfl
      have hsn := valF_snoc s[i] (s.data.toList.take i) 0
      rw [← htk] at hsn
      have HSN := Lib.hid hsn
      have HTK := Lib.hid htk
      generalize valF 0 (s.data.toList.take i) = V at *
      cases hd : digB s[i]
      · have hn : numB s.data.toList = false := by
          rw [Bool.eq_false_iff]
          intro h
          have h3 := (numB_t h).2.2.1
          rw [← List.take_append_drop (i + 1) s.data.toList, htk, List.all_append, List.all_append, Bool.and_eq_true, Bool.and_eq_true] at h3
          have h4 := h3.1.2
          simp [hd] at h4
        have hnd : ¬ (48 ≤ s[i].toNat ∧ s[i].toNat ≤ 57) := fun h => by
          unfold digB at hd
          rw [decide_eq_true h.1, decide_eq_true h.2] at hd
          cases hd
        have HNN := Lib.hid hn
        clear hn hsn htk hd
        by_cases hc : s[i].toNat < 48
        · have hc' : (s[i].toNat : Int) < 48 := by omega
          go_wp2_with (fail)
          go_ret2
          exact ⟨0, (by rw [HNN.out]; rfl), (fun h => by rw [HNN.out] at h; cases h), (by omega), hbel⟩
        · have hc' : ¬ (s[i].toNat : Int) < 48 := by omega
          have hc'' : (57 : Int) < (s[i].toNat : Int) := by omega
          go_wp2_with (fail)
          go_ret2
          exact ⟨0, (by rw [HNN.out]; rfl), (fun h => by rw [HNN.out] at h; cases h), (by omega), hbel⟩
      · have hdd := digB_t hd
        have HD2 : Hid (((s.data.toList.take (i + 1)).all digB) = true) := by
          unfold Hid
          rw [htk, List.all_append, HD.out]
          simp [hd]
        clear hsn htk hd
        have hc1 : ¬ (s[i].toNat : Int) < 48 := by omega
        have hc2 : ¬ (57 : Int) < (s[i].toNat : Int) := by omega
        have hw1 : IntKind.i64.wrap (10 * (V : Int)) = 10 * (V : Int) := IntWalk.i64_in _ (by omega)
        have hw2 : IntKind.u8.wrap ((s[i].toNat : Int) - 48) = (s[i].toNat : Int) - 48 := IntWalk.u8_in _ (by omega)
        have hw3 : IntKind.i64.wrap ((s[i].toNat : Int) - 48) = (s[i].toNat : Int) - 48 := IntWalk.i64_in _ (by omega)
        have hw4 : IntKind.i64.wrap (10 * (V : Int) + ((s[i].toNat : Int) - 48)) = 10 * (V : Int) + ((s[i].toNat : Int) - 48) := IntWalk.i64_in _ (by omega)
        go_wp2_with (fail)
        go_roundw
        case rel => exact ⟨i + 1, by omega, by go_num, by rw [HSN.out]; go_num, HD2.out, by repeat (first | exact hdr | refine DR.step ?_ _)⟩
        case measure => simp [intOf]; omega
    · obtain rfl : i = s.size := by omega
      have htk : s.data.toList.take s.size = s.data.toList := by rw [← hsz, List.take_length]
      rw [htk] at hvl hpw HD ⊢
      have hn : numB s.data.toList = (decDigits (valF 0 s.data.toList) == s.data.toList) := by
        unfold numB
        rw [HD.out, hsz, decide_eq_true (p := 1 ≤ s.size) (by omega), decide_eq_true (p := s.size ≤ 13) (by omega)]
        rfl
      have he : ((⟨(decDigits (valF 0 s.data.toList)).toArray⟩ : ByteArray).toList == s.toList) = (decDigits (valF 0 s.data.toList) == s.data.toList) := by rw [ByteArray.toList_eq, ByteArray.toList_eq]
      have HNN := Lib.hid hn
      generalize hV : valF 0 s.data.toList = V at *
      have hdc := fun W => s_l01Dec (V + 1) V W (by omega) (by omega)
      generalize (decDigits V == s.data.toList) = q at *
      generalize (⟨(decDigits V).toArray⟩ : ByteArray) = tx at *
      have HVV := Lib.hid hV
      clear hn hV htk
      go_wp2_with (go_at_call 57; refine (hdc _).mono ?_; rintro e w2 ⟨rfl, hb2⟩)
      go_ret2
      exact ⟨_, (by rw [HNN.out]; rfl), (fun _ => by rw [HVV.out]), (by omega), bel_call hbel hb2⟩
def SB (s : ByteArray) (w : World) (e : Ending) (w' : World) : Prop := ∃ v : Int, e = .returned (.tuple #[.int .i64 v, .bool (sgB s.data.toList)]) ∧ (sgB s.data.toList = true → v = sgN s.data.toList) ∧ Below w.heap.size w w'
theorem ba_cons {s : ByteArray} (h : 0 < s.size) : s.data.toList = s[0] :: s.data.toList.drop 1 := by
  obtain ⟨⟨l⟩⟩ := s
  cases l with
  | nil => simp [ByteArray.size] at h
  | cons c r => rfl
theorem ba_drop (s : ByteArray) (k : Nat) : (s.extract k s.size).data.toList = s.data.toList.drop k := by
  exact extract_to_end s k
set_option maxHeartbeats 2000000 in
theorem s_l01Signed (s : ByteArray) (w : World) (hs : s.size ≤ 1048576) : Calls Tryd.prog 46 #[.string s] w (SB s w) := by
  have hv := fun W => s_l01Value s W hs
  by_cases h0 : 0 < s.size
  · have hcn := ba_cons h0
    have hr := ba_drop s 1
    have hv1 := fun W => s_l01Value (s.extract 1 s.size) W (by
      have : (s.extract 1 s.size).size = (s.extract 1 s.size).data.toList.length := rfl
      rw [this, hr, List.length_drop]
      have : s.data.toList.length = s.size := rfl
      omega)
    unfold VB at hv hv1
    rw [hr] at hv1
    unfold SB
    have hb : sgB s.data.toList = if s[0] = 45 then numB (s.data.toList.drop 1) && decide (0 < valF 0 (s.data.toList.drop 1)) else numB s.data.toList := by
      conv => lhs; rw [hcn]
      rw [sgB]
      conv => lhs; rw [← hcn]
    have hn : sgN s.data.toList = if s[0] = 45 then -((valF 0 (s.data.toList.drop 1) : Nat) : Int) else ((valF 0 s.data.toList : Nat) : Int) := by
      conv => lhs; rw [hcn]
      rw [sgN]
      conv => lhs; rw [← hcn]
    rw [hb, hn]
    generalize s.data.toList = l at *
    by_cases hc : s[0] = 45
    · rw [if_pos hc, if_pos hc]
      have hc2 : ((s[0].toNat : Int) == 45) = true := by rw [hc]; rfl
      generalize numB (l.drop 1) = b at *
      generalize valF 0 (l.drop 1) = V at *
      clear hcn hr hb hn hc hv
      cases b
      · go_enter Tryd.func46, Tryd.ntmps46
        go_wp2_with (go_at_call 45; refine (hv1 _).mono ?_; rintro e w2 ⟨v, rfl, hvv, hvb, hb2⟩; clear hvv; have hw5 : IntKind.i64.wrap (-v) = -v := (IntWalk.i64_in _ (by omega)))
        go_ret2
        exact ⟨_, rfl, (fun h => nomatch h), hb2⟩
      · go_enter Tryd.func46, Tryd.ntmps46
        go_wp2_with (go_at_call 45; refine (hv1 _).mono ?_; rintro e w2 ⟨v, rfl, hvv, hvb, hb2⟩; have HVV := Lib.hid (hvv rfl); clear hvv; have hw5 : IntKind.i64.wrap (-v) = -v := (IntWalk.i64_in _ (by omega)))
        have h9 := HVV.out
        go_ret2
        refine ⟨-v, ?_, (fun _ => by rw [h9]), hb2⟩
        rw [Bool.true_and]
        have hdd : decide (0 < v) = decide (0 < V) := by rw [decide_eq_decide]; omega
        rw [← hdd]
        rfl
    · rw [if_neg hc, if_neg hc]
      have hc2 : ((s[0].toNat : Int) == 45) = false := by
        rw [beq_eq_false_iff_ne]
        intro e
        exact hc (UInt8.toNat_inj.1 (by rw [show (45 : UInt8).toNat = 45 from rfl]; omega))
      generalize numB l = b at *
      generalize valF 0 l = V at *
      clear hcn hr hb hn hc hv1
      go_enter Tryd.func46, Tryd.ntmps46
      go_wp2_with (go_at_call 45; refine (hv _).mono ?_; rintro e w2 ⟨v, rfl, hvv, hvb, hb2⟩; have HVV := Lib.hid hvv; clear hvv)
      go_ret2
      exact ⟨_, rfl, HVV.out, hb2⟩
  · have hz : s.data.toList = [] := List.eq_nil_of_length_eq_zero (by have : s.data.toList.length = s.size := rfl; omega)
    unfold VB at hv
    unfold SB
    rw [hz] at hv ⊢
    have hs0 : s.size = 0 := by omega
    have e1 : numB [] = false := rfl
    have e2 : sgB [] = false := rfl
    rw [e1] at hv
    rw [e2]
    clear hz e1 e2
    go_enter Tryd.func46, Tryd.ntmps46
    go_wp2_with (go_at_call 45; refine (hv _).mono ?_; rintro e w2 ⟨v, rfl, hvv, hvb, hb2⟩; clear hvv)
    go_ret2
    exact ⟨_, rfl, (fun h => nomatch h), hb2⟩
end Go.Proofs.YtjfinniebijgbaaDoor
