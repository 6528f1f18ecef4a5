/- Texts: reading and writing numbers, on the program's side. -/
import Derived.Test.YtjfinniebijgbaaDoorA310
import Derived.Test.YtjfinniebijgbaaDoorA92
import Derived.Test.YtjfinniebijgbaaDoorShelf
import Derived.Lib.AppendIntMem
import Derived.Lib.ParseIntBTie
import Derived.Lib.AtoiErrMem
namespace Go.Proofs.YtjfinniebijgbaaDoor
set_option linter.unusedVariables false
set_option linter.unusedSimpArgs false
open Go.RowKit
open Go.Lib hiding intOf

/-- What the library's variables hold. -/
def VF (W : World) : Prop := Lib.TabIs Tryd.prog W "internal/strconv.uint64pow10" .u64 Lib.pow10Tab ∧ (∃ tp p, W.var? Tryd.prog "strconv.ErrSyntax" = some #[.iface tp p]) ∧ (∃ tp p, W.var? Tryd.prog "strconv.ErrRange" = some #[.iface tp p]) ∧ ∃ m, W.cell? ⟨0, 0, none⟩ = some (.int .i64 m)
def VW (w : World) : Prop := ∀ W, Below w.heap.size w W → VF W
theorem VW.below {w w' : World} (h : VW w) (hb : Below w.heap.size w w') : VW w' := fun W hW => h W (bel_call hb hW)
theorem VW.here {w : World} (h : VW w) : VF w := h w (Below.refl _ _)
theorem VW.dr {w : World} (h : VW w) (n : Nat) : VW (w.drewN n) := h.below (below_drewN (Below.refl _ _) n)
theorem i_decimal (n : Int) (w : World) (h0 : -9223372036854775808 ≤ n) (h1 : n ≤ 9223372036854775807) (hv : VW w) :
    Calls Tryd.prog 51 #[.int .i64 n] w (M (.string ⟨(itoa n).toArray⟩) w) := by
  have hf := Tryd.strconv_FormatInt_10 n h0 h1 w hv.here.1
  generalize (⟨(itoa n).toArray⟩ : ByteArray) = s at *
  go_enter Tryd.func51, Tryd.ntmps51
  go_wp2_with (go_at_call 66; refine hf.mono ?_; rintro e w2 ⟨rfl, k, os, rfl⟩; have hb := below_grow w.heap.size w (Nat.le_refl _) k os; generalize Go.Sort.grow (w.drewN k) os = w3 at *)
  go_ret
  exact ⟨rfl, hb⟩
theorem str_eq (l : List UInt8) (s : ByteArray) : ((⟨l.toArray⟩ : ByteArray).toList == s.toList) = (l == s.data.toList) := by
  rw [ByteArray.toList_eq, ByteArray.toList_eq]
theorem str_eq2 (l m : List UInt8) : ((⟨l.toArray⟩ : ByteArray).toList == (⟨m.toArray⟩ : ByteArray).toList) = (l == m) := by
  rw [ByteArray.toList_eq, ByteArray.toList_eq]
set_option maxHeartbeats 1000000 in
theorem i_readDecimal (s : ByteArray) (w : World) (hs : s.size ≤ 1048576) (hv : VW w) :
    Calls Tryd.prog 31 #[.string s] w (M (.tuple #[.int .i64 (rdN s.data.toList), .bool (rdB s.data.toList)]) w) := by
  obtain ⟨_, ⟨t1, p1, v1⟩, ⟨t2, p2, v2⟩, _⟩ := hv.here
  unfold rdN rdB
  cases hp : parseIntB 64 s.data.toList with
  | ok v =>
    have hbd := parseIntB_bounds hp
    have hd := fun W h => i_decimal v W (by omega) (by omega) h
    have hpc := Tryd.strconv_ParseInt_10_at64_ok s (by omega) v hp w
    have he := str_eq (itoa v) s
    have HV := Lib.hid hv
    simp only []
    generalize hq : (itoa v == s.data.toList) = q at *
    generalize (⟨(itoa v).toArray⟩ : ByteArray) = tx at *
    clear hp hbd v1 v2 hq hv
    go_enter Tryd.func31, Tryd.ntmps31
    go_wp2_with (first
      | (go_at_call 50; refine hpc.mono ?_; rintro e w2 ⟨rfl, hw⟩; have hb2 : Below w.heap.size w w2 := (by rcases hw with rfl | ⟨t, rfl⟩ <;> first | exact Below.refl _ _ | exact Lib.bytesWorld_below _ _ _); clear hw; have hvv := HV.out.below hb2)
      | (go_at_call 51; refine (hd _ hvv).mono ?_; rintro e w3 ⟨rfl, hb3⟩))
    go_ret2
    exact ⟨rfl, bel_call hb2 hb3⟩
  | range =>
    have hpc := Tryd.strconv_ParseInt_10_at64_range_var s (by omega) hp t2 p2 w v2
    simp only []
    generalize intSat 64 s.data.toList = z at *
    clear hp v1 v2 hv
    go_enter Tryd.func31, Tryd.ntmps31
    go_wp2_with (first
      | (go_at_call 50; refine hpc.mono ?_; rintro e w2 ⟨N, rfl, _, _, hb2⟩))
    go_ret2
    exact ⟨rfl, hb2⟩
  | _ =>
    have hpc := Any.strconv_ParseInt_10_at64_syntax_var Tryd.laysC174 s (by omega) hp t1 p1 w v1
    simp only []
    clear hp v1 v2 hv
    go_enter Tryd.func31, Tryd.ntmps31
    go_wp2_with (first
      | (go_at_call 50; refine hpc.mono ?_; rintro e w2 ⟨N, rfl, _, _, hb2⟩))
    go_ret2
    exact ⟨rfl, hb2⟩
theorem i_isNumber (s : ByteArray) (w : World) (hs : s.size ≤ 1048576) (hv : VW w) :
    Calls Tryd.prog 48 #[.string s] w (M (.bool (numB s.data.toList)) w) := by
  have hr := i_readDecimal s w hs hv
  have hn : numB s.data.toList = ((rdB s.data.toList && decide (0 ≤ rdN s.data.toList)) && decide ((s.size : Int) ≤ 13)) := by
    rw [← isN_num]
    unfold isN
    congr 1
    rw [decide_eq_decide]
    show s.size ≤ 13 ↔ (s.size : Int) ≤ 13
    omega
  have HN := Lib.hid hn
  generalize rdN s.data.toList = v at *
  generalize rdB s.data.toList = b at *
  clear hn hv hs
  generalize numB s.data.toList = r at *
  cases b
  · have e : r = false := by rw [HN.out]; rfl
    subst e
    clear HN
    go_enter Tryd.func48, Tryd.ntmps48
    go_wp2_with (first
      | (go_at_call 31; refine hr.mono ?_; rintro e w2 ⟨rfl, hb2⟩))
    go_ret
    exact ⟨rfl, hb2⟩
  · by_cases h0 : 0 ≤ v
    · have e : r = decide ((s.size : Int) ≤ 13) := by rw [HN.out, decide_eq_true h0]; rfl
      subst e
      clear HN
      go_enter Tryd.func48, Tryd.ntmps48
      go_wp2_with (first
        | (go_at_call 31; refine hr.mono ?_; rintro e w2 ⟨rfl, hb2⟩))
      go_ret
      exact ⟨rfl, hb2⟩
    · have e : r = false := by rw [HN.out, decide_eq_false h0]; rfl
      subst e
      clear HN
      go_enter Tryd.func48, Tryd.ntmps48
      go_wp2_with (first
        | (go_at_call 31; refine hr.mono ?_; rintro e w2 ⟨rfl, hb2⟩))
      go_ret
      exact ⟨rfl, hb2⟩
theorem bl_def (l : List UInt8) : (⟨l.toArray⟩ : ByteArray) = bl l := rfl
theorem bl_size (l : List UInt8) : (bl l).size = l.length := by simp [bl, ByteArray.size]
/-- One word of the kind I. -/
theorem i_wordI (s : ByteArray) (w : World) (hs : s.size ≤ 1048576) (hv : VW w) :
    Calls Tryd.prog 28 #[.int .u8 73, .string s] w (M (.bool (numB s.data.toList)) w) := by
  have hn := i_isNumber s w hs hv
  generalize numB s.data.toList = b at *
  clear hs hv
  go_enter Tryd.func28, Tryd.ntmps28
  go_wp2_with (go_at_call 48; refine hn.mono ?_; rintro e w2 ⟨rfl, hb2⟩)
  go_ret
  exact ⟨rfl, hb2⟩
theorem i_wordT (s : ByteArray) (w : World) :
    Calls Tryd.prog 28 #[.int .u8 84, .string s] w (M (.bool true) w) := by
  go_enter Tryd.func28, Tryd.ntmps28
  go_wp2_with (fail)
  go_ret
  exact ⟨rfl, Below.refl _ _⟩
theorem i_wordJ (s : ByteArray) (w : World) (hs : s.size ≤ 1048576) (hv : VW w) :
    Calls Tryd.prog 28 #[.int .u8 74, .string s] w (M (.bool (sgB s.data.toList)) w) := by
  have ht := Tryd.strings_TrimPrefix s ⟨#[45]⟩ w
  have hsz : s.data.toList.length ≤ 1048576 := hs
  have hsg := sg_trim s.data.toList
  have htl : Lib.trimPrefix s.data.toList [45] = (if ([45] : List UInt8).isPrefixOf s.data.toList = true then s.data.toList.drop 1 else s.data.toList) := rfl
  rw [← htl] at hsg
  have htn : (Lib.trimPrefix s.data.toList [45]).length ≤ 1048576 := by
    rw [htl]
    split
    · rw [List.length_drop]; omega
    · exact hsz
  have hn := i_isNumber (bl (Lib.trimPrefix s.data.toList [45])) w (by rw [bl_size]; exact htn) hv
  rw [bl_toList] at hn
  rw [isN_num] at hsg
  have hne : (s.toList == [45, 48]) = (s.data.toList == [45, 48]) := by rw [ByteArray.toList_eq]
  rw [← hsg]
  change Calls Tryd.prog 49 #[.string s, .string ⟨#[45]⟩] w (fun e w' => e = .returned (.string (bl (Lib.trimPrefix s.data.toList [45]))) ∧ w' = w) at ht
  generalize bl (Lib.trimPrefix s.data.toList [45]) = tr at *
  generalize numB (Lib.trimPrefix s.data.toList [45]) = b at *
  generalize hqq : (s.data.toList == [45, 48]) = q at *
  clear hs hv hsz hsg htl htn hqq
  have hq2 : (s.toList != [45, 48]) = !q := by unfold bne; rw [hne]
  cases b <;> cases q
  all_goals
    go_enter Tryd.func28, Tryd.ntmps28
    go_wp2_with (first
      | (go_at_call 49; refine ht.mono ?_; rintro e w2 ⟨rfl, rfl⟩)
      | (go_at_call 48; refine hn.mono ?_; rintro e w2 ⟨rfl, hb2⟩))
    go_ret
    exact ⟨rfl, hb2⟩
end Go.Proofs.YtjfinniebijgbaaDoor
