/- The permutations of a group, by its ranks. -/
import Derived.Test.YtcbjfdeigpdbdaaA91
import Derived.Test.YtcbjfdeigpdbdaaA19
namespace Go.Proofs.Ytcbjfdeigpdbdaa
set_option linter.unusedVariables false
set_option linter.unusedSimpArgs false
open Go.RowKit

theorem row_more {base N : Nat} {wr w1 w4 : World} {vs : List Value} {ms : List (List Int)} {u5 v1 : Value} {b : List Int} {o : Obj}
    (hg4 : (w1.alloc o).grownBy w4 u5.ownBlock) (ho : wr.ownsRow base 22 1 u5 N vs) (hrows : RowsO wr base vs ms) (hbase : base ≤ wr.heap.size)
    (ho1 : w1.ownsRow wr.heap.size 2 1 v1 b.length (ints b)) (hb1 : Below wr.heap.size wr w1) : RowsO w4 base (vs ++ [v1]) (ms ++ [b]) := by
  have hsn := (hrows.below hb1).snoc (own_mono ho1 hbase) (fresh_ne hrows (fun g hg => (ho1.lt g hg).1))
  have hsn2 := hsn.kept (World.grownBy_alloc _ o none) (fun i _ => by cases (gv (vs ++ [v1]) i).ownBlock <;> simp)
  have hou := World.ownsRow.alloc (own_below ho hb1) o
  exact hsn2.kept hg4 (fun i hi => own_ne (hsn2.2.1 i hi) hou (by decide))
def memL (n : Nat) (l : List Int) : List (List Int) := l.map fun x => wrL n x.toNat
theorem memL_take {n : Nat} {l : List Int} {k : Nat} (h : k < l.length) : memL n (l.take (k + 1)) = memL n (l.take k) ++ [wrL n (gt l k).toNat] := by
  simp only [memL]
  rw [List.take_succ_eq_append_getElem h, List.map_append]
  simp [gt, List.getElem?_eq_getElem h]
theorem memL_len (n : Nat) (l : List Int) : (memL n l).length = l.length := by simp [memL]
/-- All are ranks of n points. -/
def InK (n : Nat) (l : List Int) : Prop := ∀ k, k < l.length → 0 ≤ gt l k ∧ gt l k < (fact n : Nat)
def MII (ll : List (List Int)) (w : World) (e : Ending) (w' : World) : Prop := ∃ A c vs, e = .returned (.slice A ll.length c) ∧ w'.ownsRow w.heap.size 22 1 (.slice A ll.length c) ll.length vs ∧ RowsO w' w.heap.size vs ll ∧ Below w.heap.size w w'
set_option maxRecDepth 10000 in
set_option maxHeartbeats 4000000 in
theorem i_members (n : Nat) (A : Option Addr) (L c : Nat) (l : List Int) (w : World) (hn : 1 ≤ n) (hn6 : n ≤ 6) (hL : L = l.length) (hl : L ≤ 1048576) (hk : InK n l) (hs : IS w w.heap.size A l) :
    Calls Try.prog 132 #[.agg #[.int .i64 n, .slice A L c]] w (MII (memL n l) w) := by
  have HL := Lib.hid hL
  have HK := Lib.hid hk
  clear hL hk
  obtain ⟨i1, hi1, hy0, hy1, hy2⟩ := info_parts infoSl
  have B0 := BK.new w 39 #[.int .i64 (n : Int), .slice A L c]
  have hb0 := (Below.refl w.heap.size w).alloc (Nat.le_refl _) (.cells #[.int .i64 (n : Int), .slice A L c] 39)
  have hz0 : w.heap.size + 1 ≤ (w.alloc (.cells #[.int .i64 (n : Int), .slice A L c] 39)).heap.size := by simp
  obtain ⟨f0, f1, _, _⟩ := B0.two
  go_enter Try.func132, Try.ntmps132
  go_wp2_with (fail)
  clear f0 f1
  generalize w.alloc (.cells #[.int .i64 (n : Int), .slice A L c] 39) = w0 at *
  go_loopw [3, 9] (fun u3 u9 wr => ∃ (k : Nat) (vs : List Value), k ≤ L ∧ u9 = .int .i64 k ∧ wr.ownsRow (w.heap.size + 1) 22 1 u3 k vs ∧ RowsO wr (w.heap.size + 1) vs (memL n (l.take k)) ∧ BK wr w.heap.size 39 #[.int .i64 (n : Int), .slice A L c] ∧ Below w.heap.size w wr ∧ w.heap.size + 1 ≤ wr.heap.size) (fun _ u9 _ => L - (intOf u9).toNat)
  case atStart => exact ⟨0, [], Nat.zero_le _, rfl, World.ownsRow_nil _ _ _ _, ⟨rfl, fun i hi => by simp at hi, fun i j _ hj => by simp at hj⟩, B0, hb0, hz0⟩
  case round =>
    clear B0 hb0 hz0
    obtain ⟨ws, rfl⟩ : ∃ ws : World, ws = wr := ⟨_, rfl⟩
    obtain ⟨k, vs, hk, rfl, hown, hrows, hbx, hb, hsz⟩ := hrel
    obtain ⟨A3, c3, rfl, _⟩ := own_slice' hown
    by_cases hlt : k < L
    · obtain ⟨b, off, rfl, hbb, hcell⟩ := hs.at (k := k) (by rw [← HL.out]; exact hlt)
      have e1 := (hb.cell (p := ⟨b, off + k, none⟩) hbb).trans (hcell k (by rw [← HL.out]; exact hlt))
      obtain ⟨k1, k2⟩ := HK.out k (by rw [← HL.out]; exact hlt)
      have hst : memL n (l.take (k + 1)) = memL n (l.take k) ++ [wrL n (gt l k).toNat] := memL_take (by rw [← HL.out]; exact hlt)
      obtain ⟨r, hr⟩ := Int.eq_ofNat_of_zero_le k1
      rw [hr] at e1 hst k2
      rw [Int.toNat_natCast] at hst
      have hrf : r < fact n := by omega
      have hwr := fun W => i_withRank n r W hn hn6 hrf
      have hin := wrL_in hrf
      obtain ⟨f0, f1, _, _⟩ := hbx.two
      generalize wrL n r = b' at *
      have HST := Lib.hid hst
      clear hst hr k1 k2 hcell hrf
      go_wp2_with (first
        | (go_at_call 122; refine (hwr _).mono ?_; rintro e w2 ⟨v2, rfl, ho2, hb2⟩; obtain ⟨Ab, cb, rfl, _⟩ := own_slice' ho2)
        | (at_builtin; refine wpList_append_src rfl (.tmp 13) (.tmp 18) 29 rfl (w.heap.size + 1) 22 i1 (.slice none 0 0) 1 24 Try.underlying29 hi1 hy0 hy1 hy2 rfl (by omega) (.slice A3 k c3) k vs rfl (World.ownsRow.alloc (own_below hown hb2) _) (some ⟨w2.heap.size, 0, none⟩) 1 1 [.slice Ab n cb] rfl rfl (one_src w2 _ _) (by intro h; cases h) (by intro u hu; simp at hu; subst hu; rfl) (by simp only [maxLen]; omega) (by omega) (by have := hb2.size; simp; omega) ?_; intro v5 w5 hown5 hg5 hat5))
      have hz2 := hb2.size
      have hr5 := row_more (v1 := .slice Ab n cb) (b := b') hg5 hown hrows hsz (by rw [hin.1]; exact ho2) hb2
      have hne0 : (Value.slice A3 k c3).ownBlock ≠ some w.heap.size := fun h => by have := (hown.lt _ h).1; omega
      go_roundw
      case rel =>
        refine ⟨k + 1, _, by omega, by go_num, hown5, by rw [HST.out]; exact hr5, BK.kept ((hbx.below hb2 (by omega)).alloc _) hg5 (Ne.symm hne0), ?_, ?_⟩
        · exact ((hb.trans (hb2.mono hb.size)).alloc (by omega) _).grown hg5 (by simp; omega) (fun g hg => by have := (hown.lt g hg).1; omega)
        · have := hg5.size; simp at this; omega
      case measure => simp [intOf]; omega
    · skip
      obtain rfl : k = L := by omega
      rw [List.take_of_length_le (by rw [← HL.out]; exact Nat.le_refl _)] at hrows
      have hml : (memL n l).length = k := by rw [memL_len, HL.out]
      have HR := Lib.hid hrows
      clear hrows
      go_wp2_with (fail)
      go_ret
      unfold MII
      rw [hml]
      exact ⟨_, _, vs, rfl, own_mono hown (by omega), ⟨HR.out.1, fun i hi => own_mono (HR.out.2.1 i hi) (by omega), HR.out.2.2⟩, hb⟩
set_option maxRecDepth 10000 in
set_option maxHeartbeats 4000000 in
theorem s_elements (n : Nat) (A : Option Addr) (L c : Nat) (l : List Int) (w : World) (hn : 1 ≤ n) (hn6 : n ≤ 6) (hL : L = l.length) (hl : L ≤ 1048576) (hk : InK n l) (hs : IS w w.heap.size A l) :
    Calls Try.prog 104 #[.agg #[.int .i64 n, .slice A L c]] w (MII (memL n l) w) := by
  have HL := Lib.hid hL
  have HK := Lib.hid hk
  clear hL hk
  obtain ⟨i1, hi1, hy0, hy1, hy2⟩ := info_parts infoSl
  have B0 := BK.new w 39 #[.int .i64 (n : Int), .slice A L c]
  have hb0 := (Below.refl w.heap.size w).alloc (Nat.le_refl _) (.cells #[.int .i64 (n : Int), .slice A L c] 39)
  have hz0 : w.heap.size + 1 ≤ (w.alloc (.cells #[.int .i64 (n : Int), .slice A L c] 39)).heap.size := by simp
  obtain ⟨f0, f1, _, _⟩ := B0.two
  go_enter Try.func104, Try.ntmps104
  go_wp2_with (fail)
  clear f0 f1
  have hlit := World.ownsRow_lit (base := w.heap.size + 1) (e := 22) (size := 1) (w.alloc (.cells #[.int .i64 (n : Int), .slice A L c] 39)) #[] 0 (by simp) (by simp [maxLen]) rfl
  have B0 := B0.alloc (.cells #[] 22)
  have hb0 := hb0.alloc (by simp) (.cells #[] 22)
  have hz0 : w.heap.size + 1 ≤ ((w.alloc (.cells #[.int .i64 (n : Int), .slice A L c] 39)).alloc (.cells #[] 22)).heap.size := by simp
  rw [World.size_alloc] at hlit
  generalize (w.alloc (.cells #[.int .i64 (n : Int), .slice A L c] 39)).alloc (.cells #[] 22) = w0 at *
  go_loopw [3, 4] (fun u3 u9 wr => ∃ (k : Nat) (vs : List Value), k ≤ L ∧ u9 = .int .i64 k ∧ wr.ownsRow (w.heap.size + 1) 22 1 u3 k vs ∧ RowsO wr (w.heap.size + 1) vs (memL n (l.take k)) ∧ BK wr w.heap.size 39 #[.int .i64 (n : Int), .slice A L c] ∧ Below w.heap.size w wr ∧ w.heap.size + 1 ≤ wr.heap.size) (fun _ u9 _ => L - (intOf u9).toNat)
  case atStart => exact ⟨0, [], Nat.zero_le _, rfl, hlit, ⟨rfl, fun i hi => by simp at hi, fun i j _ hj => by simp at hj⟩, B0, hb0, hz0⟩
  case round =>
    clear B0 hb0 hz0 hlit
    obtain ⟨ws, rfl⟩ : ∃ ws : World, ws = wr := ⟨_, rfl⟩
    obtain ⟨k, vs, hk, rfl, hown, hrows, hbx, hb, hsz⟩ := hrel
    obtain ⟨A3, c3, rfl, _⟩ := own_slice' hown
    by_cases hlt : k < L
    · obtain ⟨b, off, rfl, hbb, hcell⟩ := hs.at (k := k) (by rw [← HL.out]; exact hlt)
      have e1 := (hb.cell (p := ⟨b, off + k, none⟩) hbb).trans (hcell k (by rw [← HL.out]; exact hlt))
      obtain ⟨k1, k2⟩ := HK.out k (by rw [← HL.out]; exact hlt)
      have hst : memL n (l.take (k + 1)) = memL n (l.take k) ++ [wrL n (gt l k).toNat] := memL_take (by rw [← HL.out]; exact hlt)
      obtain ⟨r, hr⟩ := Int.eq_ofNat_of_zero_le k1
      rw [hr] at e1 hst k2
      rw [Int.toNat_natCast] at hst
      have hrf : r < fact n := by omega
      have hwr := fun W => s_l21With n r W hn hn6 hrf
      have hin := wrL_in hrf
      obtain ⟨f0, f1, _, _⟩ := hbx.two
      generalize wrL n r = b' at *
      have HST := Lib.hid hst
      clear hst hr k1 k2 hcell hrf
      go_wp2_with (fail)
      go_region_law
        (first
          | ((refine step_append_own (by rfl) (.tmp 13) (.tmp 22) 29 (by rfl) (w.heap.size + 1) 22 i1 (.slice none 0 0) 1 24 Try.underlying29 hi1 hy0 hy1 hy2 rfl (by omega) (.slice A3 k c3) k vs (by rfl) (World.ownsRow.alloc (own_below (w := ws.drew) hown hb2) _) ⟨w2.heap.size, 0, none⟩ 1 1 [.slice Ab n cb] (by rfl) (by rfl) (fun j u hj => one_src w2 _ _ _ rfl j u hj) (by intro u hu; simp at hu; subst hu; rfl) (by simp only [maxLen]; omega) (by omega) (by have h1 : ws.heap.size ≤ w2.heap.size := hb2.size; simp; omega) ?_; intro v5 w5 hown5 hg5 hat5))
          | (go_simp; go_at_call 115; refine (hwr ws.drew).mono ?_; rintro e w2 ⟨v2, rfl, ho2, hb2⟩; obtain ⟨Ab, cb, rfl, _⟩ := own_slice' ho2))
      all_goals
        have hb2 : Below ws.heap.size ws w2 := undrew (n := 1) hb2
        go_wp2_with (fail)
        have hz2 := hb2.size
        have hr5 := row_more (v1 := .slice Ab n cb) (b := b') hg5 hown hrows hsz (by rw [hin.1]; exact ho2) hb2
        have hne0 : (Value.slice A3 k c3).ownBlock ≠ some w.heap.size := fun h => by have := (hown.lt _ h).1; omega
        go_roundw
        case rel =>
          refine ⟨k + 1, _, by omega, by go_num, hown5, by rw [HST.out]; exact hr5, BK.kept ((hbx.below hb2 (by omega)).alloc _) hg5 (Ne.symm hne0), ?_, ?_⟩
          · exact ((hb.trans (hb2.mono hb.size)).alloc (by omega) _).grown hg5 (by simp; omega) (fun g hg => by have := (hown.lt g hg).1; omega)
          · have := hg5.size; simp at this; omega
        case measure => simp [intOf]; omega
    · obtain ⟨f0, f1, _, _⟩ := hbx.two
      obtain rfl : k = L := by omega
      rw [List.take_of_length_le (by rw [← HL.out]; exact Nat.le_refl _)] at hrows
      have hml : (memL n l).length = k := by rw [memL_len, HL.out]
      have HR := Lib.hid hrows
      clear hrows
      go_wp2_with (fail)
      go_ret
      unfold MII
      rw [hml]
      exact ⟨_, _, vs, rfl, own_mono hown (by omega), ⟨HR.out.1, fun i hi => own_mono (HR.out.2.1 i hi) (by omega), HR.out.2.2⟩, hb⟩
end Go.Proofs.Ytcbjfdeigpdbdaa
