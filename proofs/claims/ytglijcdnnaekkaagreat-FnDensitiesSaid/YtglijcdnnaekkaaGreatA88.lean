/- Several parts of the proof in one text; each part says what it shows. Nothing is assumed. -/
import Derived.Test.YtglijcdnnaekkaaGreatA80
import Derived.Test.YtglijcdnnaekkaaGreatA20
import Derived.Test.YtglijcdnnaekkaaGreatA83
import Derived.Lib.QuietBelow
/- Slices of names: equality, marks. -/
namespace Go.Proofs.YtglijcdnnaekkaaGreat
set_option linter.unusedVariables false
set_option linter.unusedSimpArgs false
open Go.RowKit

theorem infoStr : (Tryz.prog.info? 9).map (fun i => (i.zero, i.size, i.bytes)) = some (some (.string ⟨#[]⟩), 1, 16) := by kernel_rfl
def strs (bs : List ByteArray) : List Value := bs.map Value.string
theorem strs_one (bs : List ByteArray) : ∀ u ∈ strs bs, u.oneCell' = true := by
  intro u hu
  simp only [strs, List.mem_map] at hu
  obtain ⟨x, _, rfl⟩ := hu
  rfl
def gs (bs : List ByteArray) (k : Nat) : ByteArray := bs.getD k ⟨#[]⟩
theorem strs_at {bs : List ByteArray} {k : Nat} (h : k < bs.length) : (strs bs)[k]? = some (.string (gs bs k)) := by
  simp [strs, gs, List.getElem?_eq_getElem h]
/-- A slice of strings at address A reads as bs, in a block below B. -/
def IB (w : World) (B : Nat) (A : Option Addr) (bs : List ByteArray) : Prop :=
  0 < bs.length → ∃ b off, A = some ⟨b, off, none⟩ ∧ b < B ∧ ∀ k, k < bs.length → w.cell? ⟨b, off + k, none⟩ = some (.string (gs bs k))
theorem IB.below {w w' : World} {B : Nat} {A : Option Addr} {bs : List ByteArray} (h : IB w B A bs) (hb : Below B w w') : IB w' B A bs := fun h0 => by
  obtain ⟨b, off, rfl, hlt, hc⟩ := h h0
  exact ⟨b, off, rfl, hlt, fun k hk => by rw [hb.cell hlt]; exact hc k hk⟩
theorem IB.more {w : World} {B B' : Nat} {A : Option Addr} {bs : List ByteArray} (h : IB w B A bs) (hB : B ≤ B') : IB w B' A bs := fun h0 => by
  obtain ⟨b, off, rfl, hlt, hc⟩ := h h0
  exact ⟨b, off, rfl, by omega, hc⟩
theorem own_ib {w : World} {base n c : Nat} {A : Option Addr} {bs : List ByteArray} (h : w.ownsRow base 9 1 (.slice A n c) n (strs bs)) (hn : n = bs.length) : IB w w.heap.size A bs := fun h0 => by
  subst hn
  obtain ⟨g, rfl, _, hlt, hc⟩ := own_src h h0
  exact ⟨g, 0, rfl, hlt, fun k hk => by rw [Nat.zero_add]; exact hc k _ (strs_at hk)⟩
/-- The text of a mark. -/
def mkT (k : Nat) : ByteArray := ⟨#[109, 48 + k.toUInt8]⟩
def mks (n : Nat) : List ByteArray := (List.range n).map fun j => mkT (1 + j)
theorem mks_length (n : Nat) : (mks n).length = n := by simp [mks]
theorem mks_at {n j : Nat} (h : j < n) : gs (mks n) j = mkT (1 + j) := by simp [gs, mks, h]
def curS (l : List ByteArray) (i : Nat) : List ByteArray := (List.range l.length).map fun j => if j < i then mkT (1 + j) else gs l j
theorem curS_length (l : List ByteArray) (i : Nat) : (curS l i).length = l.length := by simp [curS]
theorem curS_zero (l : List ByteArray) : curS l 0 = l := by
  apply List.ext_getElem (by simp [curS])
  intro j h1 h2
  simp [curS, gs, h2]
theorem curS_all (l : List ByteArray) : curS l l.length = mks l.length := by
  apply List.ext_getElem (by simp [curS, mks])
  intro j h1 h2
  simp [mks] at h2
  simp [curS, mks, h2]
theorem curS_set {l : List ByteArray} {i : Nat} (h : i < l.length) : (strs (curS l i)).set i (.string (mkT (1 + i))) = strs (curS l (i + 1)) := by
  apply List.ext_getElem (by simp [strs, curS])
  intro j h1 h2
  rw [List.getElem_set]
  by_cases hx : i = j
  · subst hx
    rw [if_pos rfl]
    simp [strs, curS]
  · rw [if_neg hx]
    simp only [strs, curS, List.getElem_map, List.getElem_range]
    congr 1
    by_cases hy : j < i
    · rw [if_pos hy, if_pos (by omega)]
    · rw [if_neg hy, if_neg (by omega)]
end Go.Proofs.YtglijcdnnaekkaaGreat
/- Walks: TransitiveNames. -/
namespace Go.Proofs.YtglijcdnnaekkaaGreat
set_option linter.unusedVariables false
set_option linter.unusedSimpArgs false
open Go.RowKit

def OwnS (w : World) (base : Nat) (v : Value) (m : Nat) (E : List (List UInt8)) : Prop := ∃ bs : List ByteArray, w.ownsRow base 9 1 v m (strs bs) ∧ bs.map (·.toList) = E
def nmK (n : Int) (k : Nat) : List Nat := (List.range k).filter fun i => decide ((lbP i : Int) = n)
theorem nmK_yes {n : Int} {k : Nat} (h : (lbP k : Int) = n) : nmK n (k + 1) = nmK n k ++ [k] := by simp [nmK, List.range_succ, h]
theorem nmK_no {n : Int} {k : Nat} (h : ¬ (lbP k : Int) = n) : nmK n (k + 1) = nmK n k := by simp [nmK, List.range_succ, h]
theorem nmK_le (n : Int) (k : Nat) : (nmK n k).length ≤ k := by
  unfold nmK
  exact Nat.le_trans (List.length_filter_le _ _) (by simp)
/-- Block b holds the names. -/
def NMB (W : World) (B b : Nat) : Prop := b < B ∧ ∀ i, i < 14 → ∃ nb : ByteArray, nb.toList = lbN i ∧ W.cell? ⟨b, i, none⟩ = some (.string nb)
theorem NMB.below {W W' : World} {B b : Nat} (h : NMB W B b) (hb : Below B W W') : NMB W' B b := by
  refine ⟨h.1, fun i hi => ?_⟩
  obtain ⟨nb, h1, h2⟩ := h.2 i hi
  exact ⟨nb, h1, by rw [hb.cell (by exact h.1)]; exact h2⟩
theorem NMB.more {W : World} {B B' b : Nat} (h : NMB W B b) (hB : B ≤ B') : NMB W B' b := ⟨Nat.lt_of_lt_of_le h.1 hB, h.2⟩
theorem NMB.kept {W W' : World} {B b : Nat} {row : Option Nat} (h : NMB W B b) (hb : b < W.heap.size) (hg : W.grownBy W' row) (hne : some b ≠ row) : NMB W' B b := by
  refine ⟨h.1, fun i hi => ?_⟩
  obtain ⟨nb, h1, h2⟩ := h.2 i hi
  exact ⟨nb, h1, by rw [World.cell?_of_block (a := ⟨b, i, none⟩) (hg.block b hb hne)]; exact h2⟩
theorem nmb_new (w : World) : NMB (w.alloc (.cells #[.string ⟨#[67, 49]⟩, .string ⟨#[67, 50]⟩, .string ⟨#[67, 51]⟩, .string ⟨#[83, 51]⟩, .string ⟨#[67, 52]⟩, .string ⟨#[86, 52]⟩, .string ⟨#[68, 52]⟩, .string ⟨#[65, 52]⟩, .string ⟨#[83, 52]⟩, .string ⟨#[67, 53]⟩, .string ⟨#[68, 53]⟩, .string ⟨#[70, 53]⟩, .string ⟨#[65, 53]⟩, .string ⟨#[83, 53]⟩] 9)) (w.heap.size + 1) w.heap.size := by
  have B := BK.new w 9 #[.string ⟨#[67, 49]⟩, .string ⟨#[67, 50]⟩, .string ⟨#[67, 51]⟩, .string ⟨#[83, 51]⟩, .string ⟨#[67, 52]⟩, .string ⟨#[86, 52]⟩, .string ⟨#[68, 52]⟩, .string ⟨#[65, 52]⟩, .string ⟨#[83, 52]⟩, .string ⟨#[67, 53]⟩, .string ⟨#[68, 53]⟩, .string ⟨#[70, 53]⟩, .string ⟨#[65, 53]⟩, .string ⟨#[83, 53]⟩]
  refine ⟨by omega, fun i hi => ?_⟩
  generalize w.alloc (.cells #[.string ⟨#[67, 49]⟩, .string ⟨#[67, 50]⟩, .string ⟨#[67, 51]⟩, .string ⟨#[83, 51]⟩, .string ⟨#[67, 52]⟩, .string ⟨#[86, 52]⟩, .string ⟨#[68, 52]⟩, .string ⟨#[65, 52]⟩, .string ⟨#[83, 52]⟩, .string ⟨#[67, 53]⟩, .string ⟨#[68, 53]⟩, .string ⟨#[70, 53]⟩, .string ⟨#[65, 53]⟩, .string ⟨#[83, 53]⟩] 9) = W at *
  match i, hi with
  | 0, _ => exact ⟨⟨#[67, 49]⟩, by first | decide +kernel | simp [lbN, LB], (B.cell 0).trans rfl⟩
  | 1, _ => exact ⟨⟨#[67, 50]⟩, by first | decide +kernel | simp [lbN, LB], (B.cell 1).trans rfl⟩
  | 2, _ => exact ⟨⟨#[67, 51]⟩, by first | decide +kernel | simp [lbN, LB], (B.cell 2).trans rfl⟩
  | 3, _ => exact ⟨⟨#[83, 51]⟩, by first | decide +kernel | simp [lbN, LB], (B.cell 3).trans rfl⟩
  | 4, _ => exact ⟨⟨#[67, 52]⟩, by first | decide +kernel | simp [lbN, LB], (B.cell 4).trans rfl⟩
  | 5, _ => exact ⟨⟨#[86, 52]⟩, by first | decide +kernel | simp [lbN, LB], (B.cell 5).trans rfl⟩
  | 6, _ => exact ⟨⟨#[68, 52]⟩, by first | decide +kernel | simp [lbN, LB], (B.cell 6).trans rfl⟩
  | 7, _ => exact ⟨⟨#[65, 52]⟩, by first | decide +kernel | simp [lbN, LB], (B.cell 7).trans rfl⟩
  | 8, _ => exact ⟨⟨#[83, 52]⟩, by first | decide +kernel | simp [lbN, LB], (B.cell 8).trans rfl⟩
  | 9, _ => exact ⟨⟨#[67, 53]⟩, by first | decide +kernel | simp [lbN, LB], (B.cell 9).trans rfl⟩
  | 10, _ => exact ⟨⟨#[68, 53]⟩, by first | decide +kernel | simp [lbN, LB], (B.cell 10).trans rfl⟩
  | 11, _ => exact ⟨⟨#[70, 53]⟩, by first | decide +kernel | simp [lbN, LB], (B.cell 11).trans rfl⟩
  | 12, _ => exact ⟨⟨#[65, 53]⟩, by first | decide +kernel | simp [lbN, LB], (B.cell 12).trans rfl⟩
  | 13, _ => exact ⟨⟨#[83, 53]⟩, by first | decide +kernel | simp [lbN, LB], (B.cell 13).trans rfl⟩
theorem s_l24Names (w : World) : Calls Tryz.prog 169 #[] w (fun e w' => ∃ b, e = .returned (.slice (some ⟨b, 0, none⟩) 14 14) ∧ NMB w' w'.heap.size b ∧ Below w.heap.size w w' ∧ w.heap.size ≤ b) := by
  go_enter Tryz.func169, Tryz.ntmps169
  go_wp2_with (fail)
  go_ret
  exact ⟨_, rfl, by rw [World.size_alloc]; exact nmb_new w, (Below.refl _ _).alloc (Nat.le_refl _) _, Nat.le_refl _⟩
def OS (is : List Nat) (w : World) (e : Ending) (w' : World) : Prop := ∃ v, e = .returned v ∧ OwnS w' w.heap.size v is.length (is.map lbN) ∧ Below w.heap.size w w'
set_option maxRecDepth 10000 in
set_option maxHeartbeats 2000000 in
theorem s_l24List (n : Int) (w : World) : Calls Tryz.prog 108 #[.int .i64 n] w (OS (nmK n 14) w) := by
  obtain ⟨i0, hi, hz0, hz1, hz2⟩ := info_parts infoStr
  go_enter Tryz.func108, Tryz.ntmps108
  go_wp2_with (go_at_call 169; refine (s_l24Names _).mono ?_; rintro e w1 ⟨b, rfl, hnm, hb1, hnew⟩)
  have hb0 := bel_call ((Below.refl w.heap.size w).alloc (Nat.le_refl _) (.cells #[] 9)) hb1
  have ho0 := own_below (World.ownsRow_lit (base := w.heap.size) (e := 9) (size := 1) w #[] 0 (Nat.le_refl _) (by simp [maxLen]) rfl) hb1
  go_loopw [3, 5] (fun u3 u5 wr => ∃ k m : Nat, k ≤ 14 ∧ m ≤ k ∧ u5 = .int .i64 k ∧ OwnS wr w.heap.size u3 m ((nmK n k).map lbN) ∧ Hid (m = (nmK n k).length) ∧ NMB wr wr.heap.size b ∧ (∀ g, u3.ownBlock = some g → g ≠ b) ∧ Below w.heap.size w wr) (fun _ u5 _ => 14 - (intOf u5).toNat)
  case atStart => exact ⟨0, 0, Nat.zero_le _, Nat.le_refl _, rfl, ⟨[], ho0, rfl⟩, rfl, hnm, fun g hg => by simp [Value.ownBlock] at hg; simp at hnew; omega, hb0⟩
  case round =>
    clear hnm hb0 ho0 hb1
    obtain ⟨ws, rfl⟩ : ∃ ws : World, ws = wr := ⟨_, rfl⟩
    obtain ⟨k, m, hk, hm, rfl, ⟨bs, hown, hbs⟩, HM, hnm, hnb, hb⟩ := hrel
    obtain ⟨A1, c1, rfl, _⟩ := own_slice' hown
    have hsz := hb.size
    by_cases hlt : k < 14
    · obtain ⟨nb, hn, e1⟩ := hnm.2 k hlt
      have hp := fun W => s_l24Points k hlt nb hn W
      have HBS := Lib.hid hbs
      have HN := Lib.hid hn
      clear hbs hn
      by_cases hpn : (lbP k : Int) = n
      · have hy := nmK_yes hpn
        have ht : ((lbP k : Int) == n) = true := by rw [beq_iff_eq]; exact hpn
        have HY := Lib.hid hy
        clear hy hpn
        generalize lbP k = pk at *
        go_wp2_with (first
          | (go_at_call 97; refine (hp _).mono ?_; rintro e w2 ⟨rfl, hb2⟩; have e2 := (hb2.cell (p := ⟨b, k, none⟩) hnm.1).trans e1)
          | (at_builtin; refine wpList_append_src rfl (.tmp 21) (.tmp 26) 68 rfl w.heap.size 9 i0 (.string ⟨#[]⟩) 1 16 Tryz.underlying68 hi hz0 hz1 hz2 rfl (by omega) (.slice A1 m c1) m (strs bs) rfl (World.ownsRow.alloc (own_below hown hb2) _) (some ⟨w2.heap.size, 0, none⟩) 1 1 [.string nb] rfl rfl (one_src w2 _ _) (by intro h; cases h) (by intro u hu; simp at hu; subst hu; rfl) (by simp only [maxLen]; omega) (by omega) (by have := hb2.size; simp; omega) ?_; intro v5 w5 hown5 hg5 hat5))
        have hz2' := hb2.size
        go_roundw
        case rel =>
          refine ⟨k + 1, m + 1, by omega, by omega, by go_num, ⟨bs ++ [nb], by simpa [strs] using hown5, ?_⟩, ?_, ?_, ?_, ?_⟩
          · rw [HY.out, List.map_append, List.map_append, HBS.out]; simp [HN.out]
          · unfold Hid; rw [HY.out, List.length_append, HM.out]; rfl
          · have h3 := ((hnm.below hb2).more hb2.size).below ((Below.refl w2.heap.size w2).alloc (Nat.le_refl _) (.cells #[.string nb] 9))
            have hbl := hnm.1
            exact (h3.kept (by simp; omega) hg5 (fun e => hnb b e.symm rfl)).more (by have := hg5.size; simp at this; omega)
          · intro g hg
            have hbl := hnm.1
            rcases hat5 with h | h
            · rw [h] at hg; exact hnb g hg
            · rw [h] at hg; injection hg with hg; simp at hg; omega
          · exact ((hb.trans (hb2.mono hsz)).alloc (by omega) _).grown hg5 (by simp; omega) (fun g hg => (hown.lt g hg).1)
        case measure => simp [intOf]; omega
      · have hy := nmK_no hpn
        have ht : ((lbP k : Int) == n) = false := by rw [beq_eq_false_iff_ne]; exact hpn
        have HY := Lib.hid hy
        clear hy hpn
        generalize lbP k = pk at *
        go_wp2_with (go_at_call 97; refine (hp _).mono ?_; rintro e w2 ⟨rfl, hb2⟩)
        go_roundw
        case rel => exact ⟨k + 1, m, by omega, by omega, by go_num, ⟨bs, own_below hown hb2, by rw [HY.out]; exact HBS.out⟩, by unfold Hid; rw [HY.out]; exact HM.out, (hnm.below hb2).more hb2.size, hnb, hb.trans (hb2.mono hsz)⟩
        case measure => simp [intOf]; omega
    · obtain rfl : k = 14 := by omega
      go_wp2_with (fail)
      go_ret
      exact ⟨_, rfl, ⟨bs, by rw [← HM.out]; exact hown, hbs⟩, hb⟩
end Go.Proofs.YtglijcdnnaekkaaGreat
/- Walks: impl.namesWith, TransitiveNames, the law. -/
namespace Go.Proofs.YtglijcdnnaekkaaGreat
set_option linter.unusedVariables false
set_option linter.unusedSimpArgs false
open Go.RowKit

def tnL (n : Int) : List Nat := if inB n 1 5 then nmK n 14 else []
def tnC (n : Int) : Int := if inB n 1 5 then 0 else 2
def OSC (is : List Nat) (c : Int) (w : World) (e : Ending) (w' : World) : Prop := ∃ A cap, e = .returned (.tuple #[.slice A is.length cap, .int .i64 c]) ∧ OwnS w' w.heap.size (.slice A is.length cap) is.length (is.map lbN) ∧ Below w.heap.size w w'
end Go.Proofs.YtglijcdnnaekkaaGreat
/- The law of TransitiveNames. -/
namespace Go.Proofs.YtglijcdnnaekkaaGreat
set_option linter.unusedVariables false
set_option linter.unusedSimpArgs false
open Go.RowKit

theorem tnL_len (n : Int) : (tnL n).length ≤ 5 := by
  unfold tnL
  split
  · rename_i h
    obtain ⟨h1, h2⟩ := inB_true h
    obtain ⟨m, rfl⟩ := Int.eq_ofNat_of_zero_le (show 0 ≤ n by omega)
    have hm : m < 6 := by omega
    have : ∀ m : Fin 6, (nmK ((m : Nat) : Int) 14).length ≤ 5 := by decide +kernel
    exact this ⟨m, hm⟩
  · simp
theorem ownS_below {w w' : World} {base m : Nat} {v : Value} {E : List (List UInt8)} (h : OwnS w base v m E) (hb : Below w.heap.size w w') : OwnS w' base v m E := by
  obtain ⟨bs, h1, h2⟩ := h
  exact ⟨bs, own_below h1 hb, h2⟩
end Go.Proofs.YtglijcdnnaekkaaGreat
