/- Several parts of the proof in one text; each part says what it shows. Nothing is assumed. -/
import Derived.Test.YtglijcdnnaekkaaGreatA245
import Derived.Test.YtglijcdnnaekkaaGreatA121
import Derived.Test.YtglijcdnnaekkaaGreatA173
import Derived.Test.YtglijcdnnaekkaaGreatA194
import Derived.Test.YtglijcdnnaekkaaGreatA231
/- Fixed points and numbers of orbits: both sides. -/
namespace Go.Proofs.YtglijcdnnaekkaaGreat
set_option linter.unusedVariables false
set_option linter.unusedSimpArgs false
open Go.RowKit

def fxP (a : List Int) (j : Nat) : Nat := ((List.range j).filter fun p => ap a p == p).length
theorem fxP_yes {a : List Int} {j : Nat} (h0 : 0 ≤ gt a j) (h : (gt a j == (j : Int)) = true) : fxP a (j + 1) = fxP a j + 1 := by
  have e : (ap a j == j) = true := by rw [beq_iff_eq] at h ⊢; unfold ap; omega
  simp [fxP, List.range_succ, e]
theorem fxP_no {a : List Int} {j : Nat} (h0 : 0 ≤ gt a j) (h : (gt a j == (j : Int)) = false) : fxP a (j + 1) = fxP a j := by
  have e : (ap a j == j) = false := by rw [beq_eq_false_iff_ne] at h ⊢; unfold ap; omega
  simp [fxP, List.range_succ, e]
theorem fxP_le (a : List Int) (j : Nat) : fxP a j ≤ j := by
  have := List.length_filter_le (fun p => ap a p == p) (List.range j)
  rwa [List.length_range] at this
theorem fxP_all (n : Nat) (a : List Int) : fxP a n = fxN n a := rfl
def fpA (p : Int) (l : List Int) : List Int := if grpB p l then fpS p.toNat (memL p.toNat l) else []
def coA (p : Int) (l : List Int) : Int := if grpB p l then ((obL p.toNat l p.toNat).length : Nat) else 0
set_option maxHeartbeats 1000000 in
theorem l_sum (A : Option Addr) (n c : Nat) (l : List Int) (w : World) (B : Nat) (hn : n = l.length) (hl : n ≤ 7) (hb : ∀ k, k < n → 0 ≤ gt l k ∧ gt l k ≤ 720) (hs : IS w B A l) :
    Calls Tryz.prog 47 #[.slice A n c] w (Q (.int .i64 (sm1 l n)) w) := by
  have HN := Lib.hid hn
  have HB := Lib.hid hb
  clear hn hb
  go_enter Tryz.func47, Tryz.ntmps47
  go_wp2_with (fail)
  go_loopw [3, 4] (fun u3 u4 wr => ∃ k : Nat, k ≤ n ∧ u4 = .int .i64 k ∧ u3 = .int .i64 (sm1 l k) ∧ DR w wr) (fun _ u4 _ => n - (intOf u4).toNat)
  case atStart => exact ⟨0, Nat.zero_le _, rfl, rfl, DR.refl _⟩
  case round =>
    obtain ⟨k, hk, rfl, rfl, hdr⟩ := hrel
    have hsb := (sm_bd (l := l) (b := 720) k (fun i hi => HB.out i (by omega)) (by omega)).1
    have hsb2 : (k : Int) * 720 ≤ 5040 := by omega
    by_cases hlt : k < n
    · obtain ⟨b, off, rfl, hbb, hcell⟩ := hs.at (k := k) (by rw [← HN.out]; exact hlt)
      have e1 := (hdr.cell _).trans (hcell k (by rw [← HN.out]; exact hlt))
      have hg := HB.out k hlt
      have HS := Lib.hid (show sm1 l (k + 1) = sm1 l k + gt l k from rfl)
      generalize sm1 l k = s at *
      generalize gt l k = x at *
      clear hcell
      go_wp2_with (go_quiet (fail))
      go_roundw
      case rel => exact ⟨k + 1, by omega, by go_num, by rw [HS.out], by repeat (first | exact hdr | refine DR.step ?_ _)⟩
      case measure => simp [intOf]; omega
    · obtain rfl : k = n := by omega
      go_wp2_with (fail)
      go_ret
      exact ⟨rfl, hdr⟩
set_option maxHeartbeats 1000000 in
theorem l_hasInt (A : Option Addr) (n c : Nat) (x : Int) (l : List Int) (w : World) (B : Nat) (hn : n = l.length) (hl : n ≤ 1048576) (hx : x ∈ l) (hs : IS w B A l) :
    Calls Tryz.prog 20 #[.slice A n c, .int .i64 x] w (Q (.bool true) w) := by
  obtain ⟨j, hj, he⟩ := List.mem_iff_getElem.1 hx
  have he : gt l j = x := by rw [gt_eq hj, he]
  have hj : j < n := by omega
  have HN := Lib.hid hn
  have HE := Lib.hid he
  clear hn he hx
  go_enter Tryz.func20, Tryz.ntmps20
  go_wp2_with (fail)
  go_loopw [5] (fun u wr => ∃ k : Nat, k ≤ j ∧ u = .int .i64 k ∧ DR w wr) (fun u _ => n - (intOf u).toNat)
  case atStart => exact ⟨0, Nat.zero_le _, rfl, DR.refl _⟩
  case round =>
    obtain ⟨k, hk, rfl, hdr⟩ := hrel
    have hlt : k < n := by omega
    obtain ⟨b, off, rfl, hbb, hcell⟩ := hs.at (k := k) (by rw [← HN.out]; exact hlt)
    have e1 := (hdr.cell _).trans (hcell k (by rw [← HN.out]; exact hlt))
    have hkj : gt l k ≠ x → k ≠ j := fun h h' => h (by rw [h']; exact HE.out)
    have HKJ := Lib.hid hkj
    clear hcell hkj
    generalize gt l k = y at *
    cases ht : (y == x)
    · have hk2 := HKJ.out (by rw [beq_eq_false_iff_ne] at ht; exact ht)
      go_wp2_with (go_quiet (fail))
      go_roundw
      case rel => exact ⟨k + 1, by omega, by go_num, by repeat (first | exact hdr | refine DR.step ?_ _)⟩
      case measure => simp [intOf]; omega
    · go_wp2_with (go_quiet (fail))
      go_ret
      exact ⟨rfl, by repeat (first | exact hdr | refine DR.step ?_ _)⟩
end Go.Proofs.YtglijcdnnaekkaaGreat
/- Draws of groups and points; tables that are alike. -/
namespace Go.Proofs.YtglijcdnnaekkaaGreat
set_option linter.unusedVariables false
set_option linter.unusedSimpArgs false
open Go.RowKit

set_option maxHeartbeats 1000000 in
theorem l_likeTables (A A' : Option Addr) (n c c' : Nat) (ll : List (List Int)) (w : World) (B B' : Nat) (hn : n = ll.length) (hl : n ≤ 1048576) (hrl : ∀ k, k < n → (gl ll k).length ≤ 1048576) (hs : II w B A ll) (hs' : II w B' A' ll) :
    Calls Tryz.prog 18 #[.slice A n c, .slice A' n c'] w (Q (.bool true) w) := by
  have HN := Lib.hid hn
  have HR := Lib.hid hrl
  clear hn hrl
  go_enter Tryz.func18, Tryz.ntmps18
  go_wp2_with (fail)
  go_loopw [5] (fun u wr => ∃ k : Nat, k ≤ n ∧ u = .int .i64 k ∧ DR w wr) (fun u _ => n - (intOf u).toNat)
  case atStart => exact ⟨0, Nat.zero_le _, rfl, DR.refl _⟩
  case round =>
    obtain ⟨k, hk, rfl, hdr⟩ := hrel
    by_cases hlt : k < n
    · obtain ⟨b, off, rfl, hbb, hcell⟩ := hs.at (k := k) (by rw [← HN.out]; exact hlt)
      obtain ⟨b', off', rfl, hbb', hcell'⟩ := hs'.at (k := k) (by rw [← HN.out]; exact hlt)
      obtain ⟨Ar, cr, h1, _, _, i1⟩ := hcell k (by rw [← HN.out]; exact hlt)
      obtain ⟨Ar', cr', h2, _, _, i2⟩ := hcell' k (by rw [← HN.out]; exact hlt)
      have hml := HR.out k hlt
      have h1 := (hdr.cell _).trans h1
      have h2 := (hdr.cell _).trans h2
      have i1 : IS wr B Ar (gl ll k) := by obtain ⟨m, rfl⟩ := hdr; exact i1
      have i2 : IS wr B' Ar' (gl ll k) := by obtain ⟨m, rfl⟩ := hdr; exact i2
      clear hcell hcell'
      generalize hL : (gl ll k).length = L at *
      have HL := Lib.hid hL.symm
      clear hL
      go_wp2_with (go_quiet ((go_at_call 19; exact Calls.quiet_of (l_likeInts Ar Ar' L cr cr' (gl ll k) _ _ _ HL.out (by omega) (i1.drewN _) (i2.drewN _)))))
      go_roundw
      case rel => exact ⟨k + 1, by omega, by go_num, by repeat (first | assumption | refine DR.step ?_ _)⟩
      case measure => simp [intOf]; omega
    · obtain rfl : k = n := by omega
      go_wp2_with (fail)
      go_ret
      exact ⟨rfl, hdr⟩
theorem isf_keep {w w' : World} {lo : Nat} {A : Option Addr} {l : List Int} (h : ISF w lo A l) (hz : w.heap.size ≤ w'.heap.size) (hk : ∀ b, lo ≤ b → b < w.heap.size → w'.heap[b]? = w.heap[b]?) : ISF w' lo A l := fun h0 => by
  obtain ⟨b, off, rfl, h1, h2, h3⟩ := h h0
  exact ⟨b, off, rfl, h1, by omega, fun k hk' => (World.cell?_of_block (w := w) (hk b h1 h2)).trans (h3 k hk')⟩
theorem isf_up {w w' : World} {g lo : Nat} {A : Option Addr} {l : List Int} (h : ISF w lo A l) (hu : Up g w.heap.size w w') (hg : g < lo) : ISF w' lo A l := isf_keep h hu.size fun b h1 h2 => hu.block b h2 (by omega)
theorem isf_below {w w' : World} {lo : Nat} {A : Option Addr} {l : List Int} (h : ISF w lo A l) (hb : Below w.heap.size w w') : ISF w' lo A l := isf_keep h hb.size fun b _ h2 => hb.block b h2
theorem isf_two {w : World} {lo r : Nat} {A : Option Addr} {l : List Int} (h : ISF w lo A l) (hr : r < lo) (x y : Value) : ISF ((w.setCell ⟨r, 0, none⟩ x).setCell ⟨r, 1, none⟩ y) lo A l :=
  isf_keep h (by simp) fun b h1 _ => (Below.heap_setCell _ ⟨r, 1, none⟩ y b (by show b ≠ r; omega)).trans (Below.heap_setCell _ ⟨r, 0, none⟩ x b (by show b ≠ r; omega))
/-- A group and a point. -/
def GPD (w : World) (e : Ending) (w' : World) : Prop := ∃ (p : Int) (A : Option Addr) (L c : Nat) (l : List Int) (x : Int), e = .returned (.tuple #[.agg #[.int .i64 p, .slice A L c], .int .i64 x]) ∧ L = l.length ∧ L ≤ 1000 ∧ IS w' w'.heap.size A l ∧ Below w.heap.size w w'
def GPF (w : World) (e : Ending) (w' : World) : Prop := ∃ (p : Int) (A : Option Addr) (L c : Nat) (l : List Int) (x : Int), e = .returned (.tuple #[.agg #[.int .i64 p, .slice A L c], .int .i64 x]) ∧ L = l.length ∧ L ≤ 1000 ∧ ISF w' w.heap.size A l ∧ Below w.heap.size w w'
theorem GPF.pd {w w' : World} {e : Ending} (h : GPF w e w') : GPD w e w' := by
  obtain ⟨p, A, L, c, l, x, h1, h2, h3, h4, h5⟩ := h
  exact ⟨p, A, L, c, l, x, h1, h2, h3, h4.is, h5⟩
theorem isf_lo {w : World} {lo lo' : Nat} {A : Option Addr} {l : List Int} (h : ISF w lo A l) (hl : lo' ≤ lo) : ISF w lo' A l := fun h0 => by
  obtain ⟨b, off, rfl, h1, h2, h3⟩ := h h0
  exact ⟨b, off, rfl, by omega, h2, h3⟩
/-- A group out of a code. -/
def GCD (w : World) (e : Ending) (w' : World) : Prop := ∃ (p : Int) (A : Option Addr) (L c : Nat) (l : List Int), e = .returned (.agg #[.int .i64 p, .slice A L c]) ∧ L = l.length ∧ L ≤ 1000 ∧ IS w' w'.heap.size A l ∧ Below w.heap.size w w'
theorem bk_upg {g r : Nat} {w w' : World} {t : TypeId} {cs : Array Value} {B : Nat} (h : BK w r t cs) (hu : Up g B w w') (hr : r < B) (hne : r ≠ g) : BK w' r t cs := by
  unfold BK at h ⊢
  rw [hu.block _ hr hne]
  exact h
set_option maxRecDepth 20000 in
set_option maxHeartbeats 2000000 in
theorem s_DrawOrbitOfF (A : Option Addr) (n c : Nat) (w : World) (hn : n ≤ 4096) (hs : YB w w.heap.size A n) : Calls Tryz.prog 68 #[.slice A n c] w (GPF w) := by
  have B0 := BK.new w 26 #[.int .i64 0, .slice none 0 0]
  have hb0 := (Below.refl w.heap.size w).alloc (Nat.le_refl _) (.cells #[.int .i64 0, .slice none 0 0] 26)
  have hz0 := B0.lt
  have hf := s_l01From A n c _ hn (hs.call hb0)
  have hd := fun g W h => s_l22Draw g W h
  clear hn hs
  go_enter Tryz.func68, Tryz.ntmps68
  go_wp2_with (fail)
  generalize w.alloc (.cells #[.int .i64 0, .slice none 0 0] 26) = w0 at *
  refine hf.mono ?_
  rintro e w1 ⟨rfl, hs1, hb1⟩
  have B1 := B0.below hb1 hz0
  have hz1 := hb1.size
  have hl1 := hs1.lt
  clear hf
  go_wp2_with (fail)
  refine (hd _ _ hs1).mono ?_
  rintro e w2 ⟨p, A2, L, c2, l, rfl, hL, hl, hi, hs2, hu2⟩
  have HL := Lib.hid hL
  have B2 := bk_upg B1 hu2 (by omega) (by omega)
  have u2 := (Up.of (g := w0.heap.size) hb1).call hu2
  have hz2 := hu2.size
  have hb3 := (Below.refl w2.heap.size w2).alloc (Nat.le_refl _) (.cells #[.int .i64 p, .slice A2 L c2] 26)
  have G3 := BK.new w2 26 #[.int .i64 p, .slice A2 L c2]
  have B3 := B2.below hb3 (by omega)
  have hs3 := hs2.call hb3
  have u3 := u2.thenB hb3
  have hi3 := isf_below hi hb3
  have hz3 := G3.lt
  clear B0 B1 B2 u2 hu2 hs1 hs2 hd hb1 hb3 hL hi
  go_wp2_with (fail)
  generalize w2.alloc (.cells #[.int .i64 p, .slice A2 L c2] 26) = w3 at *
  have hS0 : w3.drew.cell? ⟨w2.heap.size, 0, none⟩ = some (.int .i64 p) ∧ w3.drew.cell? ⟨w2.heap.size, 1, none⟩ = some (.slice A2 L c2) := ⟨G3.two.1, G3.two.2.1⟩
  have hp3 : p < 1 ∨ p = 1 ∨ 1 < p := by omega
  rcases hp3 with hp3 | rfl | hp3
  · skip
    go_region_held3 (fun W => W.cell? ⟨w2.heap.size, 0, none⟩ = some (.int .i64 p) ∧ W.cell? ⟨w2.heap.size, 1, none⟩ = some (.slice A2 L c2)) ((first | exact hS8 | exact hS7 | exact hS6 | exact hS0 | exact ⟨cell_two_far (by omega) hS8.1 _ _, cell_two_far (by omega) hS8.2 _ _⟩))
      (first
        | (go_at_call 69; refine (s_nextI w0.heap.size 24 (by omega) w7 hs7).mono ?_; rintro e w8 ⟨k8, rfl, hk8, hs8, hu8⟩; have u8 := u7.call hu8; have G8 := bk_upg G7 hu8 (by omega) (by omega); have B8 := bk_upg B7 hu8 (by omega) (by omega); have hS8 := And.intro G8.two.1 G8.two.2.1; have hi8 := isf_up hi7 hu8 (by omega); obtain ⟨f0, f1, f2, f3⟩ := B8.two)
        | (go_at_call 69; refine (s_l01Next w0.heap.size _ w6 hs6).mono ?_; rintro e w7 ⟨r7, rfl, hr7, hs7, hu7⟩; have u7 := u6.call hu7; have G7 := bk_upg G6 hu7 (by omega) (by omega); have B7 := bk_upg B6 hu7 (by omega) (by omega); have hS7 := And.intro G7.two.1 G7.two.2.1; have hi7 := isf_up hi6 hu7 (by omega); have hz7 := hu7.size)
        | (go_at_call 69; refine (s_nextI w0.heap.size 12 (by omega) w3.drew (hs3.drewN 1)).mono ?_; rintro e w6 ⟨k6, rfl, hk6, hs6, hu6⟩; have hu6 : Up w0.heap.size w3.heap.size w3 w6 := ⟨hu6.os, hu6.tape, hu6.output, hu6.size, hu6.block⟩; have u6 := u3.call hu6; have G6 := bk_upg G3 hu6 (by omega) (by omega); have B6 := bk_upg B3 hu6 (by omega) (by omega); have hS6 := And.intro G6.two.1 G6.two.2.1; have hi6 := isf_up hi3 hu6 (by omega); have hz6 := hu6.size)
        | fail)
    all_goals
      have b8 := bel_call hb0 (u8.below (Nat.le_refl _))
      obtain ⟨d0, d1⟩ := set2 (x := .int .i64 p) (y := .slice A2 L c2) B8
      have b9 := (b8.setCell (p := ⟨w.heap.size, 0, none⟩) (Nat.le_refl _) (.int .i64 p)).setCell (p := ⟨w.heap.size, 1, none⟩) (Nat.le_refl _) (.slice A2 L c2)
      have hi9 := isf_two hi8 (r := w.heap.size) (by omega) (.int .i64 p) (.slice A2 L c2)
      generalize IntKind.i64.wrap (r7 - IntKind.i64.wrap ((k8 : Int) / 23)) = x at *
      go_wp2_with (fail)
      generalize (w8.setCell ⟨w.heap.size, 0, none⟩ (.int .i64 p)).setCell ⟨w.heap.size, 1, none⟩ (.slice A2 L c2) = w9 at *
      refine bodyPost_ret (v := .tuple #[.agg #[.int .i64 p, .slice A2 L c2], .int .i64 x]) (by simp [results, Tryz.results68, go_sem, d0, d1]) rfl ?_
      exact ⟨p, A2, L, c2, l, x, rfl, HL.out, hl, isf_lo hi9 (by omega), b9⟩
  · skip
    go_region_held3 (fun W => W.cell? ⟨w2.heap.size, 0, none⟩ = some (.int .i64 1) ∧ W.cell? ⟨w2.heap.size, 1, none⟩ = some (.slice A2 L c2)) ((first | exact hS8 | exact hS7 | exact hS6 | exact hS0 | exact ⟨cell_two_far (by omega) hS8.1 _ _, cell_two_far (by omega) hS8.2 _ _⟩))
      (first
        | (go_at_call 69; refine (s_nextI w0.heap.size 24 (by omega) w7 hs7).mono ?_; rintro e w8 ⟨k8, rfl, hk8, hs8, hu8⟩; have u8 := u7.call hu8; have G8 := bk_upg G7 hu8 (by omega) (by omega); have B8 := bk_upg B7 hu8 (by omega) (by omega); have hS8 := And.intro G8.two.1 G8.two.2.1; have hi8 := isf_up hi7 hu8 (by omega); obtain ⟨f0, f1, f2, f3⟩ := B8.two)
        | (go_at_call 69; refine (s_l01Next w0.heap.size _ w6 hs6).mono ?_; rintro e w7 ⟨r7, rfl, hr7, hs7, hu7⟩; have u7 := u6.call hu7; have G7 := bk_upg G6 hu7 (by omega) (by omega); have B7 := bk_upg B6 hu7 (by omega) (by omega); have hS7 := And.intro G7.two.1 G7.two.2.1; have hi7 := isf_up hi6 hu7 (by omega); have hz7 := hu7.size)
        | (go_at_call 69; refine (s_nextI w0.heap.size 12 (by omega) w3.drew (hs3.drewN 1)).mono ?_; rintro e w6 ⟨k6, rfl, hk6, hs6, hu6⟩; have hu6 : Up w0.heap.size w3.heap.size w3 w6 := ⟨hu6.os, hu6.tape, hu6.output, hu6.size, hu6.block⟩; have u6 := u3.call hu6; have G6 := bk_upg G3 hu6 (by omega) (by omega); have B6 := bk_upg B3 hu6 (by omega) (by omega); have hS6 := And.intro G6.two.1 G6.two.2.1; have hi6 := isf_up hi3 hu6 (by omega); have hz6 := hu6.size)
        | fail)
    all_goals
      have b8 := bel_call hb0 (u8.below (Nat.le_refl _))
      obtain ⟨d0, d1⟩ := set2 (x := .int .i64 1) (y := .slice A2 L c2) B8
      have b9 := (b8.setCell (p := ⟨w.heap.size, 0, none⟩) (Nat.le_refl _) (.int .i64 1)).setCell (p := ⟨w.heap.size, 1, none⟩) (Nat.le_refl _) (.slice A2 L c2)
      have hi9 := isf_two hi8 (r := w.heap.size) (by omega) (.int .i64 1) (.slice A2 L c2)
      generalize IntKind.i64.wrap (r7 - IntKind.i64.wrap ((k8 : Int) / 23)) = x at *
      go_wp2_with (fail)
      generalize (w8.setCell ⟨w.heap.size, 0, none⟩ (.int .i64 1)).setCell ⟨w.heap.size, 1, none⟩ (.slice A2 L c2) = w9 at *
      refine bodyPost_ret (v := .tuple #[.agg #[.int .i64 1, .slice A2 L c2], .int .i64 x]) (by simp [results, Tryz.results68, go_sem, d0, d1]) rfl ?_
      exact ⟨1, A2, L, c2, l, x, rfl, HL.out, hl, isf_lo hi9 (by omega), b9⟩
  · skip
    go_region_held3 (fun W => W.cell? ⟨w2.heap.size, 0, none⟩ = some (.int .i64 p) ∧ W.cell? ⟨w2.heap.size, 1, none⟩ = some (.slice A2 L c2)) ((first | exact hS8 | exact hS7 | exact hS6 | exact hS0 | exact ⟨cell_two_far (by omega) hS8.1 _ _, cell_two_far (by omega) hS8.2 _ _⟩))
      (first
        | (go_at_call 69; refine (s_nextI w0.heap.size 24 (by omega) w7 hs7).mono ?_; rintro e w8 ⟨k8, rfl, hk8, hs8, hu8⟩; have u8 := u7.call hu8; have G8 := bk_upg G7 hu8 (by omega) (by omega); have B8 := bk_upg B7 hu8 (by omega) (by omega); have hS8 := And.intro G8.two.1 G8.two.2.1; have hi8 := isf_up hi7 hu8 (by omega); obtain ⟨f0, f1, f2, f3⟩ := B8.two)
        | (go_at_call 69; refine (s_l01Next w0.heap.size _ w6 hs6).mono ?_; rintro e w7 ⟨r7, rfl, hr7, hs7, hu7⟩; have u7 := u6.call hu7; have G7 := bk_upg G6 hu7 (by omega) (by omega); have B7 := bk_upg B6 hu7 (by omega) (by omega); have hS7 := And.intro G7.two.1 G7.two.2.1; have hi7 := isf_up hi6 hu7 (by omega); have hz7 := hu7.size)
        | (go_at_call 69; refine (s_nextI w0.heap.size 12 (by omega) w3.drew (hs3.drewN 1)).mono ?_; rintro e w6 ⟨k6, rfl, hk6, hs6, hu6⟩; have hu6 : Up w0.heap.size w3.heap.size w3 w6 := ⟨hu6.os, hu6.tape, hu6.output, hu6.size, hu6.block⟩; have u6 := u3.call hu6; have G6 := bk_upg G3 hu6 (by omega) (by omega); have B6 := bk_upg B3 hu6 (by omega) (by omega); have hS6 := And.intro G6.two.1 G6.two.2.1; have hi6 := isf_up hi3 hu6 (by omega); have hz6 := hu6.size)
        | fail)
    all_goals
      have b8 := bel_call hb0 (u8.below (Nat.le_refl _))
      obtain ⟨d0, d1⟩ := set2 (x := .int .i64 p) (y := .slice A2 L c2) B8
      have b9 := (b8.setCell (p := ⟨w.heap.size, 0, none⟩) (Nat.le_refl _) (.int .i64 p)).setCell (p := ⟨w.heap.size, 1, none⟩) (Nat.le_refl _) (.slice A2 L c2)
      have hi9 := isf_two hi8 (r := w.heap.size) (by omega) (.int .i64 p) (.slice A2 L c2)
      generalize IntKind.i64.wrap (r7 - IntKind.i64.wrap ((k8 : Int) / 23)) = x at *
      go_wp2_with (fail)
      generalize (w8.setCell ⟨w.heap.size, 0, none⟩ (.int .i64 p)).setCell ⟨w.heap.size, 1, none⟩ (.slice A2 L c2) = w9 at *
      refine bodyPost_ret (v := .tuple #[.agg #[.int .i64 p, .slice A2 L c2], .int .i64 x]) (by simp [results, Tryz.results68, go_sem, d0, d1]) rfl ?_
      exact ⟨p, A2, L, c2, l, x, rfl, HL.out, hl, isf_lo hi9 (by omega), b9⟩
theorem s_DrawOrbitOf (A : Option Addr) (n c : Nat) (w : World) (hn : n ≤ 4096) (hs : YB w w.heap.size A n) : Calls Tryz.prog 68 #[.slice A n c] w (GPD w) := (s_DrawOrbitOfF A n c w hn hs).mono fun _ _ h => h.pd
end Go.Proofs.YtglijcdnnaekkaaGreat
