/- Contracts: SmallestFactor, both sides; its law. -/
import Derived.Test.YtifaccppbhbfhaaA381
import Derived.Test.YtifaccppbhbfhaaA20
namespace Go.Proofs.Ytifaccppbhbfhaa
set_option linter.unusedVariables false
set_option linter.unusedSimpArgs false
open Go.RowKit

/-- A list of at most nine numbers and a code; the list's block is not older than a base. -/
def LCR (B : Nat) (l : List Int) (c : Int) (w : World) (e : Ending) (w' : World) : Prop := l.length ≤ 9 ∧ ∃ (A : Option Addr) (cap : Nat), e = .returned (.tuple #[.slice A l.length cap, .int .i64 c]) ∧ w'.ownsRow B 2 1 (.slice A l.length cap) l.length (ints l) ∧ Below w.heap.size w w'
theorem LCR.nil (B : Nat) (c c' : Int) (h : c = c') {w w' : World} (hb : Below w.heap.size w w') : LCR B [] c' w (.returned (.tuple #[.slice none 0 0, .int .i64 c])) w' := by
  subst h
  exact ⟨by simp, none, 0, rfl, World.ownsRow_nil _ _ _ _, hb⟩
/-- The first factor. -/
noncomputable def smF (P : Nat) [NeZero P] (f : List Int) : List Int :=
  @dite _ (∃ L, FX.FAC P (FX.toP P f) L) (Classical.propDecidable _) (fun h => (h.choose.getD 0 ([], 0)).1) (fun _ => [])
theorem smF_of (P : Nat) [NeZero P] {f : List Int} {L : List (List Int × Nat)} (h : FX.FAC P (FX.toP P f) L) : (L.getD 0 ([], 0)).1 = smF P f := by
  have hx : ∃ L, FX.FAC P (FX.toP P f) L := ⟨L, h⟩
  unfold smF
  rw [dif_pos hx, FX.FAC.uniq P hx.choose_spec h]
noncomputable def smA (p : Int) (xs : List Int) : List Int := if h : p.toNat = 0 then [] else @smF p.toNat ⟨h⟩ xs
theorem smA_nat (P : Nat) [NeZero P] (xs : List Int) : smA (P : Int) xs = smF P xs := by
  unfold smA
  rw [dif_neg (by rw [Int.toNat_natCast]; exact NeZero.ne P)]
  rfl
noncomputable def smB (p : Int) (xs : List Int) : List Int := if facC p xs = 0 then smA p xs else []
theorem fac_ne (P : Nat) [NeZero P] (hp : FX.Prm P) {f : List Int} {L : List (List Int × Nat)} (hf : FX.Can P f) (h2 : 2 ≤ f.length) (h : FX.FAC P (FX.toP P f) L) : 0 < L.length := by
  have hFp := FX.fin_fp (p := P) hp
  obtain ⟨g, hg, hd⟩ := FX.irr_ex _ _ (show 1 ≤ f.length - 1 by omega) (hf.dg P (by omega))
  obtain ⟨l, hl, hi⟩ := FX.irr_list P hp hg
  obtain ⟨k, hk1, hk2⟩ := FX.mult_ex hl.2.2 (hf.dg P (by omega)).ne
  have hk0 : 1 ≤ k := Nat.pos_of_ne_zero fun e => by
    rw [e, Nat.zero_add] at hk2
    exact hk2 (by rw [show FX.toP P l ^ 1 = FX.toP P l by rw [show (1 : Nat) = 0 + 1 from rfl, FX.Semiring.pow_succ, FX.Semiring.pow_zero]; exact FX.rg]; exact (hi _).1 hd)
  exact List.length_pos_of_mem ((h.2 l k).2 ⟨hl, hk0, hk1, hk2⟩)
set_option maxRecDepth 20000 in
set_option maxHeartbeats 1000000 in
theorem i_SmallestFactor (p : Int) (A : Option Addr) (n c : Nat) (xs : List Int) (w : World) (hn : n = xs.length) (hl : n ≤ 1048576) (hs : IS w w.heap.size A xs) : Calls Try.prog 14 #[.int .i64 p, .slice A n c] w (LCR w.heap.size (smB p xs) (facC p xs) w) := by
  have hm := i_factorable p A n c xs w hn hl hs
  have HN := Lib.hid hn
  clear hn
  by_cases h1 : facC p xs = 0
  · obtain ⟨g1, g2, g3⟩ := facC_0 h1
    obtain ⟨P, rfl, hp, hp2, hp97⟩ := FX.prm_of (mdlB_t g1).1
    haveI : NeZero P := ⟨by omega⟩
    have hir := fun W h => i_factorsBy P hp97 hp n A n c xs W HN.out (Nat.le_refl _) (by rw [HN.out]; exact g2) (by rw [HN.out]; exact g3) (mdlB_can g1) h
    have HB : Hid (smB (P : Int) xs = smF P xs) := by unfold Hid smB; rw [if_pos h1, smA_nat]
    have HC := Lib.hid h1
    rw [h1] at hm
    clear h1 g1 g2 g3
    go_enter Try.func14, Try.ntmps14
    go_wp2_with (go_at_call 26; refine hm.mono ?_; rintro e w1 ⟨rfl, b1⟩)
    refine (hir _ (hs.call b1)).mono ?_
    rintro e w2 ⟨E, g, c1, m, hmE, hm0, hm8, hbd, hF, rfl, ho, hv, hb⟩
    obtain ⟨x, E', rfl⟩ : ∃ x E', E = x :: E' := by
      cases E with
      | nil => simp at hmE; omega
      | cons x E' => exact ⟨x, E', rfl⟩
    obtain ⟨z1, z2⟩ := eC_at (l := x :: E') (k := 0) (by simp)
    have e2 := own_hsrc ho ⟨g, 0, none⟩ rfl _ _ z1
    rw [Go.WideShapes.add_plain] at e2
    simp only [Nat.zero_mul, Nat.zero_add] at e2
    have hx : (ge (x :: E') 0).1 = x.1 := rfl
    obtain ⟨Ax, cx, hx1, hx2, hx3⟩ := hv x (by simp)
    rw [hx, hx1] at e2
    have HS : Hid (x.2.1 = smF P xs) := by
      have h := smF_of P hF
      rw [← h]; rfl
    have hxl := (hbd x (by simp)).1
    have HXO := Lib.hid hx2
    have HXL := Lib.hid hxl
    generalize x.2.1 = l at *
    have hmz : (0 : Int) < (m : Int) := by omega
    obtain ⟨xl, hxl2⟩ : ∃ xl, xl = l.length := ⟨_, rfl⟩
    rw [← hxl2] at e2
    have HXL2 := Lib.hid hxl2
    clear hx hx1 hx2 hx3 hxl z1 z2 hmE hbd hF ho hv hm8 hxl2
    go_wp2_with (fail)
    go_ret2
    rw [HB.out, ← HS.out, HC.out]
    exact ⟨HXL.out, Ax, cx, by rw [HXL2.out]; rfl, own_mono HXO.out b1.size, bel_call b1 hb⟩
  · have HB : Hid (smB p xs = []) := by unfold Hid smB; rw [if_neg h1]
    generalize facC p xs = cd at *
    have h1' : (cd == 0) = false := by rw [beq_eq_false_iff_ne]; exact h1
    clear h1
    go_enter Try.func14, Try.ntmps14
    go_wp2_with (go_at_call 26; refine hm.mono ?_; rintro e w1 ⟨rfl, b1⟩)
    go_ret2
    rw [HB.out]
    exact LCR.nil _ _ _ rfl b1
set_option maxRecDepth 20000 in
set_option maxHeartbeats 1000000 in
theorem s_SmallestFactor (p : Int) (A : Option Addr) (n c : Nat) (xs : List Int) (w : World) (hp : -9223372036854775808 ≤ p) (hn : n = xs.length) (hl : n ≤ 1048576) (hs : IS w w.heap.size A xs) : Calls Try.prog 13 #[.int .i64 p, .slice A n c] w (LCR 0 (smB p xs) (facC p xs) w) := by
  have hm := s_l09Code p A n c xs w hp hn hl hs
  have HN := Lib.hid hn
  clear hn
  by_cases h1 : facC p xs = 0
  · obtain ⟨g1, g2, g3⟩ := facC_0 h1
    obtain ⟨P, rfl, hp, hp2, hp97⟩ := FX.prm_of (mdlB_t g1).1
    haveI : NeZero P := ⟨by omega⟩
    have hir := fun W h => s_all P hp97 hp A n c xs W HN.out (by rw [HN.out]; exact g2) (by rw [HN.out]; exact g3) (mdlB_can g1) h
    have hne : ∀ L, FX.FAC P (FX.toP P xs) L → 0 < L.length := fun L h => fac_ne P hp (mdlB_can g1) g2 h
    have HNE := Lib.hid hne
    have HB : Hid (smB (P : Int) xs = smF P xs) := by unfold Hid smB; rw [if_pos h1, smA_nat]
    have HC := Lib.hid h1
    rw [h1] at hm
    clear h1 g1 g2 g3 hne
    go_enter Try.func13, Try.ntmps13
    go_wp2_with (go_at_call 25; refine hm.mono ?_; rintro e w1 ⟨rfl, q1, rfl⟩)
    refine (hir _ (hs.drewN q1)).mono ?_
    rintro e w2 ⟨L, g, c1, m, hmL, hm8, hbd, hF, rfl, ⟨vs, ho, hv⟩, hb⟩
    rw [← hmL] at ho
    have hm0 := HNE.out L hF
    obtain ⟨x, L', rfl⟩ : ∃ x L', L = x :: L' := by
      cases L with
      | nil => simp at hm0
      | cons x L' => exact ⟨x, L', rfl⟩
    obtain ⟨Ax, cx, hx1, hx2⟩ := hv.2 0 (by simp)
    have hgl : gl ((x :: L').map (·.1)) 0 = x.1 := rfl
    rw [hgl] at hx1 hx2
    obtain ⟨z1, z2⟩ := shC_at (vs := vs) (cs := tms (x :: L')) (k := 0) (by rw [hv.1]; simp [tms]) (by rw [hv.1]; simp)
    have e2 := own_hsrc ho ⟨g, 0, none⟩ rfl _ _ z1
    rw [Go.WideShapes.add_plain] at e2
    simp only [Nat.zero_mul, Nat.zero_add] at e2
    have hgv : gv vs 0 = .slice Ax x.1.length cx := by
      unfold gv
      rw [List.getD_eq_getElem?_getD, hx1]; rfl
    rw [hgv] at e2
    have HS : Hid (x.1 = smF P xs) := by
      have h := smF_of P hF
      rw [← h]; rfl
    have hxl := (hbd x (by simp)).1
    have HXO := Lib.hid hx2
    have HXL := Lib.hid hxl
    generalize x.1 = l at *
    have hmz : (0 : Int) < (m : Int) := by omega
    obtain ⟨xl, hxl2⟩ : ∃ xl, xl = l.length := ⟨_, rfl⟩
    rw [← hxl2] at e2
    have HXL2 := Lib.hid hxl2
    clear hgl hgv hx1 hx2 hxl z1 z2 hmL hbd hF ho hv hm8 hxl2 hm0
    go_wp2_with (fail)
    go_ret2
    rw [HB.out, ← HS.out, HC.out]
    exact ⟨HXL.out, Ax, cx, by rw [HXL2.out]; rfl, HXO.out, undrew hb⟩
  · have HB : Hid (smB p xs = []) := by unfold Hid smB; rw [if_neg h1]
    generalize facC p xs = cd at *
    have h1' : (cd == 0) = false := by rw [beq_eq_false_iff_ne]; exact h1
    clear h1
    go_enter Try.func13, Try.ntmps13
    go_wp2_with (go_at_call 25; refine hm.mono ?_; rintro e w1 ⟨rfl, q1, rfl⟩)
    go_ret2
    rw [HB.out]
    exact LCR.nil _ _ _ rfl (below_drewN (Below.refl _ _) _)
set_option maxHeartbeats 4000000 in
theorem law_SmallestFactor (p : Int) (A : Option Addr) (n c : Nat) (xs : List Int) (w : World) (hp : -9223372036854775808 ≤ p ∧ p ≤ 9223372036854775807) (hn : n = xs.length) (hc : n ≤ c) (hm : c ≤ maxLen) (hr : R64 xs) (hs : IS w w.heap.size A xs) :
    Calls Try.prog 5 #[.int .i64 p, .slice A n c] w (M (.bool true) w) := by
  unfold maxLen at hm
  have HN := Lib.hid hn
  clear hn hr
  by_cases hbig : 1048576 < n
  · go_enter Try.func5, Try.ntmps5
    go_wp2_with (fail)
    go_ret
    exact ⟨rfl, Below.refl _ _⟩
  have hl : n ≤ 1048576 := by omega
  clear hbig
  have hS := fun A c W h => s_SmallestFactor p A n c xs W hp.1 HN.out hl h
  have hI := fun A c W h => i_SmallestFactor p A n c xs W HN.out hl h
  clear hp
  generalize smB p xs = lst at *
  generalize facC p xs = cd at *
  generalize hL : lst.length = L at *
  have HL := Lib.hid hL.symm
  clear hL
  go_enter Try.func5, Try.ntmps5
  go_wp2_with (fail)
  refine (l_toInt64S A n c xs _ HN.out hl hs).mono ?_
  rintro e w1 ⟨g1, rfl, hN1, b1⟩
  go_wp2_with (fail)
  refine (hS _ _ _ hN1.is).mono ?_
  rintro e w2 ⟨hL9, A0, c0, rfl, o0, hb2⟩
  rw [← HL.out] at o0 hL9 ⊢
  have hL0 : L ≤ 1048576 := by omega
  have b2 := bel_call b1 hb2
  go_wp2_with (fail)
  refine (l_toInt64S A n c xs _ HN.out hl (hs.call b2)).mono ?_
  rintro e w3 ⟨g3, rfl, hN3, hb3⟩
  have b3 := bel_call b2 hb3
  have o03 := own_below o0 hb3
  go_wp2_with (fail)
  refine (hI _ _ _ hN3.is).mono ?_
  rintro e w4 ⟨_, A1, c1, rfl, o1, hb4⟩
  rw [← HL.out] at o1 ⊢
  have b4 := bel_call b3 hb4
  have o04 := own_below o03 hb4
  have x4 := hN3.below hb4 hN3.lt
  go_wp2_with (fail)
  refine (l_eqInt64S _ _ L _ L _ lst _ _ _ HL.out HL.out (by omega) (own_isn o1 HL.out) (own_isn o04 HL.out)).mono ?_
  rintro e w5 ⟨rfl, q5, rfl⟩
  go_wp2_with (fail)
  refine (l_toInt64S A n c xs _ HN.out hl ((hs.call b4).drewN q5)).mono ?_
  rintro e w6 ⟨g6, rfl, hN6, hb6⟩
  have hb6 := undrew hb6
  have b6 := bel_call b4 hb6
  have x6 := x4.below hb6 x4.lt
  have o06 := own_below o04 hb6
  have o16 := own_below o1 hb6
  go_wp2_with (fail)
  refine (l_eqInt64S _ _ n _ n _ xs _ _ _ HN.out HN.out (by omega) x6.is hN6.is).mono ?_
  rintro e w7 ⟨rfl, q7, rfl⟩
  go_wp2_with (fail)
  refine (l_mark1 _ n n w2.heap.size xs _ HN.out hl ((x6.drewN q7).own' HN.out hl)).mono ?_
  rintro e w8 ⟨rfl, m8, g8⟩
  have g8 := undrewG g8
  have hg3 : w2.heap.size ≤ g3 ∧ g3 < w3.heap.size := ⟨hN3.1, hN3.lt⟩
  have o08 := kept_ge o0 o06 g8 (fun g hg => by simp [Value.ownBlock] at hg; omega)
  have o18 := kept_lt o16 g8 (fun g hg => by simp [Value.ownBlock] at hg; omega)
  have b8 : Below w.heap.size w w8 := b6.grown g8 b6.size (fun g hg => by simp [Value.ownBlock] at hg; have := b2.size; omega)
  clear g8 m8 x6 x4 hN6 hN1
  go_wp2_with (fail)
  refine (l_eqInt64S _ _ L _ L _ lst _ _ _ HL.out HL.out (by omega) (own_isn o18 HL.out) (own_isn o08 HL.out)).mono ?_
  rintro e w9 ⟨rfl, q9, rfl⟩
  go_wp2_with (fail)
  have o18q : (w8.drewN q9).ownsRow w3.heap.size 2 1 (.slice A1 L c1) L (ints lst) := o18
  refine (l_mark1 A1 L c1 w3.heap.size lst _ HL.out hL0 o18q).mono ?_
  rintro e w10 ⟨rfl, m10, g10⟩
  have g10 := undrewG g10
  have o010 := kept_ge o0 o08 g10 (fun g hg => by have := (o18.lt g hg).1; have := hb3.size; omega)
  have b10 : Below w.heap.size w w10 := b8.grown g10 b8.size (fun g hg => by have := (o18.lt g hg).1; have := b3.size; omega)
  clear g10
  go_wp2_with (fail)
  refine (l_held1 A1 L c1 _ _ hL0 (own_isn m10 (by rw [marks_length]))).mono ?_
  rintro e w11 ⟨rfl, q11, rfl⟩
  go_wp2_with (fail)
  refine (l_toInt64S A n c xs _ HN.out hl ((hs.call b10).drewN q11)).mono ?_
  rintro e w12 ⟨g12, rfl, hN12, hb12⟩
  have hb12 := undrew hb12
  have b12 := bel_call b10 hb12
  have o012 := own_below o010 hb12
  have m12 := own_below m10 hb12
  go_wp2_with (fail)
  refine (hI _ _ _ hN12.is).mono ?_
  rintro e w13 ⟨_, A2, c2, rfl, o2, hb13⟩
  rw [← HL.out] at o2 ⊢
  have b13 := bel_call b12 hb13
  have o013 := own_below o012 hb13
  have m13 := own_below m12 hb13
  go_wp2_with (fail)
  refine (l_eqInt64S _ _ L _ L _ lst _ _ _ HL.out HL.out (by omega) (own_isn o2 HL.out) (own_isn o013 HL.out)).mono ?_
  rintro e w14 ⟨rfl, q14, rfl⟩
  go_wp2_with (fail)
  refine (l_held1 A1 L c1 _ _ hL0 ((own_isn m13 (by rw [marks_length])).drewN q14)).mono ?_
  rintro e w15 ⟨rfl, q15, rfl⟩
  go_wp2_with (fail)
  go_ret
  refine ⟨rfl, ?_⟩
  repeat (first | exact b13 | refine below_drewN ?_ _)
end Go.Proofs.Ytifaccppbhbfhaa
