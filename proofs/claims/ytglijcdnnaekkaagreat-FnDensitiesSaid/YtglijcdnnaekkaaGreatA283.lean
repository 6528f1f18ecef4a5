/- Several parts of the proof in one text; each part says what it shows. Nothing is assumed. -/
import Derived.Test.YtglijcdnnaekkaaGreatA276
import Derived.Test.YtglijcdnnaekkaaGreatA281
import Derived.Test.YtglijcdnnaekkaaGreatA101
/- DensityOf, both sides. -/
namespace Go.Proofs.YtglijcdnnaekkaaGreat
set_option linter.unusedVariables false
set_option linter.unusedSimpArgs false
open Go.RowKit

/-- How often a type occurs among shares. -/
def cnS (t : List Int) (ts : List (List Int)) (cs : List Int) : Nat → Int
  | 0 => 0
  | k + 1 => if gl ts k = t then gt cs k else cnS t ts cs k
theorem cnS_yes {t : List Int} {ts : List (List Int)} {cs : List Int} {k : Nat} (h : gl ts k = t) : cnS t ts cs (k + 1) = gt cs k := by rw [cnS, if_pos h]
theorem cnS_no {t : List Int} {ts : List (List Int)} {cs : List Int} {k : Nat} (h : ¬ gl ts k = t) : cnS t ts cs (k + 1) = cnS t ts cs k := by rw [cnS, if_neg h]
/-- The group of a name: types and counts. -/
def gT (i : Nat) : List (List Int) := shO (tyM (lbP i) (RK (lbP i) (lbG i))) (RK (lbP i) (lbG i)).length
def gC (i : Nat) : List Int := ctL (tyM (lbP i) (RK (lbP i) (lbG i))) (RK (lbP i) (lbG i)).length (gT i)
def gN (i : Nat) (t : List Int) : Int := cnS t (gT i) (gC i) (gT i).length
theorem RK_l14 : ∀ i : Fin 14, (decide (1 ≤ (RK (lbP i) (lbG i)).length) && decide ((RK (lbP i) (lbG i)).length ≤ 720)) = true := by decide +kernel
theorem RK_l720 (i : Nat) (hi : i < 14) : 1 ≤ (RK (lbP i) (lbG i)).length ∧ (RK (lbP i) (lbG i)).length ≤ 720 := by
  have h := RK_l14 ⟨i, hi⟩
  rw [Bool.and_eq_true] at h
  exact ⟨of_decide_eq_true h.1, of_decide_eq_true h.2⟩
theorem gC_bd (i : Nat) (hi : i < 14) (k : Nat) (hk : k < (gT i).length) : 0 ≤ gt (gC i) k ∧ gt (gC i) k ≤ 720 := by
  unfold gC
  rw [ctL_gt hk]
  have h1 := cntT_le (tyM (lbP i) (RK (lbP i) (lbG i))) (RK (lbP i) (lbG i)).length (gl (gT i) k)
  have h2 := (RK_l720 i hi).2
  omega
theorem cnS_bd {t : List Int} {ts : List (List Int)} {cs : List Int} (h : ∀ k, k < ts.length → 0 ≤ gt cs k ∧ gt cs k ≤ 720) : ∀ k, k ≤ ts.length → 0 ≤ cnS t ts cs k ∧ cnS t ts cs k ≤ 720
  | 0, _ => by simp [cnS]
  | k + 1, hk => by
    rw [cnS]
    split
    · exact h k (by omega)
    · exact cnS_bd h k (by omega)
/-- What DensityOf answers. -/
def DNV (s : ByteArray) (t : List Int) (x y c : Int) : Prop :=
  (typeB t = false ∧ x = 0 ∧ y = 0 ∧ c = 1) ∨ (typeB t = true ∧ NoN s ∧ x = 0 ∧ y = 0 ∧ c = 4) ∨
  (∃ i, i < 14 ∧ s.toList = lbN i ∧ typeB t = true ∧ ((¬ t.sum = (lbP i : Nat) ∧ x = 0 ∧ y = 0 ∧ c = 5) ∨ (t.sum = (lbP i : Nat) ∧ x = mkN (gN i t) (RK (lbP i) (lbG i)).length ∧ y = mkD (gN i t) (RK (lbP i) (lbG i)).length ∧ c = 0)))
theorem dnv_ex (s : ByteArray) (t : List Int) : ∃ x y c, DNV s t x y c := by
  cases ht : typeB t
  · exact ⟨0, 0, 1, .inl ⟨ht, rfl, rfl, rfl⟩⟩
  · obtain ⟨p, l, code, h⟩ := nv_ex s
    rcases h with ⟨i, hi, hs, _⟩ | ⟨h, _⟩
    · by_cases e : t.sum = (lbP i : Nat)
      · exact ⟨_, _, _, .inr (.inr ⟨i, hi, hs, ht, .inr ⟨e, rfl, rfl, rfl⟩⟩)⟩
      · exact ⟨0, 0, 5, .inr (.inr ⟨i, hi, hs, ht, .inl ⟨e, rfl, rfl, rfl⟩⟩)⟩
    · exact ⟨0, 0, 4, .inr (.inl ⟨ht, h, rfl, rfl, rfl⟩)⟩
set_option maxHeartbeats 1000000 in
theorem i_Density1 (s : ByteArray) (A : Option Addr) (n c : Nat) (t : List Int) (w : World) (hn : n = t.length) (hl : n ≤ 1048576) (hs : IS w w.heap.size A t) (ht : typeB t = false) :
    Calls Tryz.prog 40 #[.string s, .slice A n c] w (MR 0 0 1 w) := by
  have B0 := BK.new w 63 #[.int .i64 0, .int .i64 0]
  have hb0 := (Below.refl w.heap.size w).alloc (Nat.le_refl _) (.cells #[.int .i64 0, .int .i64 0] 63)
  have hty := i_IsType A n c t _ _ hn hl (hs.call hb0)
  rw [ht] at hty
  clear hn hl hs ht
  go_enter Tryz.func40, Tryz.ntmps40
  go_wp2_with (fail)
  refine hty.mono ?_
  rintro e w1 ⟨rfl, q1, rfl⟩
  have B1 := B0.drewN q1
  have b1 := below_drewN hb0 q1
  generalize (w.alloc (.cells #[.int .i64 0, .int .i64 0] 63)).drewN q1 = w1 at *
  obtain ⟨r0, r1, rf0, rf1⟩ := B1.two
  obtain ⟨d0, d1⟩ := set2 (x := .int .i64 0) (y := .int .i64 0) B1
  have bz := (b1.setCell (p := ⟨w.heap.size, 0, none⟩) (Nat.le_refl _) (.int .i64 0)).setCell (p := ⟨w.heap.size, 1, none⟩) (Nat.le_refl _) (.int .i64 0)
  go_wp2_with (fail)
  generalize (w1.setCell ⟨w.heap.size, 0, none⟩ (.int .i64 0)).setCell ⟨w.heap.size, 1, none⟩ (.int .i64 0) = w2 at *
  refine bodyPost_ret (v := .tuple #[.agg #[.int .i64 0, .int .i64 0], .int .i64 1]) (by simp [results, Tryz.results40, go_sem, d0, d1]) rfl ?_
  exact ⟨rfl, bz⟩
set_option maxHeartbeats 1000000 in
theorem s_Density1 (s : ByteArray) (A : Option Addr) (n c : Nat) (t : List Int) (w : World) (hn : n = t.length) (hl : n ≤ 1048576) (hs : IS w w.heap.size A t) (ht : typeB t = false) :
    Calls Tryz.prog 41 #[.string s, .slice A n c] w (MR 0 0 1 w) := by
  have B0 := BK.new w 63 #[.int .i64 0, .int .i64 0]
  have hb0 := (Below.refl w.heap.size w).alloc (Nat.le_refl _) (.cells #[.int .i64 0, .int .i64 0] 63)
  have hty := s_IsType A n c t _ _ hn hl (hs.call hb0)
  rw [ht] at hty
  clear hn hl hs ht
  go_enter Tryz.func41, Tryz.ntmps41
  go_wp2_with (fail)
  refine hty.mono ?_
  rintro e w1 ⟨rfl, q1, rfl⟩
  have B1 := B0.drewN q1
  have b1 := below_drewN hb0 q1
  generalize (w.alloc (.cells #[.int .i64 0, .int .i64 0] 63)).drewN q1 = w1 at *
  obtain ⟨r0, r1, rf0, rf1⟩ := B1.two
  obtain ⟨d0, d1⟩ := set2 (x := .int .i64 0) (y := .int .i64 0) B1
  have bz := (b1.setCell (p := ⟨w.heap.size, 0, none⟩) (Nat.le_refl _) (.int .i64 0)).setCell (p := ⟨w.heap.size, 1, none⟩) (Nat.le_refl _) (.int .i64 0)
  go_wp2_with (fail)
  generalize (w1.setCell ⟨w.heap.size, 0, none⟩ (.int .i64 0)).setCell ⟨w.heap.size, 1, none⟩ (.int .i64 0) = w2 at *
  refine bodyPost_ret (v := .tuple #[.agg #[.int .i64 0, .int .i64 0], .int .i64 1]) (by simp [results, Tryz.results41, go_sem, d0, d1]) rfl ?_
  exact ⟨rfl, bz⟩
set_option maxHeartbeats 1000000 in
theorem i_Density4 (s : ByteArray) (A : Option Addr) (n c : Nat) (t : List Int) (w : World) (hn : n = t.length) (hl : n ≤ 1048576) (hs : IS w w.heap.size A t) (ht : typeB t = true) (hno : NoN s) :
    Calls Tryz.prog 40 #[.string s, .slice A n c] w (MR 0 0 4 w) := by
  have B0 := BK.new w 63 #[.int .i64 0, .int .i64 0]
  have hb0 := (Below.refl w.heap.size w).alloc (Nat.le_refl _) (.cells #[.int .i64 0, .int .i64 0] 63)
  have hty := i_IsType A n c t _ _ hn hl (hs.call hb0)
  have hg := fun W => i_GroupNamed s _ _ _ (.inr ⟨hno, rfl, rfl, rfl⟩) W
  rw [ht] at hty
  clear hn hl hs ht hno
  go_enter Tryz.func40, Tryz.ntmps40
  go_wp2_with (fail)
  refine hty.mono ?_
  rintro e w1 ⟨rfl, q1, rfl⟩
  have B1 := B0.drewN q1
  have b1 := below_drewN hb0 q1
  generalize (w.alloc (.cells #[.int .i64 0, .int .i64 0] 63)).drewN q1 = w1 at *
  go_wp2_with (fail)
  refine (hg _).mono ?_
  rintro e w2 ⟨v, rfl, ho, hb2⟩
  obtain ⟨Ar, cr, rfl, _⟩ := own_slice' ho
  have hb3 := hb2.alloc hb2.size (.cells #[.int .i64 0, .slice Ar 0 cr] 26)
  have B3 := B1.of_below hb3
  have b3 := bel_call b1 hb3
  obtain ⟨r0, r1, rf0, rf1⟩ := B3.two
  obtain ⟨d0, d1⟩ := set2 (x := .int .i64 0) (y := .int .i64 0) B3
  have bz := (b3.setCell (p := ⟨w.heap.size, 0, none⟩) (Nat.le_refl _) (.int .i64 0)).setCell (p := ⟨w.heap.size, 1, none⟩) (Nat.le_refl _) (.int .i64 0)
  go_wp2_with (fail)
  generalize ((w2.alloc (.cells #[.int .i64 0, .slice Ar 0 cr] 26)).setCell ⟨w.heap.size, 0, none⟩ (.int .i64 0)).setCell ⟨w.heap.size, 1, none⟩ (.int .i64 0) = w3 at *
  refine bodyPost_ret (v := .tuple #[.agg #[.int .i64 0, .int .i64 0], .int .i64 4]) (by simp [results, Tryz.results40, go_sem, d0, d1]) rfl ?_
  exact ⟨rfl, bz⟩
set_option maxHeartbeats 1000000 in
theorem s_Density4 (s : ByteArray) (A : Option Addr) (n c : Nat) (t : List Int) (w : World) (hn : n = t.length) (hl : n ≤ 1048576) (hs : IS w w.heap.size A t) (ht : typeB t = true) (hno : NoN s) :
    Calls Tryz.prog 41 #[.string s, .slice A n c] w (MR 0 0 4 w) := by
  have B0 := BK.new w 63 #[.int .i64 0, .int .i64 0]
  have hb0 := (Below.refl w.heap.size w).alloc (Nat.le_refl _) (.cells #[.int .i64 0, .int .i64 0] 63)
  have hty := s_IsType A n c t _ _ hn hl (hs.call hb0)
  have hp := fun W => s_l24Points_no s hno W
  rw [ht] at hty
  clear hn hl hs ht hno
  go_enter Tryz.func41, Tryz.ntmps41
  go_wp2_with (fail)
  refine hty.mono ?_
  rintro e w1 ⟨rfl, q1, rfl⟩
  have B1 := B0.drewN q1
  have b1 := below_drewN hb0 q1
  generalize (w.alloc (.cells #[.int .i64 0, .int .i64 0] 63)).drewN q1 = w1 at *
  go_wp2_with (fail)
  refine (hp _).mono ?_
  rintro e w2 ⟨rfl, q2, rfl⟩
  have B2 := B1.drewN q2
  have b2 := below_drewN b1 q2
  generalize w1.drewN q2 = w2 at *
  obtain ⟨r0, r1, rf0, rf1⟩ := B2.two
  obtain ⟨d0, d1⟩ := set2 (x := .int .i64 0) (y := .int .i64 0) B2
  have bz := (b2.setCell (p := ⟨w.heap.size, 0, none⟩) (Nat.le_refl _) (.int .i64 0)).setCell (p := ⟨w.heap.size, 1, none⟩) (Nat.le_refl _) (.int .i64 0)
  go_wp2_with (fail)
  generalize (w2.setCell ⟨w.heap.size, 0, none⟩ (.int .i64 0)).setCell ⟨w.heap.size, 1, none⟩ (.int .i64 0) = w3 at *
  refine bodyPost_ret (v := .tuple #[.agg #[.int .i64 0, .int .i64 0], .int .i64 4]) (by simp [results, Tryz.results41, go_sem, d0, d1]) rfl ?_
  exact ⟨rfl, bz⟩
theorem ty_bd {t : List Int} (h : typeB t = true) : ∀ k, k < t.length → -1000000000 ≤ gt t k ∧ gt t k ≤ 1000000000 := (typeB_p h).bd
set_option maxRecDepth 10000 in
set_option maxHeartbeats 2000000 in
theorem i_Density5 (s : ByteArray) (A : Option Addr) (n c : Nat) (t : List Int) (w : World) (hn : n = t.length) (hl : n ≤ 1048576) (hs : IS w w.heap.size A t) (ht : typeB t = true) (i : Nat) (hi : i < 14) (hsn : s.toList = lbN i) (hne : ¬ t.sum = (lbP i : Nat)) :
    Calls Tryz.prog 40 #[.string s, .slice A n c] w (MR 0 0 5 w) := by
  have B0 := BK.new w 63 #[.int .i64 0, .int .i64 0]
  have hb0 := (Below.refl w.heap.size w).alloc (Nat.le_refl _) (.cells #[.int .i64 0, .int .i64 0] 63)
  have hty := i_IsType A n c t _ _ hn hl (hs.call hb0)
  have hg := fun W => i_GroupNamed s _ _ _ (.inl ⟨i, hi, hsn, rfl, rfl, rfl⟩) W
  have hpo := fun W B h => i_pointsOf A n c t W B hn hl h (ty_bd ht)
  rw [ht] at hty
  have hs0 := hs.call hb0
  generalize RK (lbP i) (lbG i) = l at *
  generalize lbP i = p at *
  generalize hL : l.length = L at *
  have HL := Lib.hid hL
  generalize t.sum = u at *
  have hnu : (u != (p : Int)) = true := by rw [bne_iff_ne]; exact hne
  clear hn hs ht hsn hL hne
  go_enter Tryz.func40, Tryz.ntmps40
  go_wp2_with (fail)
  refine hty.mono ?_
  rintro e w1 ⟨rfl, q1, rfl⟩
  have B1 := B0.drewN q1
  have b1 := below_drewN hb0 q1
  have hs1 := hs0.drewN q1
  have hz1 : (w.alloc (.cells #[.int .i64 0, .int .i64 0] 63)).heap.size = ((w.alloc (.cells #[.int .i64 0, .int .i64 0] 63)).drewN q1).heap.size := rfl
  rw [hz1] at hs1
  clear hz1
  generalize (w.alloc (.cells #[.int .i64 0, .int .i64 0] 63)).drewN q1 = w1 at *
  go_wp2_with (fail)
  refine (hg _).mono ?_
  rintro e w2 ⟨v, rfl, ho, hb2⟩
  obtain ⟨Ar, cr, rfl, _⟩ := own_slice' ho
  rw [HL.out] at ho ⊢
  have G3 := BK.new w2 26 #[.int .i64 (p : Int), .slice Ar L cr]
  have hb3 := hb2.alloc hb2.size (.cells #[.int .i64 (p : Int), .slice Ar L cr] 26)
  have B3 := B1.of_below hb3
  have b3 := bel_call b1 hb3
  have hs3 := hs1.call hb3
  obtain ⟨g0, g1, _, _⟩ := G3.two
  have B3' := B3
  clear B0 hb0 B1 b1 hty hg ho G3 hb3 hs1 hs0 hb2
  go_wp2_with (fail)
  generalize w2.alloc (.cells #[.int .i64 (p : Int), .slice Ar L cr] 26) = w3 at *
  obtain ⟨r0, r1, rf0, rf1⟩ := B3.two
  have d01 := fun q => set2 (x := .int .i64 0) (y := .int .i64 0) (B3.drewN q)
  have bz := fun q => ((below_drewN b3 q).setCell (p := ⟨w.heap.size, 0, none⟩) (Nat.le_refl _) (.int .i64 0)).setCell (p := ⟨w.heap.size, 1, none⟩) (Nat.le_refl _) (.int .i64 0)
  clear B3 B3' b3
  go_wp2_with (go_quiet ((go_at_call 87; exact Calls.quiet_of (hpo _ _ (hs3.drewN _)))))
  refine bodyPost_ret (v := .tuple #[.agg #[.int .i64 0, .int .i64 0], .int .i64 5]) (by simp [results, Tryz.results40, go_sem, (d01 _).1, (d01 _).2]) rfl ?_
  exact ⟨rfl, bz _⟩
set_option maxRecDepth 10000 in
set_option maxHeartbeats 2000000 in
theorem s_Density5 (s : ByteArray) (A : Option Addr) (n c : Nat) (t : List Int) (w : World) (hn : n = t.length) (hl : n ≤ 1048576) (hs : IS w w.heap.size A t) (ht : typeB t = true) (i : Nat) (hi : i < 14) (hsn : s.toList = lbN i) (hne : ¬ t.sum = (lbP i : Nat)) :
    Calls Tryz.prog 41 #[.string s, .slice A n c] w (MR 0 0 5 w) := by
  have B0 := BK.new w 63 #[.int .i64 0, .int .i64 0]
  have hb0 := (Below.refl w.heap.size w).alloc (Nat.le_refl _) (.cells #[.int .i64 0, .int .i64 0] 63)
  have hty := s_IsType A n c t _ _ hn hl (hs.call hb0)
  have hp := fun W => s_l24Points i hi s hsn W
  have hpo := fun W B h => s_l01Sum A n c t W B hn hl h (ty_bd ht)
  have hp1 := (lb_in i hi).1
  rw [ht] at hty
  have hs0 := hs.call hb0
  generalize lbP i = p at *
  generalize t.sum = u at *
  have hnu : (u != (p : Int)) = true := by rw [bne_iff_ne]; exact hne
  have hpz : ((p : Int) == 0) = false := by rw [beq_eq_false_iff_ne]; omega
  clear hn hs ht hsn hne hp1
  go_enter Tryz.func41, Tryz.ntmps41
  go_wp2_with (fail)
  refine hty.mono ?_
  rintro e w1 ⟨rfl, q1, rfl⟩
  have B1 := B0.drewN q1
  have b1 := below_drewN hb0 q1
  have hs1 := hs0.drewN q1
  have hz1 : (w.alloc (.cells #[.int .i64 0, .int .i64 0] 63)).heap.size = ((w.alloc (.cells #[.int .i64 0, .int .i64 0] 63)).drewN q1).heap.size := rfl
  rw [hz1] at hs1
  clear hz1
  generalize (w.alloc (.cells #[.int .i64 0, .int .i64 0] 63)).drewN q1 = w1 at *
  go_wp2_with (first
    | (go_at_call 97; have b2' := b2; refine (hp _).mono ?_; rintro e w4 ⟨rfl, hb4⟩; have b4 := bel_call b2 hb4; have B4 := B2.of_below hb4; obtain ⟨r0, r1, rf0, rf1⟩ := B4.two)
    | (go_at_call 97; refine (hp _).mono ?_; rintro e w2 ⟨rfl, hb2⟩; have b2 := bel_call b1 hb2; have B2 := B1.of_below hb2; have hs2 := hs1.call hb2)
    | (go_at_call 90; refine (hpo _ _ hs2).mono ?_; rintro e w3 ⟨rfl, q3, rfl⟩; have b2 := below_drewN b2 q3; have B2 := B2.drewN q3))
  obtain ⟨d0, d1⟩ := set2 (x := .int .i64 0) (y := .int .i64 0) B4
  have bz := (b4.setCell (p := ⟨w.heap.size, 0, none⟩) (Nat.le_refl _) (.int .i64 0)).setCell (p := ⟨w.heap.size, 1, none⟩) (Nat.le_refl _) (.int .i64 0)
  generalize (w4.setCell ⟨w.heap.size, 0, none⟩ (.int .i64 0)).setCell ⟨w.heap.size, 1, none⟩ (.int .i64 0) = w5 at *
  refine bodyPost_ret (v := .tuple #[.agg #[.int .i64 0, .int .i64 0], .int .i64 5]) (by simp [results, Tryz.results41, go_sem, d0, d1]) rfl ?_
  exact ⟨rfl, bz⟩
set_option maxRecDepth 10000 in
set_option maxHeartbeats 2000000 in
theorem i_Density0 (s : ByteArray) (A : Option Addr) (n c : Nat) (t : List Int) (w : World) (hn : n = t.length) (hl : n ≤ 1048576) (hs : IS w w.heap.size A t) (ht : typeB t = true) (i : Nat) (hi : i < 14) (hsn : s.toList = lbN i) (hne : t.sum = (lbP i : Nat)) :
    Calls Tryz.prog 40 #[.string s, .slice A n c] w (MR (mkN (gN i t) (RK (lbP i) (lbG i)).length) (mkD (gN i t) (RK (lbP i) (lbG i)).length) 0 w) := by
  have B0 := BK.new w 63 #[.int .i64 0, .int .i64 0]
  have hb0 := (Below.refl w.heap.size w).alloc (Nat.le_refl _) (.cells #[.int .i64 0, .int .i64 0] 63)
  have hty := i_IsType A n c t _ _ hn hl (hs.call hb0)
  have hg := fun W => i_GroupNamed s _ _ _ (.inl ⟨i, hi, hsn, rfl, rfl, rfl⟩) W
  have hpo := fun W B h => i_pointsOf A n c t W B hn hl h (ty_bd ht)
  obtain ⟨p1, p2, _, _, _⟩ := lb_in i hi
  have hsh := fun A2 c2 W h => i_shares (lbP i) A2 (RK (lbP i) (lbG i)).length c2 (RK (lbP i) (lbG i)) W p1 (by omega) rfl (RK_l720 i hi).2 (RK_in i hi) h
  have hgb := gC_bd i hi
  have hgl : (gC i).length = (gT i).length := by unfold gC; rw [ctL_len]
  have hg6 : ∀ k, k < (gT i).length → (gl (gT i) k).length ≤ 6 := fun k hk => by
    obtain ⟨j, hj, e⟩ := shO_mem.1 (gl_mem (show k < (shO (tyM (lbP i) (RK (lbP i) (lbG i))) (RK (lbP i) (lbG i)).length).length from hk))
    have e' : gl (gT i) k = gl (tyM (lbP i) (RK (lbP i) (lbG i))) j := e.symm
    rw [e', gl_tyM hj, tyS_len]
    have := cycL_len (gl (memL (lbP i) (RK (lbP i) (lbG i))) j)
    rw [(gl_memR (RK_in i hi) hj).1] at this
    omega
  have hgm : (gT i).length ≤ 720 := Nat.le_trans (shO_len _ _) (RK_l720 i hi).2
  have hgn : gN i t = cnS t (gT i) (gC i) (gT i).length := rfl
  rw [hgn]
  clear hgn
  have hL1 := RK_l720 i hi
  unfold SHR at hsh
  change ∀ A2 c2 W h, Calls _ _ _ _ (fun e w' => ∃ (A3 : Option Addr) (m c3 : Nat) (vs : List Value), m = (gT i).length ∧ e = .returned (.slice A3 m c3) ∧ w'.ownsRow W.heap.size 59 2 (.slice A3 m c3) m (shC vs (gC i)) ∧ RowsO w' W.heap.size vs (gT i) ∧ Below W.heap.size W w') at hsh
  rw [ht] at hty
  have hs0 := hs.call hb0
  generalize gT i = ts at *
  generalize gC i = cs at *
  generalize RK (lbP i) (lbG i) = l at *
  generalize lbP i = p at *
  generalize hL : l.length = L at *
  have HL := Lib.hid hL
  generalize hu : t.sum = u at *
  have hnu : (u != (p : Int)) = false := by simp [hne]
  generalize hm : ts.length = m at *
  have HM := Lib.hid hm.symm
  have HCL := Lib.hid hgl
  have HG6 := Lib.hid hg6
  have HN := Lib.hid hn
  have HCB := Lib.hid (fun k hk => cnS_bd (t := t) (ts := ts) (cs := cs) (fun j hj => hgb j (by rw [← hm]; exact hj)) k hk)
  clear hn hs ht hsn hL hne hu hm hgl hg6 hgb
  go_enter Tryz.func40, Tryz.ntmps40
  go_wp2_with (fail)
  refine hty.mono ?_
  rintro e w1 ⟨rfl, q1, rfl⟩
  have B1 := B0.drewN q1
  have b1 := below_drewN hb0 q1
  have hs1 := hs0.drewN q1
  have hz1 : (w.alloc (.cells #[.int .i64 0, .int .i64 0] 63)).heap.size = ((w.alloc (.cells #[.int .i64 0, .int .i64 0] 63)).drewN q1).heap.size := rfl
  rw [hz1] at hs1
  clear hz1
  generalize (w.alloc (.cells #[.int .i64 0, .int .i64 0] 63)).drewN q1 = w1 at *
  go_wp2_with (fail)
  refine (hg _).mono ?_
  rintro e w2 ⟨v, rfl, ho, hb2⟩
  obtain ⟨Ar, cr, rfl, _⟩ := own_slice' ho
  rw [HL.out] at ho ⊢
  have G3 := BK.new w2 26 #[.int .i64 (p : Int), .slice Ar L cr]
  have hbx := (Below.refl w2.heap.size w2).alloc (Nat.le_refl _) (.cells #[.int .i64 (p : Int), .slice Ar L cr] 26)
  have hb3 := hb2.alloc hb2.size (.cells #[.int .i64 (p : Int), .slice Ar L cr] 26)
  have B3 := B1.of_below hb3
  have b3 := bel_call b1 hb3
  have hs3 := hs1.call hb3
  have ir3 := (own_isn ho HL.out.symm).call hbx
  obtain ⟨g0, g1, _, _⟩ := G3.two
  clear B0 hb0 B1 b1 hty hg ho hb3 hs1 hs0 hb2 hbx
  go_wp2_with (fail)
  generalize w2.alloc (.cells #[.int .i64 (p : Int), .slice Ar L cr] 26) = w3 at *
  have hsq := fun q => hsh Ar cr (w3.drewN q) (ir3.drewN q)
  clear hsh ir3
  go_wp2_with (go_quiet ((go_at_call 87; exact Calls.quiet_of (hpo _ _ (hs3.drewN _)))))
  refine (hsq _).mono ?_
  rintro e w4 ⟨A4, m4, c4, vs, rfl, rfl, o4, r4, hb4⟩
  have hb4 : Below w3.heap.size w3 w4 := undrew hb4
  have o4 : w4.ownsRow w3.heap.size 59 2 (.slice A4 m4 c4) m4 (shC vs cs) := o4
  have r4 : RowsO w4 w3.heap.size vs ts := r4
  have b4 := bel_call b3 hb4
  have G4 := G3.of_below hb4
  have B4 := B3.of_below hb4
  have hs4 := hs3.call hb4
  clear hsq hpo G3 B3 hs3 b3 hb4 g0 g1
  go_wp2_with (fail)
  go_loopw [8, 35] (fun u8 u35 wr => ∃ k : Nat, k ≤ m4 ∧ u8 = .int .i64 (cnS t ts cs k) ∧ u35 = .int .i64 (k : Int) ∧ Below w4.heap.size w4 wr) (fun _ u35 _ => m4 - (intOf u35).toNat)
  case atStart => exact ⟨0, Nat.zero_le _, rfl, rfl, Below.refl _ _⟩
  case round =>
    obtain ⟨ws, rfl⟩ : ∃ ws : World, ws = wr := ⟨_, rfl⟩
    obtain ⟨k, hk, rfl, rfl, hb⟩ := hrel
    have hzb := hb.size
    by_cases hlt : k < m4
    · have ow := own_below o4 hb
      have rw1 := r4.below hb
      have hsw := hs4.call hb
      obtain ⟨g, rfl, _⟩ := own_src ow (by omega)
      obtain ⟨Ah, ch, e1, e2, _, ih⟩ := sh_cell ow rw1 HM.out HCL.out hlt
      have h6 := HG6.out k hlt
      have hbx := (Below.refl ws.heap.size ws).alloc (Nat.le_refl _) (.cells #[.slice Ah (gl ts k).length ch, .int .i64 (gt cs k)] 59)
      have BX := BK.new ws 59 #[.slice Ah (gl ts k).length ch, .int .i64 (gt cs k)]
      obtain ⟨x0, x1, _, _⟩ := BX.two
      have hsm := i_same Ah A (gl ts k).length ch n c (gl ts k) t _ _ _ rfl HN.out (by omega) hl (ih.call hbx) (hsw.call hbx)
      have hbz := hb.trans (hbx.mono hzb)
      have HY := Lib.hid (fun h => cnS_yes (t := t) (ts := ts) (cs := cs) (k := k) h)
      have HNO := Lib.hid (fun h => cnS_no (t := t) (ts := ts) (cs := cs) (k := k) h)
      generalize hG : (gl ts k).length = gh at *
      clear ow rw1 hsw ih hbx BX hG
      by_cases he : gl ts k = t
      · rw [decide_eq_true he] at hsm
        have HX := Lib.hid (HY.out he)
        generalize gt cs k = y at *
        clear he
        go_wp2_with (go_at_call 95; refine hsm.mono ?_; rintro e w5 ⟨rfl, q5, rfl⟩)
        go_roundw
        case rel => exact ⟨k + 1, by omega, by rw [HX.out], by go_num, below_drewN hbz _⟩
        case measure => simp [intOf]; omega
      · rw [decide_eq_false he] at hsm
        have HX := Lib.hid (HNO.out he)
        generalize gt cs k = y at *
        clear he
        go_wp2_with (go_at_call 95; refine hsm.mono ?_; rintro e w5 ⟨rfl, q5, rfl⟩)
        go_roundw
        case rel => exact ⟨k + 1, by omega, by rw [HX.out], by go_num, below_drewN hbz _⟩
        case measure => simp [intOf]; omega
    · obtain rfl : k = m4 := by omega
      have hcb := HCB.out k (by rw [HM.out]; exact Nat.le_refl _)
      have G5 := G4.of_below hb
      have B5 := B4.of_below hb
      have b5 := bel_call b4 hb
      obtain ⟨g0, g1, _, _⟩ := G5.two
      generalize cnS t ts cs k = K at *
      have hre := fun q => i_reduced K (L : Int) (ws.drewN q) (by omega) (by omega) (by omega) (by omega)
      generalize mkN K (L : Int) = x at *
      generalize mkD K (L : Int) = y at *
      have hsi := fun W => i_size Ar L cr W
      go_wp2_with (first
        | (go_at_call 92; refine (hsi _).mono ?_; rintro e w6 ⟨rfl, q6, rfl⟩)
        | (go_at_call 96; refine (hre _).mono ?_; rintro e w7 ⟨rfl, hb7⟩; have hb7 : Below ws.heap.size ws w7 := undrew hb7; have B7 := B5.of_below hb7; have b7 := bel_call b5 hb7; obtain ⟨r0, r1, rf0, rf1⟩ := B7.two))
      obtain ⟨d0, d1⟩ := set2 (x := .int .i64 x) (y := .int .i64 y) B7
      have bz := (b7.setCell (p := ⟨w.heap.size, 0, none⟩) (Nat.le_refl _) (.int .i64 x)).setCell (p := ⟨w.heap.size, 1, none⟩) (Nat.le_refl _) (.int .i64 y)
      generalize (w7.setCell ⟨w.heap.size, 0, none⟩ (.int .i64 x)).setCell ⟨w.heap.size, 1, none⟩ (.int .i64 y) = w8 at *
      refine bodyPost_ret (v := .tuple #[.agg #[.int .i64 x, .int .i64 y], .int .i64 0]) (by simp [results, Tryz.results40, go_sem, d0, d1]) rfl ?_
      exact ⟨rfl, bz⟩
set_option maxRecDepth 10000 in
set_option maxHeartbeats 2000000 in
theorem s_Density0 (s : ByteArray) (A : Option Addr) (n c : Nat) (t : List Int) (w : World) (hn : n = t.length) (hl : n ≤ 1048576) (hs : IS w w.heap.size A t) (ht : typeB t = true) (i : Nat) (hi : i < 14) (hsn : s.toList = lbN i) (hne : t.sum = (lbP i : Nat)) :
    Calls Tryz.prog 41 #[.string s, .slice A n c] w (MR (mkN (gN i t) (RK (lbP i) (lbG i)).length) (mkD (gN i t) (RK (lbP i) (lbG i)).length) 0 w) := by
  have B0 := BK.new w 63 #[.int .i64 0, .int .i64 0]
  have hb0 := (Below.refl w.heap.size w).alloc (Nat.le_refl _) (.cells #[.int .i64 0, .int .i64 0] 63)
  have hty := s_IsType A n c t _ _ hn hl (hs.call hb0)
  have hp := fun W => s_l24Points i hi s hsn W
  have hg := fun W => s_l24Group i hi s hsn W
  have hpo := fun W B h => s_l01Sum A n c t W B hn hl h (ty_bd ht)
  obtain ⟨p1, p2, _, _, _⟩ := lb_in i hi
  have hsh := fun A2 c2 W h => s_shares (lbP i) A2 (RK (lbP i) (lbG i)).length c2 (RK (lbP i) (lbG i)) W p1 (by omega) rfl (RK_l720 i hi).2 (RK_in i hi) h
  have hgb := gC_bd i hi
  have hgl : (gC i).length = (gT i).length := by unfold gC; rw [ctL_len]
  have hg6 : ∀ k, k < (gT i).length → (gl (gT i) k).length ≤ 6 := fun k hk => by
    obtain ⟨j, hj, e⟩ := shO_mem.1 (gl_mem (show k < (shO (tyM (lbP i) (RK (lbP i) (lbG i))) (RK (lbP i) (lbG i)).length).length from hk))
    have e' : gl (gT i) k = gl (tyM (lbP i) (RK (lbP i) (lbG i))) j := e.symm
    rw [e', gl_tyM hj, tyS_len]
    have := cycL_len (gl (memL (lbP i) (RK (lbP i) (lbG i))) j)
    rw [(gl_memR (RK_in i hi) hj).1] at this
    omega
  have hgm : (gT i).length ≤ 720 := Nat.le_trans (shO_len _ _) (RK_l720 i hi).2
  have hgn : gN i t = cnS t (gT i) (gC i) (gT i).length := rfl
  rw [hgn]
  clear hgn
  have hL1 := RK_l720 i hi
  unfold SHR at hsh
  change ∀ A2 c2 W h, Calls _ _ _ _ (fun e w' => ∃ (A3 : Option Addr) (m c3 : Nat) (vs : List Value), m = (gT i).length ∧ e = .returned (.slice A3 m c3) ∧ w'.ownsRow W.heap.size 59 2 (.slice A3 m c3) m (shC vs (gC i)) ∧ RowsO w' W.heap.size vs (gT i) ∧ Below W.heap.size W w') at hsh
  rw [ht] at hty
  have hs0 := hs.call hb0
  generalize gT i = ts at *
  generalize gC i = cs at *
  generalize RK (lbP i) (lbG i) = l at *
  generalize lbP i = p at *
  generalize hL : l.length = L at *
  have HL := Lib.hid hL
  generalize hu : t.sum = u at *
  have hnu : (u != (p : Int)) = false := by simp [hne]
  have hpz : ((p : Int) == 0) = false := by rw [beq_eq_false_iff_ne]; omega
  generalize hm : ts.length = m at *
  have HM := Lib.hid hm.symm
  have HCL := Lib.hid hgl
  have HG6 := Lib.hid hg6
  have HN := Lib.hid hn
  have HCB := Lib.hid (fun k hk => cnS_bd (t := t) (ts := ts) (cs := cs) (fun j hj => hgb j (by rw [← hm]; exact hj)) k hk)
  clear hn hs ht hsn hL hne hu hm hgl hg6 hgb
  go_enter Tryz.func41, Tryz.ntmps41
  go_wp2_with (fail)
  refine hty.mono ?_
  rintro e w1 ⟨rfl, q1, rfl⟩
  have B1 := B0.drewN q1
  have b1 := below_drewN hb0 q1
  have hs1 := hs0.drewN q1
  have hz1 : (w.alloc (.cells #[.int .i64 0, .int .i64 0] 63)).heap.size = ((w.alloc (.cells #[.int .i64 0, .int .i64 0] 63)).drewN q1).heap.size := rfl
  rw [hz1] at hs1
  clear hz1
  generalize (w.alloc (.cells #[.int .i64 0, .int .i64 0] 63)).drewN q1 = w1 at *
  go_wp2_with (first
    | (go_at_call 97; have b2' := b2; refine (hp _).mono ?_; rintro e w4 ⟨rfl, hb4⟩; have hs4 := (hs2.drewN q3).call hb4; have b4 := bel_call b2 hb4; have B4 := B2.of_below hb4)
    | (go_at_call 97; refine (hp _).mono ?_; rintro e w2 ⟨rfl, hb2⟩; have b2 := bel_call b1 hb2; have B2 := B1.of_below hb2; have hs2 := hs1.call hb2)
    | (go_at_call 90; refine (hpo _ _ hs2).mono ?_; rintro e w3 ⟨rfl, q3, rfl⟩; have b2 := below_drewN b2 q3; have B2 := B2.drewN q3))
  clear B0 hb0 B1 b1 hty hp hpo B2 b2 b2' hs1 hs0 hs2 hb2 hb4
  refine (hg _).mono ?_
  rintro e w5 ⟨v, rfl, ho, hb5⟩
  obtain ⟨Ar, cr, rfl, _⟩ := own_slice' ho
  rw [HL.out] at ho ⊢
  have G6 := BK.new w5 26 #[.int .i64 (p : Int), .slice Ar L cr]
  have hbx := (Below.refl w5.heap.size w5).alloc (Nat.le_refl _) (.cells #[.int .i64 (p : Int), .slice Ar L cr] 26)
  have hb6 := hb5.alloc hb5.size (.cells #[.int .i64 (p : Int), .slice Ar L cr] 26)
  have B6 := B4.of_below hb6
  have b6 := bel_call b4 hb6
  have hs6 := hs4.call hb6
  have ir6 := (own_isn ho HL.out.symm).call hbx
  obtain ⟨g0, g1, _, _⟩ := G6.two
  clear hg ho hb5 hb6 hbx B4 b4 hs4
  go_wp2_with (fail)
  generalize w5.alloc (.cells #[.int .i64 (p : Int), .slice Ar L cr] 26) = w6 at *
  refine (hsh Ar cr w6 ir6).mono ?_
  rintro e w4 ⟨A4, m4, c4, vs, rfl, rfl, o4, r4, hb4⟩
  have b4 := bel_call b6 hb4
  have G4 := G6.of_below hb4
  have B4 := B6.of_below hb4
  have hs4 := hs6.call hb4
  clear hsh G6 B6 hs6 b6 hb4 g0 g1 ir6
  go_wp2_with (fail)
  go_loopw [8, 9] (fun u8 u35 wr => ∃ k : Nat, k ≤ m4 ∧ u8 = .int .i64 (cnS t ts cs k) ∧ u35 = .int .i64 (k : Int) ∧ DR w4 wr) (fun _ u35 _ => m4 - (intOf u35).toNat)
  case atStart => exact ⟨0, Nat.zero_le _, rfl, rfl, DR.refl _⟩
  case round =>
    obtain ⟨ws, rfl⟩ : ∃ ws : World, ws = wr := ⟨_, rfl⟩
    obtain ⟨k, hk, rfl, rfl, hdr⟩ := hrel
    by_cases hlt : k < m4
    · have ow : ws.ownsRow w6.heap.size 59 2 (.slice A4 m4 c4) m4 (shC vs cs) := by obtain ⟨q, rfl⟩ := hdr; exact own_dr o4 q
      have rw1 : RowsO ws w6.heap.size vs ts := by obtain ⟨q, rfl⟩ := hdr; exact r4.drewN q
      have hsw : IS ws w4.heap.size A t := by obtain ⟨q, rfl⟩ := hdr; exact hs4.drewN q
      obtain ⟨g, rfl, _⟩ := own_src ow (by omega)
      obtain ⟨Ah, ch, e1, e2, _, ih⟩ := sh_cell ow rw1 HM.out HCL.out hlt
      have h6 := HG6.out k hlt
      have hsm := s_same Ah A (gl ts k).length ch n c (gl ts k) t ws _ _ rfl HN.out (by omega) hl ih hsw
      have HY := Lib.hid (fun h => cnS_yes (t := t) (ts := ts) (cs := cs) (k := k) h)
      have HNO := Lib.hid (fun h => cnS_no (t := t) (ts := ts) (cs := cs) (k := k) h)
      generalize hG : (gl ts k).length = gh at *
      clear ow rw1 hsw ih hG
      by_cases he : gl ts k = t
      · rw [decide_eq_true he] at hsm
        have HX := Lib.hid (HY.out he)
        generalize gt cs k = y at *
        clear he
        go_wp2_with (go_at_call 99; refine hsm.mono ?_; rintro e w5 ⟨rfl, q5, rfl⟩)
        go_roundw
        case rel => exact ⟨k + 1, by omega, by rw [HX.out], by go_num, by repeat (first | exact hdr | refine DR.step ?_ _)⟩
        case measure => simp [intOf]; omega
      · rw [decide_eq_false he] at hsm
        have HX := Lib.hid (HNO.out he)
        generalize gt cs k = y at *
        clear he
        go_wp2_with (go_at_call 99; refine hsm.mono ?_; rintro e w5 ⟨rfl, q5, rfl⟩)
        go_roundw
        case rel => exact ⟨k + 1, by omega, by rw [HX.out], by go_num, by repeat (first | exact hdr | refine DR.step ?_ _)⟩
        case measure => simp [intOf]; omega
    · obtain rfl : k = m4 := by omega
      have hb : Below w4.heap.size w4 ws := by obtain ⟨q, rfl⟩ := hdr; exact below_drewN (Below.refl _ _) q
      have hcb := HCB.out k (by rw [HM.out]; exact Nat.le_refl _)
      have G5 := G4.of_below hb
      have B5 := B4.of_below hb
      have b5 := bel_call b4 hb
      obtain ⟨g0, g1, _, _⟩ := G5.two
      generalize cnS t ts cs k = K at *
      have hre := fun W => s_l05Make K (L : Int) W (by omega) (by omega) (by omega) (by omega)
      generalize mkN K (L : Int) = x at *
      generalize mkD K (L : Int) = y at *
      unfold MR at hre
      go_wp2_with (go_at_call 100; refine (hre _).mono ?_; rintro e w7 ⟨rfl, hb7⟩; have B7 := B5.of_below hb7; have b7 := bel_call b5 hb7; obtain ⟨r0, r1, rf0, rf1⟩ := B7.two)
      obtain ⟨d0, d1⟩ := set2 (x := .int .i64 x) (y := .int .i64 y) B7
      have bz := (b7.setCell (p := ⟨w.heap.size, 0, none⟩) (Nat.le_refl _) (.int .i64 x)).setCell (p := ⟨w.heap.size, 1, none⟩) (Nat.le_refl _) (.int .i64 y)
      generalize (w7.setCell ⟨w.heap.size, 0, none⟩ (.int .i64 x)).setCell ⟨w.heap.size, 1, none⟩ (.int .i64 y) = w8 at *
      refine bodyPost_ret (v := .tuple #[.agg #[.int .i64 x, .int .i64 y], .int .i64 0]) (by simp [results, Tryz.results41, go_sem, d0, d1]) rfl ?_
      exact ⟨rfl, bz⟩
theorem i_DensityOf (s : ByteArray) (A : Option Addr) (n c : Nat) (t : List Int) (x y cd : Int) (w : World) (h : DNV s t x y cd) (hn : n = t.length) (hl : n ≤ 1048576) (hs : IS w w.heap.size A t) :
    Calls Tryz.prog 40 #[.string s, .slice A n c] w (MR x y cd w) := by
  rcases h with ⟨ht, rfl, rfl, rfl⟩ | ⟨ht, hno, rfl, rfl, rfl⟩ | ⟨i, hi, hsn, ht, ⟨hne, rfl, rfl, rfl⟩ | ⟨hne, rfl, rfl, rfl⟩⟩
  · exact i_Density1 s A n c t w hn hl hs ht
  · exact i_Density4 s A n c t w hn hl hs ht hno
  · exact i_Density5 s A n c t w hn hl hs ht i hi hsn hne
  · exact i_Density0 s A n c t w hn hl hs ht i hi hsn hne
theorem s_DensityOf (s : ByteArray) (A : Option Addr) (n c : Nat) (t : List Int) (x y cd : Int) (w : World) (h : DNV s t x y cd) (hn : n = t.length) (hl : n ≤ 1048576) (hs : IS w w.heap.size A t) :
    Calls Tryz.prog 41 #[.string s, .slice A n c] w (MR x y cd w) := by
  rcases h with ⟨ht, rfl, rfl, rfl⟩ | ⟨ht, hno, rfl, rfl, rfl⟩ | ⟨i, hi, hsn, ht, ⟨hne, rfl, rfl, rfl⟩ | ⟨hne, rfl, rfl, rfl⟩⟩
  · exact s_Density1 s A n c t w hn hl hs ht
  · exact s_Density4 s A n c t w hn hl hs ht hno
  · exact s_Density5 s A n c t w hn hl hs ht i hi hsn hne
  · exact s_Density0 s A n c t w hn hl hs ht i hi hsn hne
end Go.Proofs.YtglijcdnnaekkaaGreat
/- The law DensityOf. -/
namespace Go.Proofs.YtglijcdnnaekkaaGreat
set_option linter.unusedVariables false
set_option linter.unusedSimpArgs false
open Go.RowKit

end Go.Proofs.YtglijcdnnaekkaaGreat
