/- FnDensities: the sum of a type; adding fractions; draws of a name with a type, and of points with types. -/
import Derived.Test.YtglijcdnnaekkaaGreatA284
import Derived.Test.YtglijcdnnaekkaaGreatA279
import Derived.Test.YtglijcdnnaekkaaGreatA119
namespace Go.Proofs.YtglijcdnnaekkaaGreat
set_option linter.unusedVariables false
set_option linter.unusedSimpArgs false
open Go.RowKit

theorem smI_sum (l : List Int) : smI l l.length = l.sum := by
  have h : ∀ k, k ≤ l.length → smI l k = (l.take k).sum := fun k => by
    induction k with
    | zero => intro _; simp [smI]
    | succ k ih =>
      intro hk
      rw [smI, ih (by omega), List.take_succ_eq_append_getElem hk, List.sum_append]
      simp [gt, List.getElem?_eq_getElem hk]
  rw [h _ (Nat.le_refl _), List.take_length]
theorem smI_bd6 {l : List Int} {n : Nat} (h : ∀ k, k < n → 0 ≤ gt l k ∧ gt l k ≤ 6) : ∀ k, k ≤ n → 0 ≤ smI l k ∧ smI l k ≤ 6 * k
  | 0, _ => by simp [smI]
  | k + 1, hk => by
    have h1 := smI_bd6 h k (by omega)
    have h2 := h k (by omega)
    rw [smI]
    omega
set_option maxHeartbeats 1000000 in
theorem l_sumT (A : Option Addr) (n c : Nat) (l : List Int) (w : World) (B : Nat) (hn : n = l.length) (hl : n ≤ 7) (hb : ∀ k, k < n → 0 ≤ gt l k ∧ gt l k ≤ 6) (hs : IS w B A l) :
    Calls Tryz.prog 47 #[.slice A n c] w (Q (.int .i64 l.sum) w) := by
  rw [← smI_sum, ← hn]
  have HN := Lib.hid hn
  have HB := Lib.hid hb
  clear hn hb
  go_enter Tryz.func47, Tryz.ntmps47
  go_wp2_with (fail)
  go_loopw [3, 4] (fun u3 u4 wr => ∃ k : Nat, k ≤ n ∧ u4 = .int .i64 k ∧ u3 = .int .i64 (smI l k) ∧ DR w wr) (fun _ u4 _ => n - (intOf u4).toNat)
  case atStart => exact ⟨0, Nat.zero_le _, rfl, rfl, DR.refl _⟩
  case round =>
    obtain ⟨k, hk, rfl, rfl, hdr⟩ := hrel
    have hsb := smI_bd6 HB.out k hk
    by_cases hlt : k < n
    · obtain ⟨b, off, rfl, hbb, hcell⟩ := hs.at (k := k) (by rw [← HN.out]; exact hlt)
      have e1 := (hdr.cell _).trans (hcell k (by rw [← HN.out]; exact hlt))
      have hg := HB.out k hlt
      have HS := Lib.hid (show smI l (k + 1) = smI l k + gt l k from rfl)
      generalize smI l k = s at *
      generalize gt l k = x at *
      obtain ⟨z1, z2⟩ := hsb
      obtain ⟨z3, z4⟩ := hg
      have hws : IntKind.i64.wrap (s + x) = s + x := IntWalk.i64_in _ (by omega)
      clear hcell
      go_wp2_with (go_quiet (fail))
      go_roundw
      case rel => exact ⟨k + 1, by omega, by go_num, by rw [HS.out], by repeat (first | exact hdr | refine DR.step ?_ _)⟩
      case measure => simp [intOf]; omega
    · obtain rfl : k = n := by omega
      go_wp2_with (fail)
      go_ret
      exact ⟨rfl, hdr⟩
set_option maxHeartbeats 1000000 in
theorem i_orNoRat (x y : Int) (w : World) (h : ratB x y = true) : Calls Tryz.prog 111 #[.agg #[.int .i64 x, .int .i64 y]] w (MR x y 0 w) := by
  obtain ⟨B0, C0⟩ := two_boxes w 63 63 #[.int .i64 x, .int .i64 y] #[.int .i64 0, .int .i64 0]
  have hb0 := two_alloc w (.cells #[.int .i64 x, .int .i64 y] 63) (.cells #[.int .i64 0, .int .i64 0] 63)
  obtain ⟨c0, c1, _, _⟩ := B0.two
  have hir := fun W => i_IsRational x y W
  rw [h] at hir
  go_enter Tryz.func111, Tryz.ntmps111
  go_wp2_with (go_at_call 170; refine (hir _).mono ?_; rintro e w2 ⟨rfl, hb2⟩; have B2 := B0.of_below hb2; have C2 := C0.of_below hb2; obtain ⟨e0, e1, _, _⟩ := B2.two; obtain ⟨r0, r1, rf0, rf1⟩ := C2.two)
  have b2 := bel_call hb0 hb2
  obtain ⟨d0, d1⟩ := set2 (x := .int .i64 x) (y := .int .i64 y) C2
  have bz := (b2.setCell (p := ⟨w.heap.size + 1, 0, none⟩) (Nat.le_succ _) (.int .i64 x)).setCell (p := ⟨w.heap.size + 1, 1, none⟩) (Nat.le_succ _) (.int .i64 y)
  generalize (w2.setCell ⟨w.heap.size + 1, 0, none⟩ (.int .i64 x)).setCell ⟨w.heap.size + 1, 1, none⟩ (.int .i64 y) = w3 at *
  refine bodyPost_ret (v := .tuple #[.agg #[.int .i64 x, .int .i64 y], .int .i64 0]) (by simp [results, Tryz.results111, go_sem, d0, d1]) rfl ?_
  exact ⟨rfl, bz⟩
theorem three_box (w : World) (t t' t'' : TypeId) (cs cs' cs'' : Array Value) : BK (((w.alloc (.cells cs t)).alloc (.cells cs' t')).alloc (.cells cs'' t'')) w.heap.size t cs ∧ BK (((w.alloc (.cells cs t)).alloc (.cells cs' t')).alloc (.cells cs'' t'')) (w.heap.size + 1) t' cs' ∧ BK (((w.alloc (.cells cs t)).alloc (.cells cs' t')).alloc (.cells cs'' t'')) (w.heap.size + 2) t'' cs'' := by
  obtain ⟨h1, h2⟩ := two_boxes w t t' cs cs'
  refine ⟨h1.alloc _, h2.alloc _, ?_⟩
  have h := BK.new ((w.alloc (.cells cs t)).alloc (.cells cs' t')) t'' cs''
  rw [World.size_alloc, World.size_alloc] at h
  exact h
set_option maxRecDepth 10000 in
set_option maxHeartbeats 2000000 in
theorem i_AddRat (a b c d : Int) (w : World) (h1 : 0 ≤ a ∧ a ≤ 720) (h2 : 1 ≤ b ∧ b ≤ 720) (h3 : 0 ≤ c ∧ c ≤ 720) (h4 : 1 ≤ d ∧ d ≤ 720) (r1 : ratB a b = true) (r2 : ratB c d = true) :
    Calls Tryz.prog 48 #[.agg #[.int .i64 a, .int .i64 b], .agg #[.int .i64 c, .int .i64 d]] w (MR (mkN (a * d + c * b) (b * d)) (mkD (a * d + c * b) (b * d)) 0 w) := by
  obtain ⟨B0, C0, D0⟩ := three_box w 63 63 63 #[.int .i64 a, .int .i64 b] #[.int .i64 c, .int .i64 d] #[.int .i64 0, .int .i64 0]
  have hb0 := (two_alloc w (.cells #[.int .i64 a, .int .i64 b] 63) (.cells #[.int .i64 c, .int .i64 d] 63)).alloc (by simp; omega) (.cells #[.int .i64 0, .int .i64 0] 63)
  have hsm := fun W => i_areSmall a b c d W r1 r2
  have htw : twoC a b c d = 0 := by
    have h : sm4 a b c d = true := by
      unfold sm4
      rw [inB_mk (by omega) (by omega), inB_mk (by omega) (by omega), inB_mk (by omega) (by omega), inB_mk (by omega) (by omega)]
      rfl
    unfold twoC
    rw [h]; rfl
  rw [htw] at hsm
  have m1 : 0 ≤ a * d ∧ a * d ≤ 518400 := by
    have x1 := Int.mul_nonneg h1.1 (show 0 ≤ d by omega)
    have x2 := Int.mul_le_mul h1.2 h4.2 (by omega) (by omega)
    exact ⟨x1, by omega⟩
  have m2 : 0 ≤ c * b ∧ c * b ≤ 518400 := by
    have x1 := Int.mul_nonneg h3.1 (show 0 ≤ b by omega)
    have x2 := Int.mul_le_mul h3.2 h2.2 (by omega) (by omega)
    exact ⟨x1, by omega⟩
  have m3 : 1 ≤ b * d ∧ b * d ≤ 518400 := by
    have x1 := Int.mul_le_mul h2.1 h4.1 (by omega) (by omega)
    have x2 := Int.mul_le_mul h2.2 h4.2 (by omega) (by omega)
    exact ⟨by omega, by omega⟩
  have hre := fun W => i_reduced (a * d + c * b) (b * d) W (by omega) (by omega) (by omega) (by omega)
  have hor := fun W => i_orNoRat (mkN (a * d + c * b) (b * d)) (mkD (a * d + c * b) (b * d)) W (mk_rat (by omega) (by omega) (by omega) (by omega)).1
  unfold MR at hor
  have w1 : IntKind.i64.wrap (a * d) = a * d := IntWalk.i64_in _ (by omega)
  have w2 : IntKind.i64.wrap (c * b) = c * b := IntWalk.i64_in _ (by omega)
  have w3 : IntKind.i64.wrap (b * d) = b * d := IntWalk.i64_in _ (by omega)
  have w4 : IntKind.i64.wrap (a * d + c * b) = a * d + c * b := IntWalk.i64_in _ (by omega)
  generalize mkN (a * d + c * b) (b * d) = N at *
  generalize mkD (a * d + c * b) (b * d) = D at *
  obtain ⟨c0, c1, _, _⟩ := B0.two
  obtain ⟨c2, c3, _, _⟩ := C0.two
  clear m1 m2 m3 h1 h2 h3 h4 r1 r2 htw
  go_enter Tryz.func48, Tryz.ntmps48
  go_wp2_with (first
    | (go_at_call 110; refine (hsm _).mono ?_; rintro e wa ⟨rfl, hba⟩; have B2 := B0.of_below hba; have C2 := C0.of_below hba; have D2 := D0.of_below hba; have b2 := bel_call hb0 hba; obtain ⟨e0, e1, _, _⟩ := B2.two; obtain ⟨e2, e3, _, _⟩ := C2.two)
    | (go_at_call 96; refine (hre _).mono ?_; rintro e wb ⟨rfl, hbb⟩; have D3 := D2.of_below hbb; have b3 := bel_call b2 hbb)
    | (go_at_call 111; refine (hor _).mono ?_; rintro e wc ⟨rfl, hbc⟩; have D4 := D3.of_below hbc; have b4 := bel_call b3 hbc; obtain ⟨s0, s1, sf0, sf1⟩ := D4.two))
  obtain ⟨d0, d1⟩ := set2 (x := .int .i64 N) (y := .int .i64 D) D4
  have bz := (b4.setCell (p := ⟨w.heap.size + 2, 0, none⟩) (Nat.le_add_right _ _) (.int .i64 N)).setCell (p := ⟨w.heap.size + 2, 1, none⟩) (Nat.le_add_right _ _) (.int .i64 D)
  generalize (wc.setCell ⟨w.heap.size + 2, 0, none⟩ (.int .i64 N)).setCell ⟨w.heap.size + 2, 1, none⟩ (.int .i64 D) = wd at *
  refine bodyPost_ret (v := .tuple #[.agg #[.int .i64 N, .int .i64 D], .int .i64 0]) (by simp [results, Tryz.results48, go_sem, d0, d1]) rfl ?_
  exact ⟨rfl, bz⟩
/-- A name and a list, the list in a block of its own. -/
def NTG (w : World) (e : Ending) (w' : World) : Prop := ∃ (nb : ByteArray) (B : Option Addr) (m d : Nat) (xs : List Int), e = .returned (.tuple #[.string nb, .slice B m d]) ∧ m = xs.length ∧ m ≤ 6 ∧ ISG w' w.heap.size B xs ∧ Below w.heap.size w w'
set_option maxRecDepth 10000 in
set_option maxHeartbeats 1000000 in
theorem s_DrawIsSuitableG (A : Option Addr) (n c : Nat) (w : World) (hn : n ≤ 4096) (hs : YB w w.heap.size A n) : Calls Tryz.prog 93 #[.slice A n c] w (NTG w) := by
  have hf := s_l01From A n c w hn hs
  have hd := fun W h => s_l24DrawName w.heap.size W h
  have hnx := fun W n h1 h => s_nextI w.heap.size n h1 W h
  clear hn hs
  go_enter Tryz.func93, Tryz.ntmps93
  go_wp2_with (fail)
  refine hf.mono ?_
  rintro e w1 ⟨rfl, hs1, hb1⟩
  go_wp2_with (fail)
  refine (hd _ hs1).mono ?_
  rintro e w2 ⟨v, rfl, ⟨nb, rfl⟩, hs2, hu2⟩
  have hb2 : Below w.heap.size w w2 := hb1.trans ((hu2.mono (B' := w.heap.size) hb1.size).below (Nat.le_refl _))
  clear hb1 hu2 hs1
  by_cases hno : NoN nb
  · have hp := fun W => s_l24Points_no nb hno W
    clear hno
    go_wp2_with (fail)
    refine (hp _).mono ?_
    rintro e w3 ⟨rfl, nq, rfl⟩
    go_wp2_with (fail)
    go_ret2
    exact ⟨nb, _, _, _, [2, 1, 1], rfl, rfl, by omega, own_isg (World.ownsRow_lit (base := (w2.drewN nq).heap.size) (w2.drewN nq) #[.int .i64 2, .int .i64 1, .int .i64 1] 3 (Nat.le_refl _) (by simp [maxLen]) rfl) rfl (by have := hb2.size; exact this), (below_drewN hb2 nq).alloc hb2.size _⟩
  · have hex : ∃ i, i < 14 ∧ nb.toList = lbN i := by
      apply Classical.byContradiction
      intro h
      exact hno fun i hi e => h ⟨i, hi, e⟩
    obtain ⟨i, hi, hnb⟩ := hex
    have hp := fun W => s_l24Points i hi nb hnb W
    obtain ⟨p1, p2, _⟩ := lb_in i hi
    clear hno hnb hi
    generalize lbP i = p at *
    have hfac := fun W => s_factN p W (by omega)
    have hwith := fun r W h => s_l21With p r W p1 (by omega) h
    have hty := fun B d r W h hi => s_l21Type B p d (wrL p r) W p1 (by omega) (wrL_in (n := p) (r := r) h) hi
    go_wp2_with (fail)
    refine (hp _).mono ?_
    rintro e w3 ⟨rfl, hb3⟩
    have hs3 := hs2.call hb3
    have hb4 := hb2.trans (hb3.mono hb2.size)
    have hpz : ((p : Int) == 0) = false := by rw [beq_eq_false_iff_ne]; omega
    clear hb3 hb2 hs2
    have HP1 := Lib.hid p1
    have HP2 := Lib.hid p2
    clear p1 p2
    go_wp2_with (fail)
    refine (hnx _ 12 (by omega) hs3).mono ?_
    rintro e w4 ⟨r, rfl, hr, hs4, hu4⟩
    have hb5 := hb4.trans ((hu4.mono (B' := w.heap.size) hb4.size).below (Nat.le_refl _))
    clear hu4 hs3 hb4 hr
    by_cases hr0 : r = 0
    · have hz : ((r : Int) == 0) = true := by rw [beq_iff_eq]; omega
      clear hr0
      go_wp2_with (fail)
      go_ret2
      exact ⟨nb, _, _, _, [2, 1, 1], rfl, rfl, by omega, own_isg (World.ownsRow_lit (base := w4.heap.size) w4 #[.int .i64 2, .int .i64 1, .int .i64 1] 3 (Nat.le_refl _) (by simp [maxLen]) rfl) rfl hb5.size, hb5.alloc hb5.size _⟩
    · have hz : ((r : Int) == 0) = false := by rw [beq_eq_false_iff_ne]; omega
      clear hr0
      go_wp2_with (fail)
      refine (hfac _).mono ?_
      rintro e w5 ⟨rfl, nq, rfl⟩
      go_wp2_with (fail)
      refine (hnx _ (fact p : Nat) (by have := fact_pos p; omega) (hs4.drewN nq)).mono ?_
      rintro e w6 ⟨k, rfl, hk, hs6, hu6⟩
      have hb6 := (below_drewN hb5 nq).trans ((hu6.mono (B' := w.heap.size) hb5.size).below (Nat.le_refl _))
      have hk := Int.ofNat_lt.mp hk
      clear hu6 hs4 hb5
      go_wp2_with (fail)
      refine (hwith k _ hk).mono ?_
      rintro e w7 ⟨v, rfl, ho7, hb7⟩
      obtain ⟨B, d, rfl, hi7⟩ := own_nt ho7 (wrL_in hk).1.symm
      go_wp2_with (fail)
      refine (hty B d k _ hk hi7).mono ?_
      rintro e w8 ⟨v, rfl, ho8, hb8⟩
      obtain ⟨B2, d2, rfl, _⟩ := own_slice' ho8
      have hi8 : ISG w8 w.heap.size B2 (tyS (wrL p k)) := own_isg ho8 (tyS_len _).symm (Nat.le_trans hb6.size hb7.size)
      go_wp2_with (fail)
      go_ret2
      exact ⟨nb, _, _, _, _, rfl, (tyS_len _).symm, by have h1 := cycL_len (wrL p k); rw [(wrL_in hk).1] at h1; have := HP2.out; omega, hi8, (hb6.trans (hb7.mono hb6.size)).trans (hb8.mono (Nat.le_trans hb6.size hb7.size))⟩
/-- A name and a list. -/
def DDT (w : World) (e : Ending) (w' : World) : Prop := ∃ (nb : ByteArray) (A : Option Addr) (L c : Nat) (l : List Int), e = .returned (.tuple #[.string nb, .slice A L c]) ∧ L = l.length ∧ L ≤ 7 ∧ IS w' w'.heap.size A l ∧ Below w.heap.size w w'
set_option maxHeartbeats 1000000 in
theorem s_DrawDensityOf (A : Option Addr) (n c : Nat) (w : World) (hn : n ≤ 4096) (hs : YB w w.heap.size A n) : Calls Tryz.prog 39 #[.slice A n c] w (DDT w) := by
  have hf := s_l01From A n c w hn hs
  have hd := fun W h => s_DrawIsSuitableG A n c W hn h
  have hx := fun W h => s_nextI w.heap.size 8 (by omega) W h
  have hl := fun W h => s_l25Draw w.heap.size W h
  clear hn
  go_enter Tryz.func39, Tryz.ntmps39
  go_wp2_with (fail)
  refine hf.mono ?_
  rintro e w1 ⟨rfl, hs1, hb1⟩
  have hy1 := hs.call hb1
  go_wp2_with (fail)
  refine (hd _ hy1).mono ?_
  rintro e w2 ⟨nb, A2, m, c2, xs, rfl, hm, hm6, hi, hb2⟩
  have HM := Lib.hid hm
  have hs2 := hs1.call hb2
  have hg1 := hs1.lt
  have b2 := bel_call hb1 hb2
  clear hm hd hf hs1 hy1
  go_wp2_with (fail)
  refine (hx _ hs2).mono ?_
  rintro e w3 ⟨k, rfl, hk, hs3, hu3⟩
  have hz1 := hb1.size
  have b3 := b2.trans ((hu3.mono (B' := w.heap.size) b2.size).below (Nat.le_refl _))
  by_cases hk0 : k = 0
  · subst hk0
    go_wp2_with (fail)
    refine (hl _ hs3).mono ?_
    rintro e w4 ⟨A4, L4, c4, l4, rfl, hL4, hl4, _, hi4, hs4, hu4⟩
    have HL := Lib.hid hL4
    clear hL4
    go_wp2_with (fail)
    go_ret2
    exact ⟨nb, A4, L4, c4, l4, rfl, HL.out, hl4, hi4.is, b3.trans ((hu4.mono (B' := w.heap.size) b3.size).below (Nat.le_refl _))⟩
  · have hkb : ((k : Int) == 0) = false := by rw [beq_eq_false_iff_ne]; omega
    have hi3 : IS w3 w3.heap.size A2 xs := (hi.up (hu3.mono (B' := w2.heap.size) (Nat.le_refl _)) hg1).is
    go_wp2_with (fail)
    go_ret2
    exact ⟨nb, A2, m, c2, xs, rfl, HM.out, by omega, hi3, b3⟩
theorem RowsO.up {w w' : World} {g base : Nat} {vs : List Value} {ll : List (List Int)} (h : RowsO w base vs ll) (hu : Up g w.heap.size w w') (hg : g < base) : RowsO w' base vs ll :=
  h.kept (Up.grown hu) (fun i hi => by
    cases hb : (gv vs i).ownBlock with
    | none => exact .inl rfl
    | some x => exact .inr fun e => by have := ((h.2.1 i hi).lt x hb).1; injection e with e; omega)
theorem row_moreU {g base N : Nat} {wr w1 w4 : World} {vs : List Value} {ms : List (List Int)} {u5 v1 : Value} {b : List Int} {o : Obj}
    (hg4 : (w1.alloc o).grownBy w4 u5.ownBlock) (ho : wr.ownsRow base 24 1 u5 N vs) (hrows : RowsO wr base vs ms) (hbase : base ≤ wr.heap.size)
    (ho1 : w1.ownsRow wr.heap.size 2 1 v1 b.length (ints b)) (hu : Up g wr.heap.size wr w1) (hg : g < base) : RowsO w4 base (vs ++ [v1]) (ms ++ [b]) := by
  have hsn := (hrows.up hu hg).snoc (own_mono ho1 hbase) (fresh_ne hrows (fun g hg => (ho1.lt g hg).1))
  have hsn2 := hsn.kept (World.grownBy_alloc _ o none) (fun i _ => by cases (gv (vs ++ [v1]) i).ownBlock <;> simp)
  have hou := World.ownsRow.alloc (up_own (B := 0) ho hu hg) o
  exact hsn2.kept hg4 (fun i hi => own_ne (hsn2.2.1 i hi) hou (by decide))
theorem cnd_step {g m L8 c8 : Nat} {w1 ws w8 w9 : World} {A4 A8 : Option Addr} {c4 : Nat} {vs : List Value} {ll : List (List Int)} {l8 : List Int} {o : Obj} (hg1 : g < w1.heap.size) (o4 : ws.ownsRow w1.heap.size 24 1 (.slice A4 m c4) m vs) (hr4 : RowsO ws w1.heap.size vs ll) (u4 : Up g w1.heap.size w1 ws) (hs8 : SRC w8 g) (hu48 : Up g ws.heap.size ws w8) (o8 : w8.ownsRow ws.heap.size 2 1 (.slice A8 L8 c8) L8 (ints l8)) (hL8 : L8 = l8.length) (g9 : (w8.alloc o).grownBy w9 (Value.slice A4 m c4).ownBlock) :
    RowsO w9 w1.heap.size (vs ++ [.slice A8 L8 c8]) (ll ++ [l8]) ∧ SRC w9 g ∧ Up g w1.heap.size w1 w9 := by
  have hz4 := u4.size
  have hz8 := hu48.size
  have hb9 : Below w1.heap.size w8 w9 := ((Below.refl w1.heap.size w8).alloc (by omega) o).grown g9 (by simp; omega) (fun y hy => (o4.lt y hy).1)
  refine ⟨row_moreU g9 o4 hr4 hz4 (by rw [← hL8]; exact o8) hu48 hg1, hs8.below hb9 hg1, (u4.call hu48).trans (Up.of hb9)⟩
/-- A number and lists. -/
def CND (w : World) (e : Ending) (w' : World) : Prop := ∃ (n : Int) (A : Option Addr) (L c : Nat) (ll : List (List Int)), e = .returned (.tuple #[.int .i64 n, .slice A L c]) ∧ L = ll.length ∧ L ≤ 3 ∧ (L ≤ c ∧ c ≤ maxLen) ∧ (∀ a ∈ ll, a.length ≤ 7) ∧ II w' w'.heap.size A ll ∧ Below w.heap.size w w'
set_option maxRecDepth 10000 in
set_option maxHeartbeats 2000000 in
theorem s_DrawCandidateNames (A : Option Addr) (n c : Nat) (w : World) (hn : n ≤ 4096) (hs : YB w w.heap.size A n) : Calls Tryz.prog 42 #[.slice A n c] w (CND w) := by
  have hf := s_l01From A n c w hn hs
  have hp := fun W h => s_pick8 w.heap.size 3 4 4 5 2 1 0 6 W h
  have hx := fun n h1 W h => s_nextI w.heap.size n h1 W h
  have hl := fun W h => s_l25Draw w.heap.size W h
  obtain ⟨i1, hi1, hy0, hy1, hy2⟩ := info_parts infoSl
  clear hn
  go_enter Tryz.func42, Tryz.ntmps42
  go_wp2_with (fail)
  refine hf.mono ?_
  rintro e w1 ⟨rfl, hs1, hb1⟩
  go_wp2_with (fail)
  refine (hp _ hs1).mono ?_
  rintro e w2 ⟨x, rfl, hx6, hs2, hu2⟩
  have hx6 : 0 ≤ x ∧ x ≤ 6 := by simp at hx6; omega
  obtain ⟨p, rfl⟩ : ∃ p : Nat, x = p := ⟨x.toNat, by omega⟩
  have hp6 : p ≤ 6 := by omega
  have hba := (Below.refl w2.heap.size w2).alloc (Nat.le_refl _) (.cells #[] 24)
  have hs2a := hs2.call hba
  have hg1 := hs1.lt
  have hz2 := hu2.size
  have o2 := ob_nilL w2 24 w1.heap.size hz2
  have u2 := hu2.thenB hba
  go_wp2_with (fail)
  refine (hx 4 (by omega) _ hs2a).mono ?_
  rintro e w3 ⟨k0, rfl, hk, hs3, hu3⟩
  have o3 := up_own (B := 0) o2 hu3 hg1
  have u3 := u2.call hu3
  clear hba hs2a o2 u2 hu3 hs2 hu2 hp hf hx6
  go_wp2_with (fail)
  go_loopw [6, 7] (fun u6 u7 wr => ∃ (m k : Nat) (vs : List Value) (ll : List (List Int)), m + k ≤ 3 ∧ u7 = .int .i64 k ∧ wr.ownsRow w1.heap.size 24 1 u6 m vs ∧ RowsO wr w1.heap.size vs ll ∧ Hid (m = ll.length) ∧ (∀ a ∈ ll, a.length ≤ 7) ∧ SRC wr w.heap.size ∧ Up w.heap.size w1.heap.size w1 wr) (fun _ u7 _ => (intOf u7).toNat)
  case atStart => exact ⟨0, k0, [], [], by omega, rfl, o3, RowsO.nil _ _, rfl, fun a h => by simp at h, hs3, u3⟩
  case round =>
    obtain ⟨ws, rfl⟩ : ∃ ws : World, ws = wr := ⟨_, rfl⟩
    clear o3 hs3 u3 hk
    obtain ⟨m, k, vs, ll, hmk, rfl, o4, hr4, HM, hl7, hs4, u4⟩ := hrel
    obtain ⟨A4, c4, rfl, _⟩ := own_slice' o4
    have hz4 := u4.size
    by_cases hk : 0 < k
    · obtain ⟨k, rfl⟩ : ∃ k', k = k' + 1 := ⟨k - 1, by omega⟩
      cases hin : inB p 1 5
      · go_wp2_with (first
          | (go_at_call 64; refine (s_l01In _ _ _ _).mono ?_; rintro e w5 ⟨rfl, nq, rfl⟩; rw [hin]; have hs5 := hs4.drewN nq; have hu5 : Up w.heap.size ws.heap.size ws (ws.drewN nq) := Up.refl.drewN nq)
          | (go_at_call 86; refine (hl _ hs5).mono ?_; rintro e w8 ⟨A8, L8, c8, l8, rfl, hL8, hl8, o8, _, hs8, hu8⟩; have HL8 := Lib.hid hL8; clear hL8; have hu48 := hu5.call hu8; have o8 := own_mono o8 (show ws.heap.size ≤ _ from hu5.size))
          | (at_builtin; refine wpList_append_src rfl (.tmp 37) (.tmp 40) 29 rfl w1.heap.size 24 i1 (.slice none 0 0) 1 24 Tryz.underlying29 hi1 hy0 hy1 hy2 rfl (by omega) (.slice A4 m c4) m vs rfl (World.ownsRow.alloc (up_own (B := 0) o4 hu48 hg1) _) (some ⟨w8.heap.size, 0, none⟩) 1 1 [.slice A8 L8 c8] rfl rfl (one_src w8 _ _) (by intro h; cases h) (by intro u hu; simp at hu; subst hu; rfl) (by simp only [maxLen]; omega) (by omega) (by have := hu48.size; simp; omega) ?_; intro v9 w9 o9 g9 _))
        have hr9 := cnd_step hg1 o4 hr4 u4 hs8 hu48 o8 HL8.out g9
        obtain ⟨hr9, hs9, u9⟩ := hr9
        have hH := show Hid (m + 1 = (ll ++ [l8]).length) from by unfold Hid; rw [List.length_append, HM.out]; rfl
        have hl9 : ∀ a ∈ ll ++ [l8], a.length ≤ 7 := fun a h => by
          rw [List.mem_append, List.mem_singleton] at h
          rcases h with h | rfl
          · exact hl7 a h
          · rw [← HL8.out]; exact hl8
        clear o8 HL8 g9 hs8 hu48 o4 hr4 HM hl7 u4
        go_roundw
        case rel => exact ⟨m + 1, k, _, _, by omega, by go_num, o9, hr9, hH, hl9, hs9, u9⟩
        case measure => simp [intOf]
      · have hp1 : 1 ≤ p := by simp [inB] at hin; omega
        go_wp2_with (go_at_call 64; refine (s_l01In _ _ _ _).mono ?_; rintro e w5 ⟨rfl, nq, rfl⟩; rw [hin]; have hs5 := hs4.drewN nq; have hu5 : Up w.heap.size ws.heap.size ws (ws.drewN nq) := Up.refl.drewN nq)
        go_wp2_with (fail)
        refine (hx 16 (by omega) _ hs5).mono ?_
        rintro e w6 ⟨j, rfl, hj, hs6, hu6⟩
        have hu6 := hu5.call hu6
        by_cases hj0 : j = 0
        · subst hj0
          go_wp2_with (first
            | (go_at_call 86; refine (hl _ hs6).mono ?_; rintro e w8 ⟨A8, L8, c8, l8, rfl, hL8, hl8, o8, _, hs8, hu8⟩; have HL8 := Lib.hid hL8; clear hL8; have hu48 := hu6.call hu8; have o8 := own_mono o8 (show ws.heap.size ≤ _ from hu6.size))
            | (at_builtin; refine wpList_append_src rfl (.tmp 37) (.tmp 40) 29 rfl w1.heap.size 24 i1 (.slice none 0 0) 1 24 Tryz.underlying29 hi1 hy0 hy1 hy2 rfl (by omega) (.slice A4 m c4) m vs rfl (World.ownsRow.alloc (up_own (B := 0) o4 hu48 hg1) _) (some ⟨w8.heap.size, 0, none⟩) 1 1 [.slice A8 L8 c8] rfl rfl (one_src w8 _ _) (by intro h; cases h) (by intro u hu; simp at hu; subst hu; rfl) (by simp only [maxLen]; omega) (by omega) (by have := hu48.size; simp; omega) ?_; intro v9 w9 o9 g9 _))
          have hr9 := cnd_step hg1 o4 hr4 u4 hs8 hu48 o8 HL8.out g9
          obtain ⟨hr9, hs9, u9⟩ := hr9
          have hH := show Hid (m + 1 = (ll ++ [l8]).length) from by unfold Hid; rw [List.length_append, HM.out]; rfl
          have hl9 : ∀ a ∈ ll ++ [l8], a.length ≤ 7 := fun a h => by
            rw [List.mem_append, List.mem_singleton] at h
            rcases h with h | rfl
            · exact hl7 a h
            · rw [← HL8.out]; exact hl8
          clear o8 HL8 g9 hs8 hu48 o4 hr4 HM hl7 u4
          go_roundw
          case rel => exact ⟨m + 1, k, _, _, by omega, by go_num, o9, hr9, hH, hl9, hs9, u9⟩
          case measure => simp [intOf]
        · have hjp : (0 : Int) < j := by omega
          have hfc := fun W => s_factN p W hp6
          have hfp := fact_pos p
          have hwn := fun r W h => s_l21With p r W hp1 hp6 h
          have hty := fun B d r W h hi => s_l21Type B p d (wrL p r) W hp1 hp6 (wrL_in (n := p) (r := r) h) hi
          generalize hF : fact p = F at *
          have HF := Lib.hid hF
          clear hF
          go_wp2_with (first
            | (go_at_call 89; refine (hfc _).mono ?_; rintro e w7 ⟨rfl, q7, rfl⟩; have hs7 := hs6.drewN q7; have hu7 := hu6.drewN q7)
            | (go_at_call 69; refine (hx (F : Nat) (by omega) _ hs7).mono ?_; rintro e wa ⟨r, rfl, hr, hsa, hua⟩; have hua := hu7.call hua; have hr := Int.ofNat_lt.mp hr)
            | (go_at_call 102; refine (hwn r _ hr).mono ?_; rintro e wb ⟨v, rfl, ob, hbb⟩; have hrl := (wrL_in (n := p) (r := r) (by rw [HF.out]; exact hr)).1; obtain ⟨Bb, db, rfl, hib⟩ := own_nt ob hrl.symm; have hsb := hsa.call hbb; have hub := hua.thenB hbb)
            | (go_at_call 101; refine (hty Bb db r _ hr hib).mono ?_; rintro e w8 ⟨v8, rfl, o8, hb8⟩; obtain ⟨A8, c8, rfl, _⟩ := own_slice' o8; have hs8 := hsb.call hb8; have hu48 := hub.thenB hb8; have o8 := own_mono o8 (show ws.heap.size ≤ _ from hub.size); have htl := tyS_len (wrL p r); have hcl := cycL_len (wrL p r); rw [hrl] at hcl; generalize tyS (wrL p r) = l8 at *; generalize (cycL (wrL p r)).length = L8 at *; have hl8 : L8 ≤ 7 := (by omega); have HL8 := Lib.hid htl.symm; clear htl hcl)
            | (at_builtin; refine wpList_append_src rfl (.tmp 27) (.tmp 35) 29 rfl w1.heap.size 24 i1 (.slice none 0 0) 1 24 Tryz.underlying29 hi1 hy0 hy1 hy2 rfl (by omega) (.slice A4 m c4) m vs rfl (World.ownsRow.alloc (up_own (B := 0) o4 hu48 hg1) _) (some ⟨w8.heap.size, 0, none⟩) 1 1 [.slice A8 L8 c8] rfl rfl (one_src w8 _ _) (by intro h; cases h) (by intro u hu; simp at hu; subst hu; rfl) (by simp only [maxLen]; omega) (by omega) (by have := hu48.size; simp; omega) ?_; intro v9 w9 o9 g9 _))
          have hr9 := cnd_step hg1 o4 hr4 u4 hs8 hu48 o8 HL8.out g9
          obtain ⟨hr9, hs9, u9⟩ := hr9
          have hH := show Hid (m + 1 = (ll ++ [l8]).length) from by unfold Hid; rw [List.length_append, HM.out]; rfl
          have hl9 : ∀ a ∈ ll ++ [l8], a.length ≤ 7 := fun a h => by
            rw [List.mem_append, List.mem_singleton] at h
            rcases h with h | rfl
            · exact hl7 a h
            · rw [← HL8.out]; exact hl8
          clear o8 HL8 g9 hs8 hu48 o4 hr4 HM hl7 u4
          go_roundw
          case rel => exact ⟨m + 1, k, _, _, by omega, by go_num, o9, hr9, hH, hl9, hs9, u9⟩
          case measure => simp [intOf]
    · obtain rfl : k = 0 := by omega
      go_wp2_with (fail)
      go_ret2
      exact ⟨p, A4, m, c4, ll, rfl, HM.out, by omega, own_cap o4, hl7, OwnII.ii o4 hr4, hb1.trans ((u4.mono (B' := w.heap.size) hb1.size).below (Nat.le_refl _))⟩
end Go.Proofs.YtglijcdnnaekkaaGreat
