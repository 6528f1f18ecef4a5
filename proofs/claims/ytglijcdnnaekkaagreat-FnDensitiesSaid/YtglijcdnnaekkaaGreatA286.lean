/- The law FnDensities: for every code. -/
import Derived.Test.YtglijcdnnaekkaaGreatA285
import Derived.Deep.Cut
namespace Go.Proofs.YtglijcdnnaekkaaGreat
set_option linter.unusedVariables false
set_option linter.unusedSimpArgs false
open Go.RowKit

theorem smT_le {f : List Int → Int} {ll : List (List Int)} (h : ∀ k, k < ll.length → 0 ≤ f (gl ll k)) : ∀ d k, k + d ≤ ll.length → smT f ll k ≤ smT f ll (k + d)
  | 0, _, _ => Int.le_refl _
  | d + 1, k, hk => by
    have h1 := smT_le h d k (by omega)
    have h2 := h (k + d) (by omega)
    rw [← Nat.add_assoc, smT]
    omega
theorem smT_ge {f : List Int → Int} {ll : List (List Int)} (h : ∀ k, k < ll.length → 0 ≤ f (gl ll k)) (k : Nat) (hk : k ≤ ll.length) : 0 ≤ smT f ll k := by
  have h1 := smT_le h k 0 (by omega)
  rw [Nat.zero_add] at h1
  exact h1
def dsL (i : Nat) : Int := ((RK (lbP i) (lbG i)).length : Nat)
def dsN (i k : Nat) : Int := mkN (smT (gN i) (toT (lbP i)) k) (dsL i)
def dsD (i k : Nat) : Int := mkD (smT (gN i) (toT (lbP i)) k) (dsL i)
theorem dsL_bd {i : Nat} (hi : i < 14) : 1 ≤ dsL i ∧ dsL i ≤ 720 := by
  have := RK_l720 i hi
  unfold dsL
  omega
theorem ds_zero {i : Nat} (hi : i < 14) : dsN i 0 = 0 ∧ dsD i 0 = 1 := mk_zero (dsL_bd hi).1
theorem ds_all {i : Nat} (hi : i < 14) : dsN i (toT (lbP i)).length = 1 ∧ dsD i (toT (lbP i)).length = 1 := by
  unfold dsN dsD
  rw [(dens_all hi).1]
  exact mk_one (dsL_bd hi).1
theorem ds_sum {i k : Nat} (hi : i < 14) (hk : k ≤ (toT (lbP i)).length) : 0 ≤ smT (gN i) (toT (lbP i)) k ∧ smT (gN i) (toT (lbP i)) k ≤ 720 := by
  obtain ⟨h1, h2⟩ := dens_all hi
  have h3 : ∀ k, k < (toT (lbP i)).length → 0 ≤ gN i (gl (toT (lbP i)) k) := fun k h => (h2 k h).2
  have h4 := smT_le h3 ((toT (lbP i)).length - k) k (by omega)
  rw [show k + ((toT (lbP i)).length - k) = (toT (lbP i)).length by omega, h1] at h4
  have := RK_l720 i hi
  exact ⟨smT_ge h3 k hk, by omega⟩
theorem ds_one {i k : Nat} (hi : i < 14) (hk : k < (toT (lbP i)).length) : 0 ≤ gN i (gl (toT (lbP i)) k) ∧ gN i (gl (toT (lbP i)) k) ≤ 720 := by
  have h1 := ds_sum hi (Nat.le_of_lt hk)
  have h2 := ds_sum hi hk
  rw [smT] at h2
  have := ((dens_all hi).2 k hk).2
  omega
theorem ds_add {i k : Nat} (hi : i < 14) (hk : k < (toT (lbP i)).length) (w : World) :
    Calls Tryz.prog 48 #[.agg #[.int .i64 (dsN i k), .int .i64 (dsD i k)], .agg #[.int .i64 (mkN (gN i (gl (toT (lbP i)) k)) (dsL i)), .int .i64 (mkD (gN i (gl (toT (lbP i)) k)) (dsL i))]] w (MR (dsN i (k + 1)) (dsD i (k + 1)) 0 w) := by
  obtain ⟨l1, l2⟩ := dsL_bd hi
  have s1 := ds_sum hi (Nat.le_of_lt hk)
  have s2 := ds_one hi hk
  obtain ⟨a1, a2, a3, a4, a5, _⟩ := mk_bd s1.1 s1.2 l1 l2
  obtain ⟨b1, b2, b3, b4, b5, _⟩ := mk_bd s2.1 s2.2 l1 l2
  have h := i_AddRat (dsN i k) (dsD i k) (mkN (gN i (gl (toT (lbP i)) k)) (dsL i)) (mkD (gN i (gl (toT (lbP i)) k)) (dsL i)) w ⟨a2, a3⟩ ⟨a4, a5⟩ ⟨b2, b3⟩ ⟨b4, b5⟩ a1 b1
  have e := mk_add (S := smT (gN i) (toT (lbP i)) k) (K := gN i (gl (toT (lbP i)) k)) l1
  unfold dsN dsD at h ⊢
  rw [e.1, e.2] at h
  exact h
theorem ds_type {i : Nat} (hi : i < 14) : toC (lbP i) = 0 ∧ ∀ s : ByteArray, s.toList = lbN i → ∀ k, k < (toT (lbP i)).length → DNV s (gl (toT (lbP i)) k) (mkN (gN i (gl (toT (lbP i)) k)) (dsL i)) (mkD (gN i (gl (toT (lbP i)) k)) (dsL i)) 0 := by
  obtain ⟨p1, p2, _⟩ := lb_in i hi
  refine ⟨(toT_eq p1 (by omega)).2, fun s hs k hk => ?_⟩
  have h := (fty_of p1 (by omega : lbP i ≤ 6)).1.1 k hk
  exact .inr (.inr ⟨i, hi, hs, (typeB_t h).symm, .inr ⟨((dens_all hi).2 k hk).1, rfl, rfl, rfl⟩⟩)
/-- The answers agree on whether a type occurs. -/
theorem ds_pos {i : Nat} (hi : i < 14) {t : List Int} : hasT (lbP i) (RK (lbP i) (lbG i)) t = decide (0 < mkN (gN i t) (dsL i)) := by
  obtain ⟨l1, l2⟩ := dsL_bd hi
  have g0 : 0 ≤ gN i t ∧ gN i t ≤ 720 := cnS_bd (gC_bd i hi) _ (Nat.le_refl _)
  rw [← gN_pos, Bool.eq_iff_iff, decide_eq_true_eq, decide_eq_true_eq, (mk_bd g0.1 g0.2 l1 l2).2.2.2.2.2]
theorem typ_small {t : List Int} (h : typeB t = true) : ∀ k, k < t.length → 0 ≤ gt t k ∧ gt t k ≤ 6 := fun k hk => by
  have := (typeB_p h).1 k hk
  omega
theorem II.tail {w : World} {B b off : Nat} {x : List Int} {ll : List (List Int)} (h : II w B (some ⟨b, off, none⟩) (x :: ll)) : II w B (some ⟨b, off + 1, none⟩) ll := fun h0 => by
  obtain ⟨b2, off2, e, hlt, hc⟩ := h (by simp)
  injection e with e
  injection e with e1 e2
  subst e1; subst e2
  refine ⟨b, off + 1, rfl, hlt, fun k hk => ?_⟩
  have := hc (k + 1) (by simpa using hk)
  rw [show off + (k + 1) = off + 1 + k by omega] at this
  simpa [gl] using this
theorem names_sub {is is' : List Nat} {bs bs' : List ByteArray} (h : ∀ k ∈ is, k ∈ is') (e : bs.map (·.toList) = is.map lbN) (e' : bs'.map (·.toList) = is'.map lbN) {j : Nat} (hj : j < bs.length) : ∃ q, q < bs'.length ∧ (gs bs' q).toList = (gs bs j).toList := by
  have hl : bs.length = is.length := by simpa using congrArg List.length e
  have hl' : bs'.length = is'.length := by simpa using congrArg List.length e'
  have hm := h _ (List.getElem_mem (show j < is.length by omega))
  obtain ⟨q, hq, hqe⟩ := List.getElem_of_mem hm
  refine ⟨q, by omega, ?_⟩
  have e1 : (bs.map (·.toList))[j]? = (is.map lbN)[j]? := by rw [e]
  have e2 : (bs'.map (·.toList))[q]? = (is'.map lbN)[q]? := by rw [e']
  rw [List.getElem?_map, List.getElem?_map, List.getElem?_eq_getElem hj, List.getElem?_eq_getElem (show j < is.length by omega)] at e1
  rw [List.getElem?_map, List.getElem?_map, List.getElem?_eq_getElem (show q < bs'.length by omega), List.getElem?_eq_getElem hq, hqe] at e2
  simp at e1 e2
  simp [gs, List.getElem?_eq_getElem hj, List.getElem?_eq_getElem (show q < bs'.length by omega), e1, e2]
set_option maxRecDepth 20000 in
set_option maxHeartbeats 4000000 in
theorem law_Densities (A : Option Addr) (n c : Nat) (w : World) (hm : n ≤ maxLen) (hs : YB w w.heap.size A n) :
    Calls Tryz.prog 5 #[.slice A n c] w (M (.bool true) w) := by
  unfold maxLen at hm
  by_cases hbig : 4096 < n
  · go_enter Tryz.func5, Tryz.ntmps5
    go_wp2_with (go_at_call 7; refine (l_bigYes A n c _ hbig).mono ?_; rintro e w1 ⟨rfl, q1, rfl⟩)
    go_ret
    exact ⟨rfl, below_drewN (Below.refl _ _) _⟩
  have hn : n ≤ 4096 := by omega
  clear hm hbig
  have hd1 := fun W h => s_DrawDensityOf A n c W hn h
  have hd2 := fun W h => s_DrawCandidateNames A n c W hn h
  go_enter Tryz.func5, Tryz.ntmps5
  go_wp2_with (go_at_call 7; refine (l_bigNo A n c _ hn).mono ?_; rintro e w1 ⟨rfl, q1, rfl⟩)
  have b1 := below_drewN (Below.refl w.heap.size w) q1
  generalize w.drewN q1 = w1 at *
  refine (hd1 _ (hs.call b1)).mono ?_
  rintro e w2 ⟨nb, A2, L, c2, t, rfl, hL, hl, i2, hb2⟩
  have b2 := bel_call b1 hb2
  obtain ⟨x, y, cd, hdn⟩ := dnv_ex nb t
  have k1 := fun W h => i_DensityOf nb A2 L c2 t x y cd W hdn hL (by omega) h
  have k2 := fun W h => s_DensityOf nb A2 L c2 t x y cd W hdn hL (by omega) h
  unfold MR at k1 k2
  have HL := Lib.hid hL
  have HDN := Lib.hid hdn
  clear hL hdn hd1 hb2 b1
  go_wp2_with (fail)
  refine (k1 _ i2).mono ?_
  rintro e w3 ⟨rfl, hb3⟩
  have X4 := BK.new w3 63 #[.int .i64 x, .int .i64 y]
  have hbx := (Below.refl w3.heap.size w3).alloc (Nat.le_refl _) (.cells #[.int .i64 x, .int .i64 y] 63)
  have b4 := bel_call (bel_call b2 hb3) hbx
  have i4 := (i2.call hb3).call hbx
  clear hbx hb3 i2 b2
  go_wp2_with (fail)
  generalize w3.alloc (.cells #[.int .i64 x, .int .i64 y] 63) = w4 at *
  refine (k2 _ i4).mono ?_
  rintro e w5 ⟨rfl, hb5⟩
  have Y6 := BK.new w5 63 #[.int .i64 x, .int .i64 y]
  have hbx := (Below.refl w5.heap.size w5).alloc (Nat.le_refl _) (.cells #[.int .i64 x, .int .i64 y] 63)
  have b6 := bel_call (bel_call b4 hb5) hbx
  have i6 := (i4.call hb5).call hbx
  have X6 := (X4.of_below hb5).of_below hbx
  clear hbx hb5 i4 b4 X4
  go_wp2_with (fail)
  generalize w5.alloc (.cells #[.int .i64 x, .int .i64 y] 63) = w6 at *
  refine (hd2 _ (hs.call b6)).mono ?_
  rintro e w7 ⟨p, A7, M, c7, ll, rfl, hM, hM3, hcap, hl7, ii7, hb7⟩
  have b7 := bel_call b6 hb7
  have i7 := i6.call hb7
  have X7 := X6.of_below hb7
  have Y7 := Y6.of_below hb7
  obtain ⟨is, code, hcn⟩ := CN_all p ll
  have hrm : ∀ k, k < M → (gl ll k).length ≤ 1048576 := fun k hk => by have := hl7 _ (gl_mem (ll := ll) (i := k) (by omega)); omega
  have k3 := fun W h => i_CandidateNames p A7 M c7 ll is code W hM (by omega) hrm h hcn
  have k4 := fun W h => s_CandidateNames p A7 M c7 ll is code W hM (by omega) hrm h hcn
  unfold OSC at k3 k4
  have hln := hcn.len
  have HM := Lib.hid hM
  have HL7 := Lib.hid hl7
  have HCN := Lib.hid hcn
  have hc0 : code = 0 ∨ ((code == 0) = false ∧ (code != 0) = true) := by
    by_cases h : code = 0
    · exact .inl h
    · exact .inr ⟨by rw [beq_eq_false_iff_ne]; exact h, by rw [bne_iff_ne]; exact h⟩
  have hd0 : cd = 0 ∨ ((cd == 0) = false ∧ (cd != 0) = true) := by
    by_cases h : cd = 0
    · exact .inl h
    · exact .inr ⟨by rw [beq_eq_false_iff_ne]; exact h, by rw [bne_iff_ne]; exact h⟩
  clear hM hl7 hcn hrm hd2 hb7 i6 X6 Y6 b6 hs
  go_wp2_with (fail)
  refine (k3 _ ii7).mono ?_
  rintro e w8 ⟨A8, c8, rfl, ⟨bs8, o8, he8⟩, hb8⟩
  have ii8 := ii7.callG hb8
  go_wp2_with (fail)
  refine (k4 _ ii8).mono ?_
  rintro e w9 ⟨A9, c9, rfl, ⟨bs9, o9, he9⟩, hb9⟩
  have b9 := bel_call (bel_call b7 hb8) hb9
  have i9 := (i7.call hb8).call hb9
  have X9 := (X7.of_below hb8).of_below hb9
  have Y9 := (Y7.of_below hb8).of_below hb9
  have ii9 := ii8.callG hb9
  have o8 := own_below o8 hb9
  have n8 : is.length = bs8.length := by simpa using (congrArg List.length he8).symm
  have n9 : is.length = bs9.length := by simpa using (congrArg List.length he9).symm
  have I8 := own_ib o8 n8
  have I9 := own_ib o9 n9
  generalize hmm : is.length = m at *
  have lk := l_likeTexts A8 A9 m c8 c9 bs8 bs9 w9 _ _ n8 n9 (by omega) I8 I9 (by rw [he8, he9])
  have HE8 := Lib.hid he8
  have HN8 := Lib.hid n8
  clear k1 k2 k3 k4 ii7 ii8 b7 i7 X7 Y7 hb8 he9 n8 n9 I9 o8 o9 hmm he8
  obtain ⟨x0, x1, _, _⟩ := X9.two
  obtain ⟨y0, y1, _, _⟩ := Y9.two
  go_upto_region 11 with (go_at_call 45; refine lk.mono ?_; rintro e w10 ⟨rfl, q10, rfl⟩)
  go_cut [89] from 83 (fun s wx => s = .bool (code == 0 && decide (0 < M)) ∧ Below w9.heap.size w9 wx)
  case first =>
    rcases hc0 with rfl | ⟨z1, z2⟩
    · by_cases hM0 : 0 < M
      · go_wp2_with (fail)
        go_meet
        case rel => exact ⟨by simp [hM0], below_drewN (Below.refl _ _) _⟩
      · go_wp2_with (fail)
        go_meet
        case rel => exact ⟨by simp [hM0], below_drewN (Below.refl _ _) _⟩
    · go_wp2_with (fail)
      go_meet
      case rel => exact ⟨by rw [z1]; rfl, below_drewN (Below.refl _ _) _⟩
  case rest =>
    obtain ⟨rfl, hb11⟩ := hcut
    obtain ⟨w11, rfl⟩ : ∃ w11 : World, w11 = wc := ⟨_, rfl⟩
    clear lk
    go_upto_if 89 with (fail)
    go_cut [10] from 15 (fun _ wx => Below w9.heap.size w9 wx)
    case first =>
      cases hbb : (code == 0 && decide (0 < M))
      · go_wp2_with (fail)
        go_meet
        case rel => exact hb11
      · rw [Bool.and_eq_true, beq_iff_eq, decide_eq_true_eq] at hbb
        obtain ⟨rfl, hM0⟩ := hbb
        obtain ⟨v0, l2, rfl⟩ : ∃ v l, ll = v :: l := by
          cases ll with
          | nil => have := HM.out; simp at this; omega
          | cons v l => exact ⟨v, l, rfl⟩
        obtain ⟨b, off, rfl, _⟩ := ii9.at (k := 0) (by simp)
        obtain ⟨is2, hcn2, hsub⟩ := cn_tail HCN.out
        have hM2 : M - 1 = l2.length := by have := HM.out; simp at this; omega
        have hrm2 : ∀ k, k < M - 1 → (gl l2 k).length ≤ 1048576 := fun k hk => by have := HL7.out _ (List.mem_cons_of_mem _ (gl_mem (ll := l2) (i := k) (by omega))); omega
        have it0 := (ii9.callG hb11).tail
        have it1 : c7 = 1 → II w11 w11.heap.size (some ⟨b, off, none⟩) l2 := fun h h0 => by omega
        have k5 := fun A c h => i_CandidateNames p A (M - 1) c l2 is2 0 w11 hM2 (by omega) hrm2 h hcn2
        unfold OSC at k5
        have hln2 := hcn2.len
        have I11 := (I8.below hb11).more hb11.size
        have HSUB := Lib.hid hsub
        clear hM2 hcn2 hrm2 hsub ii9 I8 hc0
        by_cases hc7 : c7 = 1
        case' pos =>
          have it1 := it1 hc7
          go_wp2_with (fail)
          refine (k5 _ _ it1).mono ?_
        case' neg =>
          go_wp2_with (fail)
          refine (k5 _ _ it0).mono ?_
        all_goals
          rintro e w13 ⟨A13, c13, rfl, ⟨bs13, o13, he13⟩, hb13⟩
          have n13 : is2.length = bs13.length := by simpa using (congrArg List.length he13).symm
          have I13 := own_ib o13 n13
          have I11 := (I11.below hb13)
          have hb13' := bel_call hb11 hb13
          have hnm := fun j (hj : j < m) => names_sub HSUB.out HE8.out he13 (j := j) (by rw [← HN8.out]; exact hj)
          generalize is2.length = m2 at *
          have HN13 := Lib.hid n13
          have hz13 := hb13.size
          clear he13 HSUB n13 o13 k5
          go_wp2_with (fail)
          go_loopw [17] (fun u17 wr => ∃ j : Nat, j ≤ m ∧ u17 = .int .i64 j ∧ DR w13 wr) (fun u17 _ => m - (intOf u17).toNat)
          case atStart => exact ⟨0, Nat.zero_le _, rfl, DR.refl _⟩
          case round =>
            obtain ⟨ws, rfl⟩ : ∃ ws : World, ws = wr := ⟨_, rfl⟩
            obtain ⟨j, hj, rfl, hdr⟩ := hrel
            by_cases hlt : j < m
            · obtain ⟨b3, off3, rfl, hb3, hc3⟩ := I11 (by rw [← HN8.out]; omega)
              have e1 := (hdr.cell _).trans (hc3 j (by rw [← HN8.out]; exact hlt))
              obtain ⟨q, hq, hqe⟩ := hnm j hlt
              have I13' : IB ws w13.heap.size A13 bs13 := by obtain ⟨qd, rfl⟩ := hdr; exact I13
              have hht := l_hasText A13 m2 c13 q bs13 (gs bs8 j) ws _ HN13.out (by omega) I13' (by rw [HN13.out]; exact hq) hqe
              clear hc3 hnm
              go_wp2_with (go_at_call 46; refine hht.mono ?_; rintro e w14 ⟨rfl, q14, rfl⟩)
              go_roundw
              case rel => exact ⟨j + 1, by omega, by go_num, hdr.step _⟩
              case measure => simp [intOf]; omega
            · obtain rfl : j = m := by omega
              go_wp2_with (fail)
              go_meet
              case rel => obtain ⟨qd, rfl⟩ := hdr; exact below_drewN hb13' qd
    case rest =>
      obtain ⟨w12, rfl⟩ : ∃ w12 : World, w12 = wc := ⟨_, rfl⟩
      have hb12 := hcut
      have i12 := i9.call hb12
      have X12 := X9.of_below hb12
      have b12 := bel_call b9 hb12
      clear hb11 hc0 ii9 I8 o8 HE8 HN8 x0 x1 y0 y1 Y9 hb9 X9 i9 b9 HCN HM HL7 hM3 hcap hln
      obtain ⟨x0, x1, _, _⟩ := X12.two
      rcases hd0 with rfl | ⟨z1, z2⟩
      · obtain ⟨i, hi, hsn, hty, hsum, hx⟩ : ∃ i, i < 14 ∧ nb.toList = lbN i ∧ typeB t = true ∧ t.sum = (lbP i : Nat) ∧ x = mkN (gN i t) (dsL i) := by
          rcases HDN.out with ⟨_, _, _, e⟩ | ⟨_, _, _, _, e⟩ | ⟨i, hi, hsn, hty, ⟨_, _, _, e⟩ | ⟨hsum, hx, _, _⟩⟩
          · omega
          · omega
          · omega
          · exact ⟨i, hi, hsn, hty, hsum, hx⟩
        have hsm := l_sumT A2 L c2 t w12 w12.heap.size HL.out hl (fun k hk => typ_small hty k (by rw [← HL.out]; exact hk)) i12
        have htt := fun W => i_TypesOf (lbP i : Nat) W
        rw [hsum] at hsm
        rw [(ds_type hi).1] at htt
        unfold RLS at htt
        have hsu := fun W h => i_IsSuitable nb i hi hsn A2 L c2 t W HL.out (by omega) h
        rw [ds_pos hi, ← hx] at hsu
        unfold MBI at hsu
        have hts := toT_small (lbP i : Nat)
        have hdo := fun k hk A c W h => i_DensityOf nb A _ c (gl (toT (lbP i)) k) _ _ 0 W ((ds_type hi).2 nb hsn k hk) rfl (by have := hts.2 k hk; omega) h
        have hda := fun k hk W => ds_add hi (k := k) hk W
        unfold MR at hdo hda
        have H0 := ds_zero hi
        have H1 := Lib.hid (ds_all hi)
        generalize dsN i = N at *
        generalize dsD i = D at *
        generalize hTT : toT (lbP i) = T at *
        have hlt3 : w3.heap.size < w12.heap.size := X12.lt
        clear HDN hty hsum hsn hx hTT X12
        go_wp2_with (go_at_call 47; refine hsm.mono ?_; rintro e w14 ⟨rfl, q14, rfl⟩)
        have b14 := below_drewN b12 q14
        have i14 := i12.drewN q14
        refine (htt _).mono ?_
        rintro e w15 ⟨A15, m15, c15, vs15, hm15, rfl, o15, r15, hb15⟩
        have ii15 := OwnII.ii o15 (by rw [hm15] at o15; exact r15)
        have b15 := bel_call b14 hb15
        have i15 := i14.call hb15
        have f0 : w15.cell? ⟨w3.heap.size, 0, none⟩ = some (.int .i64 x) := (hb15.cell (p := ⟨w3.heap.size, 0, none⟩) hlt3).trans x0
        have HM15 := Lib.hid hm15
        have hlt15 : w3.heap.size < w15.heap.size := Nat.lt_of_lt_of_le hlt3 hb15.size
        have hbx := (Below.refl w15.heap.size w15).alloc (Nat.le_refl _) (.cells #[.int .i64 0, .int .i64 1] 63)
        have B16 := BK.new w15 63 #[.int .i64 0, .int .i64 1]
        clear hm15 htt hsm i14 i12 b14 b12 o15 r15 hb15 x0 x1
        go_wp2_with (fail)
        generalize w15.alloc (.cells #[.int .i64 0, .int .i64 1] 63) = w16 at *
        go_loopw [21] (fun u21 wr => ∃ k : Nat, k ≤ m15 ∧ u21 = .int .i64 k ∧ BK wr w15.heap.size 63 #[.int .i64 (N k), .int .i64 (D k)] ∧ Below w15.heap.size w15 wr) (fun u21 _ => m15 - (intOf u21).toNat)
        case atStart => exact ⟨0, Nat.zero_le _, rfl, by rw [H0.1, H0.2]; exact B16, hbx⟩
        case round =>
          obtain ⟨ws, rfl⟩ : ∃ ws : World, ws = wr := ⟨_, rfl⟩
          obtain ⟨k, hk, rfl, BS, hbs⟩ := hrel
          have hzs := hbs.size
          by_cases hlt : k < m15
          · have hkT : k < T.length := by rw [← HM15.out]; exact hlt
            obtain ⟨b, off, rfl, hbb, hcell⟩ := ii15.at (k := k) hkT
            obtain ⟨Ar, cr, h1, _, _, i1⟩ := hcell k hkT
            have e1 := (hbs.cell (p := ⟨b, off + k, none⟩) hbb).trans h1
            have i1 := (i1.below hbs).more hzs
            have hdo := hdo k hkT Ar cr ws i1
            have hda := fun W => hda k hkT W
            generalize mkN (gN i (gl T k)) (dsL i) = xk at *
            generalize mkD (gN i (gl T k)) (dsL i) = yk at *
            generalize (gl T k).length = lk at *
            generalize hN2 : N (k + 1) = N2 at *
            generalize hD2 : D (k + 1) = D2 at *
            have EN := Lib.hid hN2
            have ED := Lib.hid hD2
            clear hN2 hD2
            generalize N k = N1 at *
            generalize D k = D1 at *
            clear h1 hcell i1 H1 hsu i15
            go_wp2_with (fail)
            refine hdo.mono ?_
            rintro e w17 ⟨rfl, hb17⟩
            have hbx := (Below.refl w17.heap.size w17).alloc (Nat.le_refl _) (.cells #[.int .i64 xk, .int .i64 yk] 63)
            have X18 := BK.new w17 63 #[.int .i64 xk, .int .i64 yk]
            have BS18 := (BS.of_below hb17).of_below hbx
            have b18 := bel_call (bel_call ((Below.refl ws.heap.size ws)) hb17) hbx
            obtain ⟨x0, x1, _, _⟩ := X18.two
            obtain ⟨s0, s1, _, _⟩ := BS18.two
            clear hbx hb17 hdo
            go_wp2_with (fail)
            generalize w17.alloc (.cells #[.int .i64 xk, .int .i64 yk] 63) = w18 at *
            refine (hda _).mono ?_
            rintro e w19 ⟨rfl, hb19⟩
            have hbx := (Below.refl w19.heap.size w19).alloc (Nat.le_refl _) (.cells #[.int .i64 N2, .int .i64 D2] 63)
            have X20 := BK.new w19 63 #[.int .i64 N2, .int .i64 D2]
            have BS20 := (BS18.of_below hb19).of_below hbx
            have b20 := bel_call (bel_call b18 hb19) hbx
            obtain ⟨y0, y1, _, _⟩ := X20.two
            obtain ⟨r0, r1, rf0, rf1⟩ := BS20.two
            clear hbx hb19 hda x0 x1 s0 s1
            go_wp2_with (fail)
            generalize w19.alloc (.cells #[.int .i64 N2, .int .i64 D2] 63) = w20 at *
            have h5 := (BS20.set 0 (.int .i64 N2)).set 1 (.int .i64 D2)
            have h6 := ((hbs.trans (b20.mono hzs)).setCell (p := ⟨w15.heap.size, 0, none⟩) (Nat.le_refl _) (.int .i64 N2)).setCell (p := ⟨w15.heap.size, 1, none⟩) (Nat.le_refl _) (.int .i64 D2)
            go_roundw
            case rel => exact ⟨k + 1, by omega, by go_num, by rw [EN.out, ED.out]; simpa using h5, h6⟩
            case measure => simp [intOf]; omega
          · obtain rfl : k = m15 := by omega
            have i16 := (i15.below hbs).more hzs
            have f16 := (hbs.cell (p := ⟨w3.heap.size, 0, none⟩) (by show w3.heap.size < _; omega)).trans f0
            have b16 := b15.trans (hbs.mono b15.size)
            have H1 := H1.out
            rw [← HM15.out] at H1
            rw [H1.1, H1.2] at BS
            have hz3 : w3.heap.size < ws.heap.size := by omega
            clear hda hdo ii15 i15 hbs H1 f0 b15
            by_cases hx0 : 0 < x
            · rw [decide_eq_true hx0] at hsu
              go_wp2_with (go_at_call 49; refine (hsu _ i16).mono ?_; rintro e w21 ⟨rfl, hb21⟩; obtain ⟨s0, s1, _, _⟩ := (BS.of_below hb21).two; have f21 := (hb21.cell (p := ⟨w3.heap.size, 0, none⟩) hz3).trans f16)
              go_ret
              exact ⟨rfl, bel_call b16 hb21⟩
            · rw [decide_eq_false hx0] at hsu
              go_wp2_with (go_at_call 49; refine (hsu _ i16).mono ?_; rintro e w21 ⟨rfl, hb21⟩; obtain ⟨s0, s1, _, _⟩ := (BS.of_below hb21).two; have f21 := (hb21.cell (p := ⟨w3.heap.size, 0, none⟩) hz3).trans f16)
              go_ret
              exact ⟨ret_bool (by simp [hx0]), bel_call b16 hb21⟩
      · go_wp2_with (fail)
        go_ret
        exact ⟨rfl, b12⟩
end Go.Proofs.YtglijcdnnaekkaaGreat
