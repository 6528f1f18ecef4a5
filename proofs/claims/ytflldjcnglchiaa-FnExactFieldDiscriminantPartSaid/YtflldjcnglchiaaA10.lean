/- Contracts and walk: FieldDiscriminantPart. -/
import Derived.Test.YtflldjcnglchiaaA9
import Derived.Test.YtflldjcnglchiaaA6
namespace Go.Proofs.Ytflldjcnglchiaa
set_option linter.unusedVariables false
set_option linter.unusedSimpArgs false
open Go.RowKit

set_option maxHeartbeats 2000000 in
theorem i_factors (n : Nat) (w : World) (h1 : 1 ≤ n) (h2 : n ≤ 1000000) : Calls Try.prog 76 #[.int .i64 n] w (FP (fl 2 n) w) := by
  obtain ⟨i0, hi, hz0, hz1, hz2⟩ := info_parts infoPow
  go_enter Try.func76, Try.ntmps76
  go_wp2_with (fail)
  go_loopw [0, 3, 4] (fun u0 u3 u4 wr => ∃ (p m k : Nat) (acc : List (Int × Int)), 2 ≤ p ∧ (p ≤ 1001 ∨ m = 1) ∧ p ≤ 1000001 ∧ 1 ≤ m ∧ m ≤ n ∧ (k ≤ p ∨ m = 1) ∧ k ≤ 1002 ∧ u0 = .int .i64 m ∧ u4 = .int .i64 p ∧ Hid (acc ++ fl p m = fl 2 n ∧ k = acc.length) ∧ wr.ownsRow w.heap.size 50 2 u3 k (pcells acc) ∧ Below w.heap.size w wr) (fun u0 _ u4 _ => (intOf u0).toNat + ((intOf u0).toNat - (intOf u4).toNat))
  case atStart => exact ⟨2, n, 0, [], by omega, by omega, by omega, h1, Nat.le_refl _, by omega, by omega, rfl, rfl, ⟨by simp, rfl⟩, World.ownsRow_nil _ _ _ _, Below.refl _ _⟩
  case round =>
    obtain ⟨p, m, k, acc, hp, hp', hpb, hm, hm', hk', hk, rfl, rfl, HG, hown, hb⟩ := hrel
    obtain ⟨A, cap, rfl⟩ := own_slice (cap' := 0) hown
    by_cases hm1 : 1 < m
    · have hp2 : p ≤ 1001 := by omega
      have d0 : 4 ≤ (p : Int) * p := sq_ge (d := 2) (by omega) (by omega)
      have d1 : (p : Int) * p ≤ 1002001 := sq_ge (d := (p : Int)) (e := 1001) (by omega) (by omega)
      have dc : (p : Int) * p = ((p * p : Nat) : Int) := by simp
      by_cases hpm : p * p ≤ m
      · have d2 : (p : Int) * p ≤ m := by rw [dc]; omega
        have d3 := sqN_1000 (d := p) (by omega)
        have hmm : p < m := by
          have := Nat.mul_le_mul_left p hp
          omega
        have hsb := strip_bd hp m m (Nat.le_refl _) (by omega)
        have HS := Lib.hid (fl_step hp hm1 (by omega))
        clear dc hp'
        have hkp : k ≤ p := by omega
        clear hk'
        obtain ⟨wo, rfl⟩ : ∃ wo : World, wo = wr := ⟨_, rfl⟩
        go_wp2_with (fail)
        go_loop [0, 5] (fun u0 u5 => ∃ m' e : Nat, 1 ≤ m' ∧ m' ≤ m ∧ e ≤ m ∧ u0 = .int .i64 m' ∧ u5 = .int .i64 e ∧ Hid (e + (strip p m').1 = (strip p m).1 ∧ (strip p m').2 = (strip p m).2)) (fun u0 _ => (intOf u0).toNat)
        case atStart => exact ⟨m, 0, hm, Nat.le_refl _, by omega, rfl, rfl, ⟨by omega, rfl⟩⟩
        case round =>
          obtain ⟨m', e, hm1, hm2, he, rfl, rfl, HE⟩ := hrel
          have hsb' := strip_bd hp m' m' (Nat.le_refl _) (by omega)
          have hdv := div_bd m' p hp
          have heq := HE.out
          by_cases hmod : m' % p = 0
          · have hx : (((m' : Int) % (p : Int)) == 0) = true := by rw [beq_iff_eq]; omega
            have hy := strip_yes hp (show 0 < m' by omega) hmod
            have hlt := Nat.div_lt_self (show 0 < m' by omega) hp
            have hpos : 0 < m' / p := Nat.div_pos (Nat.le_of_dvd (by omega) (Nat.dvd_of_mod_eq_zero hmod)) (by omega)
            have HY := Lib.hid hy
            have he1 : e + 1 ≤ m := by rw [hy] at heq; simp only [] at heq; omega
            clear hy heq hmod HS
            go_wp2_with (fail)
            go_round
            case rel => exact ⟨m' / p, e + 1, hpos, by omega, he1, by simp, by go_num, ⟨by have := HE.out; rw [HY.out] at this; simp only [] at this; omega, by have := HE.out; rw [HY.out] at this; exact this.2⟩⟩
            case measure => simp [intOf]; omega
          · have hx : (((m' : Int) % (p : Int)) == 0) = false := by rw [beq_eq_false_iff_ne]; omega
            rw [strip_no hmod] at heq
            simp only [Nat.add_zero] at heq
            obtain ⟨q1, q2⟩ := heq
            have Q1 := Lib.hid q1
            have Q2 := Lib.hid q2
            clear q1 q2 hmod
            by_cases he0 : 0 < e
            · have hs1 : (wo.alloc (.cells #[.int .i64 (p : Int), .int .i64 (e : Int)] 50)).ownsRow w.heap.size 50 2 (.slice A k cap) k (pcells acc) := hown.alloc _
              have hsz := hb.size
              have hwd := two_cells wo (.int .i64 (p : Int)) (.int .i64 (e : Int)) 50
              have HWD := Lib.hid hwd
              clear hwd
              go_wp2_with (at_builtin; refine wpList_append_own _ rfl (.tmp 27) (.tmp 31) 47 rfl w.heap.size 50 i0 (.agg #[.int .i64 0, .int .i64 0]) 2 16 Try.underlying47 hi hz0 hz1 hz2 rfl (by omega) (.slice A k cap) k (pcells acc) rfl hs1 ⟨wo.heap.size, 0, none⟩ 1 1 [.int .i64 (p : Int), .int .i64 (e : Int)] rfl rfl HWD.out (by intro u hu; simp at hu; rcases hu with rfl | rfl <;> rfl) (by simp only [maxLen]; omega) (by omega) (by simp; omega) ?_; intro v1 w1 hown1 hgrow1 hnil1; clear hnil1)
              have hb1 : Below w.heap.size w w1 := (hb.alloc hb.size _).grown hgrow1 (by simp; omega) (fun g hg => (hown.lt g hg).1)
              clear hgrow1
              go_roundw
              case rel =>
                refine ⟨p + 1, m', k + 1, acc ++ [((p : Int), (e : Int))], by omega, by omega, by omega, hm1, by omega, by omega, by omega, rfl, by go_num, ⟨?_, ?_⟩, by rw [pcells_snoc]; exact hown1, hb1⟩
                · have h1 := HG.out.1
                  rw [HS.out, ← Q1.out, ← Q2.out, if_pos he0] at h1
                  rw [← h1]; simp
                · have h1 := HG.out.2
                  simp; exact h1
              case measure => simp [intOf]; omega
            · obtain rfl : e = 0 := by omega
              go_wp2_with (fail)
              go_roundw
              case rel =>
                refine ⟨p + 1, m', k, acc, by omega, by omega, by omega, hm1, by omega, by omega, by omega, rfl, by go_num, ⟨?_, HG.out.2⟩, hown, hb⟩
                have h1 := HG.out.1
                rw [HS.out, ← Q1.out, ← Q2.out, if_neg he0] at h1
                rw [← h1]; simp
              case measure => simp [intOf]; omega
      · have d2 : (m : Int) < (p : Int) * p := by rw [dc]; omega
        have HS := Lib.hid (fl_last hp hm1 (by omega))
        clear dc hp'
        have hkp : k ≤ p := by omega
        clear hk'
        have hkm : k ≤ 1001 := by omega
        have HGp := HG
        clear HG
        obtain ⟨po, hpo⟩ : ∃ po, po = p := ⟨p, rfl⟩
        have hp0 := hp
        obtain ⟨wo, rfl⟩ : ∃ wo : World, wo = wr := ⟨_, rfl⟩
        go_wp2_with (fail)
        go_loop [0, 5] (fun u0 u5 => (u0 = .int .i64 m ∧ u5 = .int .i64 0) ∨ (u0 = .int .i64 1 ∧ u5 = .int .i64 1)) (fun u0 _ => (intOf u0).toNat)
        case atStart => exact .inl ⟨rfl, rfl⟩
        case round =>
          rcases hrel with ⟨rfl, rfl⟩ | ⟨rfl, rfl⟩
          · have hx : (((m : Int) % (m : Int)) == 0) = true := by simp
            have hy : (m : Int) / (m : Int) = 1 := Int.ediv_self (by omega)
            go_wp2_with (fail)
            go_round
            case rel => exact .inr ⟨by first | rfl | rw [hy], by first | rfl | go_num⟩
            case measure => simp [intOf]; omega
          · have hx : ((1 % (m : Int)) == 0) = false := by
              rw [Int.emod_eq_of_lt (by omega) (by omega)]; rfl
            have hs1 : (wo.alloc (.cells #[.int .i64 (m : Int), .int .i64 1] 50)).ownsRow w.heap.size 50 2 (.slice A k cap) k (pcells acc) := hown.alloc _
            have hsz := hb.size
            have hwd := two_cells wo (.int .i64 (m : Int)) (.int .i64 1) 50
            have HWD := Lib.hid hwd
            clear hwd
            go_wp2_with (at_builtin; refine wpList_append_own _ rfl (.tmp 27) (.tmp 31) 47 rfl w.heap.size 50 i0 (.agg #[.int .i64 0, .int .i64 0]) 2 16 Try.underlying47 hi hz0 hz1 hz2 rfl (by omega) (.slice A k cap) k (pcells acc) rfl hs1 ⟨wo.heap.size, 0, none⟩ 1 1 [.int .i64 (m : Int), .int .i64 1] rfl rfl HWD.out (by intro u hu; simp at hu; rcases hu with rfl | rfl <;> rfl) (by simp only [maxLen]; omega) (by omega) (by simp; omega) ?_; intro v1 w1 hown1 hgrow1 hnil1; clear hnil1)
            have hb1 : Below w.heap.size w w1 := (hb.alloc hb.size _).grown hgrow1 (by simp; omega) (fun g hg => (hown.lt g hg).1)
            clear hgrow1
            go_roundw
            case rel =>
              refine ⟨m + 1, 1, k + 1, acc ++ [((m : Int), (1 : Int))], by omega, .inr rfl, by omega, by omega, by omega, .inr rfl, by omega, rfl, by go_num, ⟨?_, ?_⟩, by rw [pcells_snoc]; exact hown1, hb1⟩
              · have h1 := HGp.out.1
                rw [HS.out] at h1
                rw [fl_one, List.append_nil]; exact h1
              · have h1 := HGp.out.2
                simp; exact h1
            case measure => simp [intOf]; omega
    · obtain rfl : m = 1 := by omega
      have hfin : acc = fl 2 n := by
        have h1 := HG.out.1
        rwa [fl_one, List.append_nil] at h1
      have hlen : k = (fl 2 n).length := by rw [← hfin]; exact HG.out.2
      have HF := Lib.hid hfin
      have HL := Lib.hid hlen
      clear hfin hlen
      go_wp2_with (fail)
      go_ret
      rw [HL.out]
      refine ⟨A, cap, rfl, by have := HL.out; omega, ?_, hb⟩
      rw [HF.out] at hown
      exact ip_of_own hown HL.out
/-- The square-free part, number by number. -/
def sqTo (l : List (Int × Int)) (s : Int) : Nat → Int
  | 0 => s
  | k + 1 => if (gp l k).2.tmod 2 = 1 then wrap64 (sqTo l s k * (gp l k).1) else sqTo l s k
theorem sqTo_yes {l : List (Int × Int)} {s : Int} {k : Nat} (h : (gp l k).2.tmod 2 = 1) : sqTo l s (k + 1) = wrap64 (sqTo l s k * (gp l k).1) := by rw [sqTo, if_pos h]
theorem sqTo_no {l : List (Int × Int)} {s : Int} {k : Nat} (h : ¬ (gp l k).2.tmod 2 = 1) : sqTo l s (k + 1) = sqTo l s k := by rw [sqTo, if_neg h]
theorem IP.call {w w' : World} {A : Option Addr} {l : List (Int × Int)} (h : IP w w.heap.size A l) (hb : Below w.heap.size w w') : IP w' w'.heap.size A l := fun hp => by
  obtain ⟨b, off, h1, h2, h3⟩ := h hp
  exact ⟨b, off, h1, Nat.lt_of_lt_of_le h2 hb.size, fun k hk => ⟨(hb.cell (p := ⟨b, off + k * 2, none⟩) h2).trans (h3 k hk).1, (hb.cell (p := ⟨b, off + k * 2 + 1, none⟩) h2).trans (h3 k hk).2⟩⟩
theorem IP.below {w w' : World} {B : Nat} {A : Option Addr} {l : List (Int × Int)} (h : IP w B A l) (hb : Below B w w') : IP w' B A l := fun hp => by
  obtain ⟨b, off, h1, h2, h3⟩ := h hp
  exact ⟨b, off, h1, h2, fun k hk => ⟨(hb.cell (p := ⟨b, off + k * 2, none⟩) h2).trans (h3 k hk).1, (hb.cell (p := ⟨b, off + k * 2 + 1, none⟩) h2).trans (h3 k hk).2⟩⟩
def fdV (n : Int) : Int := if n = 0 ∨ inB n (-1000000) 1000000 = false then 0 else sqTo (fl 2 n.natAbs) (if n < 0 then -1 else 1) (fl 2 n.natAbs).length
def fdC (n : Int) : Int := if n = 0 ∨ inB n (-1000000) 1000000 = false then 2 else 0
set_option maxHeartbeats 2000000 in
theorem s_FieldDiscriminantPart (n : Int) (w : World) : Calls Try.prog 25 #[.int .i64 n] w (M2 (fdV n) (fdC n) w) := by
  by_cases h0 : n = 0
  · subst h0
    go_enter Try.func25, Try.ntmps25
    go_wp2_with (fail)
    go_ret2
    exact ⟨ret_ii (by simp [fdV]) (by simp [fdC]), Below.refl _ _⟩
  have h0' : (n == 0) = false := by simpa using h0
  cases h1 : inB n (-1000000) 1000000
  · go_enter Try.func25, Try.ntmps25
    go_wp2_with (first | (go_at_call 39; refine (s_l01In _ _ _ _).mono ?_; rintro e w' ⟨rfl, nq, rfl⟩))
    go_ret2
    exact ⟨ret_ii (by simp [fdV, h1]) (by simp [fdC, h1]), below_drewN (Below.refl _ _) _⟩
  obtain ⟨b1, b2⟩ := inB_true h1
  have hv : fdV n = sqTo (fl 2 n.natAbs) (if n < 0 then -1 else 1) (fl 2 n.natAbs).length := by simp [fdV, h0, h1]
  have hc : fdC n = 0 := by simp [fdC, h0, h1]
  have HV := Lib.hid hv
  have HC := Lib.hid hc
  have H0 := Lib.hid h0
  have ha := abs64_eq (n := n) (by omega) (by omega)
  have hn1 : 1 ≤ n.natAbs := by omega
  have hn2 : n.natAbs ≤ 1000000 := by omega
  clear hv hc h0
  generalize hl : fl 2 n.natAbs = l at HV
  have HL := Lib.hid hl
  clear hl
  by_cases hneg : n < 0
  · have hd : decide (n < 0) = true := by simpa using hneg
    rw [if_pos hneg] at HV
    go_enter Try.func25, Try.ntmps25
    go_wp2_with (first | (go_at_call 39; refine (s_l01In _ _ _ _).mono ?_; rintro e w' ⟨rfl, nq, rfl⟩) | (go_at_call 44; refine (s_l01Abs _ _).mono ?_; rintro e w' ⟨rfl, nq, rfl⟩; rw [ha]) | (go_at_call 53; refine (s_l01Factor _ _ hn1 hn2).mono ?_; rw [HL.out]; rintro e w1 ⟨A, cap, rfl, hlen, hip, hb1⟩))
    obtain ⟨N, hN⟩ : ∃ N, N = l.length := ⟨_, rfl⟩
    rw [← hN]
    rw [← hN] at hlen
    have HN := Lib.hid hN
    clear hN
    go_loopw [4, 6] (fun u4 u6 wr => ∃ k : Nat, k ≤ N ∧ u6 = .int .i64 k ∧ u4 = .int .i64 (sqTo l (-1) k) ∧ DR w1 wr) (fun _ u6 _ => N - (intOf u6).toNat)
    case atStart => exact ⟨0, Nat.zero_le _, rfl, rfl, DR.refl _⟩
    case round =>
      obtain ⟨k, hk, rfl, rfl, hdr⟩ := hrel
      by_cases hlt : k < N
      · obtain ⟨b, off, rfl, hbb, hc1, hc2⟩ := IP.at hip (k := k) (by rw [← HN.out]; exact hlt)
        rw [← hdr.cell] at hc1 hc2
        by_cases ht : (gp l k).2.tmod 2 = 1
        · have hx : ((gp l k).2.tmod 2 == 1) = true := by simpa using ht
          have HT := Lib.hid ht
          clear ht
          go_wp2_with (go_quiet (fail))
          go_roundw
          case rel => exact ⟨k + 1, by omega, by go_num, by rw [sqTo_yes HT.out], by repeat (first | assumption | refine DR.step ?_ _)⟩
          case measure => simp [intOf]; omega
        · have hx : ((gp l k).2.tmod 2 == 1) = false := by simpa using ht
          have HT := Lib.hid ht
          clear ht
          go_wp2_with (go_quiet (fail))
          go_roundw
          case rel => exact ⟨k + 1, by omega, by go_num, by rw [sqTo_no HT.out], by repeat (first | assumption | refine DR.step ?_ _)⟩
          case measure => simp [intOf]; omega
      · obtain rfl : k = N := by omega
        go_wp2_with (fail)
        go_ret2
        refine ⟨ret_ii (by rw [HV.out, HN.out]) HC.out.symm, ?_⟩
        obtain ⟨m, rfl⟩ := hdr
        exact below_drewN (bel_call (below_drewN (Below.refl _ _) _) hb1) _
  · have hd : decide (n < 0) = false := by simpa using hneg
    rw [if_neg hneg] at HV
    go_enter Try.func25, Try.ntmps25
    go_wp2_with (first | (go_at_call 39; refine (s_l01In _ _ _ _).mono ?_; rintro e w' ⟨rfl, nq, rfl⟩) | (go_at_call 44; refine (s_l01Abs _ _).mono ?_; rintro e w' ⟨rfl, nq, rfl⟩; rw [ha]) | (go_at_call 53; refine (s_l01Factor _ _ hn1 hn2).mono ?_; rw [HL.out]; rintro e w1 ⟨A, cap, rfl, hlen, hip, hb1⟩))
    obtain ⟨N, hN⟩ : ∃ N, N = l.length := ⟨_, rfl⟩
    rw [← hN]
    rw [← hN] at hlen
    have HN := Lib.hid hN
    clear hN
    go_loopw [4, 6] (fun u4 u6 wr => ∃ k : Nat, k ≤ N ∧ u6 = .int .i64 k ∧ u4 = .int .i64 (sqTo l (1) k) ∧ DR w1 wr) (fun _ u6 _ => N - (intOf u6).toNat)
    case atStart => exact ⟨0, Nat.zero_le _, rfl, rfl, DR.refl _⟩
    case round =>
      obtain ⟨k, hk, rfl, rfl, hdr⟩ := hrel
      by_cases hlt : k < N
      · obtain ⟨b, off, rfl, hbb, hc1, hc2⟩ := IP.at hip (k := k) (by rw [← HN.out]; exact hlt)
        rw [← hdr.cell] at hc1 hc2
        by_cases ht : (gp l k).2.tmod 2 = 1
        · have hx : ((gp l k).2.tmod 2 == 1) = true := by simpa using ht
          have HT := Lib.hid ht
          clear ht
          go_wp2_with (go_quiet (fail))
          go_roundw
          case rel => exact ⟨k + 1, by omega, by go_num, by rw [sqTo_yes HT.out], by repeat (first | assumption | refine DR.step ?_ _)⟩
          case measure => simp [intOf]; omega
        · have hx : ((gp l k).2.tmod 2 == 1) = false := by simpa using ht
          have HT := Lib.hid ht
          clear ht
          go_wp2_with (go_quiet (fail))
          go_roundw
          case rel => exact ⟨k + 1, by omega, by go_num, by rw [sqTo_no HT.out], by repeat (first | assumption | refine DR.step ?_ _)⟩
          case measure => simp [intOf]; omega
      · obtain rfl : k = N := by omega
        go_wp2_with (fail)
        go_ret2
        refine ⟨ret_ii (by rw [HV.out, HN.out]) HC.out.symm, ?_⟩
        obtain ⟨m, rfl⟩ := hdr
        exact below_drewN (bel_call (below_drewN (Below.refl _ _) _) hb1) _
set_option maxHeartbeats 2000000 in
theorem i_squareFree (n : Int) (w : World) (b1 : -1000000 ≤ n) (b2 : n ≤ 1000000) (h0 : n ≠ 0) : Calls Try.prog 54 #[.int .i64 n] w (M (.int .i64 (sqTo (fl 2 n.natAbs) (if n < 0 then -1 else 1) (fl 2 n.natAbs).length)) w) := by
  have H0 := Lib.hid h0
  have ha := abs64_eq (n := n) (by omega) (by omega)
  have hn1 : 1 ≤ n.natAbs := by omega
  have hn2 : n.natAbs ≤ 1000000 := by omega
  clear h0
  generalize hl : fl 2 n.natAbs = l
  have HL := Lib.hid hl
  clear hl
  by_cases hneg : n < 0
  · have hd : decide (n < 0) = true := by simpa using hneg
    rw [if_pos hneg]
    go_enter Try.func54, Try.ntmps54
    go_wp2_with (first | (go_at_call 46; refine (i_abs _ _).mono ?_; rintro e w' ⟨rfl, nq, rfl⟩; rw [ha]) | (go_at_call 76; refine (i_factors _ _ hn1 hn2).mono ?_; rw [HL.out]; rintro e w1 ⟨A, cap, rfl, hlen, hip, hb1⟩))
    obtain ⟨N, hN⟩ : ∃ N, N = l.length := ⟨_, rfl⟩
    rw [← hN]
    rw [← hN] at hlen
    have HN := Lib.hid hN
    clear hN
    go_loopw [3, 12] (fun u4 u6 wr => ∃ k : Nat, k ≤ N ∧ u6 = .int .i64 k ∧ u4 = .int .i64 (sqTo l (-1) k) ∧ Below w1.heap.size w1 wr) (fun _ u6 _ => N - (intOf u6).toNat)
    case atStart => exact ⟨0, Nat.zero_le _, rfl, rfl, Below.refl _ _⟩
    case round =>
      obtain ⟨k, hk, rfl, rfl, hdr⟩ := hrel
      by_cases hlt : k < N
      · obtain ⟨b, off, rfl, hbb, hc1, hc2⟩ := IP.at hip (k := k) (by rw [← HN.out]; exact hlt)
        rw [← hdr.cell hbb] at hc1 hc2
        have hsz := hdr.size
        by_cases ht : (gp l k).2.tmod 2 = 1
        · have hx : ((gp l k).2.tmod 2 == 1) = true := by simpa using ht
          have HT := Lib.hid ht
          clear ht
          go_wp2_with (go_quiet (fail))
          go_roundw
          case rel =>
            refine ⟨k + 1, by omega, by go_num, by rw [sqTo_yes HT.out], ?_⟩
            repeat (first | assumption | refine below_drewN ?_ _ | refine Below.setCell ?_ (by first | omega | (simp <;> omega)) _ | refine Below.alloc ?_ (by first | omega | (simp <;> omega)) _ | refine Below.drew ?_)
          case measure => simp [intOf]; omega
        · have hx : ((gp l k).2.tmod 2 == 1) = false := by simpa using ht
          have HT := Lib.hid ht
          clear ht
          go_wp2_with (go_quiet (fail))
          go_roundw
          case rel =>
            refine ⟨k + 1, by omega, by go_num, by rw [sqTo_no HT.out], ?_⟩
            repeat (first | assumption | refine below_drewN ?_ _ | refine Below.setCell ?_ (by first | omega | (simp <;> omega)) _ | refine Below.alloc ?_ (by first | omega | (simp <;> omega)) _ | refine Below.drew ?_)
          case measure => simp [intOf]; omega
      · obtain rfl : k = N := by omega
        go_wp2_with (fail)
        go_ret
        refine ⟨ret_int (by rw [HN.out]), ?_⟩
        exact (bel_call (below_drewN (Below.refl _ _) _) hb1).trans (hdr.mono (by have := hb1.size; simp at this; omega))
  · have hd : decide (n < 0) = false := by simpa using hneg
    rw [if_neg hneg]
    go_enter Try.func54, Try.ntmps54
    go_wp2_with (first | (go_at_call 46; refine (i_abs _ _).mono ?_; rintro e w' ⟨rfl, nq, rfl⟩; rw [ha]) | (go_at_call 76; refine (i_factors _ _ hn1 hn2).mono ?_; rw [HL.out]; rintro e w1 ⟨A, cap, rfl, hlen, hip, hb1⟩))
    obtain ⟨N, hN⟩ : ∃ N, N = l.length := ⟨_, rfl⟩
    rw [← hN]
    rw [← hN] at hlen
    have HN := Lib.hid hN
    clear hN
    go_loopw [3, 12] (fun u4 u6 wr => ∃ k : Nat, k ≤ N ∧ u6 = .int .i64 k ∧ u4 = .int .i64 (sqTo l (1) k) ∧ Below w1.heap.size w1 wr) (fun _ u6 _ => N - (intOf u6).toNat)
    case atStart => exact ⟨0, Nat.zero_le _, rfl, rfl, Below.refl _ _⟩
    case round =>
      obtain ⟨k, hk, rfl, rfl, hdr⟩ := hrel
      by_cases hlt : k < N
      · obtain ⟨b, off, rfl, hbb, hc1, hc2⟩ := IP.at hip (k := k) (by rw [← HN.out]; exact hlt)
        rw [← hdr.cell hbb] at hc1 hc2
        have hsz := hdr.size
        by_cases ht : (gp l k).2.tmod 2 = 1
        · have hx : ((gp l k).2.tmod 2 == 1) = true := by simpa using ht
          have HT := Lib.hid ht
          clear ht
          go_wp2_with (go_quiet (fail))
          go_roundw
          case rel =>
            refine ⟨k + 1, by omega, by go_num, by rw [sqTo_yes HT.out], ?_⟩
            repeat (first | assumption | refine below_drewN ?_ _ | refine Below.setCell ?_ (by first | omega | (simp <;> omega)) _ | refine Below.alloc ?_ (by first | omega | (simp <;> omega)) _ | refine Below.drew ?_)
          case measure => simp [intOf]; omega
        · have hx : ((gp l k).2.tmod 2 == 1) = false := by simpa using ht
          have HT := Lib.hid ht
          clear ht
          go_wp2_with (go_quiet (fail))
          go_roundw
          case rel =>
            refine ⟨k + 1, by omega, by go_num, by rw [sqTo_no HT.out], ?_⟩
            repeat (first | assumption | refine below_drewN ?_ _ | refine Below.setCell ?_ (by first | omega | (simp <;> omega)) _ | refine Below.alloc ?_ (by first | omega | (simp <;> omega)) _ | refine Below.drew ?_)
          case measure => simp [intOf]; omega
      · obtain rfl : k = N := by omega
        go_wp2_with (fail)
        go_ret
        refine ⟨ret_int (by rw [HN.out]), ?_⟩
        exact (bel_call (below_drewN (Below.refl _ _) _) hb1).trans (hdr.mono (by have := hb1.size; simp at this; omega))
set_option maxHeartbeats 2000000 in
theorem i_FieldDiscriminantPart (n : Int) (w : World) : Calls Try.prog 26 #[.int .i64 n] w (M2 (fdV n) (fdC n) w) := by
  by_cases h0 : n = 0
  · subst h0
    go_enter Try.func26, Try.ntmps26
    go_wp2_with (fail)
    go_ret2
    exact ⟨ret_ii (by simp [fdV]) (by simp [fdC]), Below.refl _ _⟩
  have h0' : (n == 0) = false := by simpa using h0
  cases h1 : inB n (-1000000) 1000000
  · go_enter Try.func26, Try.ntmps26
    go_wp2_with (first | (go_at_call 41; refine (i_within _ _ _ _).mono ?_; rintro e w' ⟨rfl, nq, rfl⟩))
    go_ret2
    exact ⟨ret_ii (by simp [fdV, h1]) (by simp [fdC, h1]), below_drewN (Below.refl _ _) _⟩
  obtain ⟨b1, b2⟩ := inB_true h1
  have hv : fdV n = sqTo (fl 2 n.natAbs) (if n < 0 then -1 else 1) (fl 2 n.natAbs).length := by simp [fdV, h0, h1]
  have hc : fdC n = 0 := by simp [fdC, h0, h1]
  have HV := Lib.hid hv
  have HC := Lib.hid hc
  have H0 := Lib.hid h0
  clear hv hc h0
  go_enter Try.func26, Try.ntmps26
  go_wp2_with (first | (go_at_call 41; refine (i_within _ _ _ _).mono ?_; rintro e w' ⟨rfl, nq, rfl⟩) | (go_at_call 54; refine (i_squareFree _ _ b1 b2 H0.out).mono ?_; rw [← HV.out]; rintro e w1 ⟨rfl, hb1⟩))
  go_ret2
  exact ⟨ret_ii rfl HC.out.symm, bel_call (below_drewN (Below.refl _ _) _) hb1⟩
set_option maxHeartbeats 400000 in
theorem law_FieldDiscriminantPart (n : Int) (w : World) (_ : -9223372036854775808 ≤ n ∧ n ≤ 9223372036854775807) : Calls Try.prog 7 #[.int .i64 n] w (M (.bool true) w) := by
  go_enter Try.func7, Try.ntmps7
  go_wp2_with (first | (go_at_call 25; refine (s_FieldDiscriminantPart _ _).mono ?_; rintro e w1 ⟨rfl, hb1⟩) | (go_at_call 26; refine (i_FieldDiscriminantPart _ _).mono ?_; rintro e w2 ⟨rfl, hb2⟩))
  go_ret
  exact ⟨rfl, bel_call hb1 hb2⟩
end Go.Proofs.Ytflldjcnglchiaa
