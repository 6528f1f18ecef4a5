/- DepressPolynomial: the reference's side, and the law. -/
import Derived.Test.YtcbjfdeigpdbdaaA124
import Derived.Deep.RegionLaw
namespace Go.Proofs.Ytcbjfdeigpdbdaa
set_option linter.unusedVariables false
set_option linter.unusedSimpArgs false
open Go.RowKit

set_option maxHeartbeats 1000000 in
theorem s_res_y (g n c : Nat) (f : List Int) (w : World) (hn : n = f.length) (hl : n ≤ 1000) (hcap : n ≤ c) (hs : CS w g f) (hp : polyB (trimL f) = true) :
    Calls Try.prog 42 #[.slice (some ⟨g, 0, none⟩) n c] w (RS (trimL f) 0 w) := by
  have hl2 := trimL_le f
  have HN := Lib.hid hn
  rw [← hn] at hl2
  clear hn
  generalize htf : trimL f = tf at *
  have HTF := Lib.hid htf
  clear htf
  have hc := fun A2 c2 W h => s_IsPolynomial A2 tf.length c2 tf W W.heap.size rfl (by omega) h
  rw [hp] at hc
  have HC := Lib.hid hc
  clear hc hp
  go_enter Try.func42, Try.ntmps42
  go_wp2_with (first
    | (go_at_call 91; refine (s_trim g n c f _ HN.out hl hcap hs).mono ?_; rw [HTF.out]; rintro e w2 ⟨A2, c2, rfl, ho2, hb2⟩)
    | (go_at_call 89; refine (HC.out _ _ _ (own_isn ho2 rfl)).mono ?_; rintro e w' ⟨rfl, nq, rfl⟩))
  go_ret2
  exact ⟨A2, c2, rfl, own_drw ho2 _, below_drewN hb2 _⟩
set_option maxHeartbeats 1000000 in
theorem s_res_n (g n c : Nat) (f : List Int) (w : World) (hn : n = f.length) (hl : n ≤ 1000) (hcap : n ≤ c) (hs : CS w g f) (hp : polyB (trimL f) = false) :
    Calls Try.prog 42 #[.slice (some ⟨g, 0, none⟩) n c] w (RS [] 3 w) := by
  have hl2 := trimL_le f
  have HN := Lib.hid hn
  rw [← hn] at hl2
  clear hn
  generalize htf : trimL f = tf at *
  have HTF := Lib.hid htf
  clear htf
  have hc := fun A2 c2 W h => s_IsPolynomial A2 tf.length c2 tf W W.heap.size rfl (by omega) h
  rw [hp] at hc
  have HC := Lib.hid hc
  clear hc hp
  go_enter Try.func42, Try.ntmps42
  go_wp2_with (first
    | (go_at_call 91; refine (s_trim g n c f _ HN.out hl hcap hs).mono ?_; rw [HTF.out]; rintro e w2 ⟨A2, c2, rfl, ho2, hb2⟩)
    | (go_at_call 89; refine (HC.out _ _ _ (own_isn ho2 rfl)).mono ?_; rintro e w' ⟨rfl, nq, rfl⟩))
  go_ret2
  exact (RS.nil (below_drewN hb2 _))
theorem shI_10 {a : Int} {g : List Int} {n k t j : Nat} (ha : a.natAbs ≤ 20) (hg : ∀ j, (gt g j).natAbs ≤ 5120) (hl : n < g.length) (h4 : n ≤ 4) (hk : k < n) (ht : t ≤ n - k) : (gt (shI a (shK a g n k) n t) j).natAbs ≤ 85400990608389120 := by
  have h1 := shI_bd (t := t) (e := stN n k) ha (fun j => shK_bd ha hg hl k j) (by rw [shK_len]; exact hl) j (by omega)
  have h2 : stN n (k + 1) ≤ 10 := stN_10 n h4 (k + 1) (by omega)
  rw [stN] at h2
  have h3 : 21 ^ (stN n k + t) ≤ 21 ^ 10 := Nat.pow_le_pow_right (by omega) (by omega)
  have h5 : 21 ^ 10 = 16679880978201 := by decide
  omega
theorem ints_set (l : List Int) (i : Nat) (v : Int) : (ints l).set i (.int .i64 v) = ints (l.set i v) := by simp [ints, List.map_set]
set_option maxRecDepth 10000 in
set_option maxHeartbeats 4000000 in
theorem s_dep (A : Option Addr) (n N c : Nat) (xs : List Int) (w : World) (hN : N = n + 1) (hn : N = xs.length) (h2 : 2 ≤ n) (h4 : n ≤ 4) (hcm : codeM xs 2 4 = 0) (hs : IS w w.heap.size A xs) :
    Calls Try.prog 9 #[.slice A N c] w (RS (dpL xs) (dpC xs) w) := by
  have hm := (codeM_0 hcm).2.1
  have hx := modB_all hm
  have hxj : ∀ j, (gt xs j).natAbs ≤ 20 := gt_le (fun k hk => by have := hx k hk; omega)
  have ha := hxj (n - 1)
  have hV : dpV xs = trimL (shK (gt xs (n - 1)) (dpS xs n n) n n) := by
    rw [dp_law (by omega) h2 h4]
    unfold dpV
    rw [← hn, hN]; rfl
  have hC : dpC xs = if polyB (dpV xs) then 0 else 3 := by unfold dpC; rw [if_pos hcm]
  have hL : dpL xs = if polyB (dpV xs) then dpV xs else [] := by
    unfold dpL; rw [hC]; cases polyB (dpV xs) <;> rfl
  rw [hV] at hC hL
  have hSL := dpS_len xs n
  have hSB := fun t j ht => dpS_bd (xs := xs) (n := n) (by omega) hxj h4 t j ht
  have hKL := shK_len (gt xs (n - 1)) (dpS xs n n) n
  have hIL := fun k t => shI_len (gt xs (n - 1)) (shK (gt xs (n - 1)) (dpS xs n n) n k) n t
  have hI10 := fun k t j hk ht => shI_10 (a := gt xs (n - 1)) (g := dpS xs n n) (n := n) (k := k) (t := t) (j := j) ha (fun j => (hSB n j (Nat.le_refl _)).1) (by rw [hSL]; omega) h4 hk ht
  obtain ⟨b, off, rfl, hbb, hcell⟩ := hs.at (k := n - 1) (by omega)
  have hcl := hcell (n - 1) (by omega)
  have hsrc : ∀ m j u, (ints xs)[j]? = some u → (w.drewN m).cell? ((⟨b, off, none⟩ : Addr).add j) = some u := fun m j u hu => by
    have hj : j < xs.length := by
      rcases Nat.lt_or_ge j xs.length with h | h
      · exact h
      · rw [List.getElem?_eq_none (by rw [ints_length]; exact h)] at hu; cases hu
    rw [ints_at hj] at hu
    rw [← hu, ← hcell j hj]
    unfold Addr.add
    split
    · rename_i h0; subst h0; rfl
    · rfl
  have hblt : ∀ m j, ((⟨b, off, none⟩ : Addr).add j).block < (w.drewN m).heap.size := fun m j => by
    rw [show ((⟨b, off, none⟩ : Addr).add j).block = b by unfold Addr.add; split <;> rfl]
    exact hbb
  have HSRC := Lib.hid hsrc
  have HBLT := Lib.hid hblt
  have HN := Lib.hid hn
  have HC := Lib.hid hC
  have HL := Lib.hid hL
  have HCM := Lib.hid hcm
  have HNN := Lib.hid hN
  have HSL := Lib.hid hSL
  have HSB := Lib.hid hSB
  have HKL := Lib.hid hKL
  have HIL := Lib.hid hIL
  have HI10 := Lib.hid hI10
  have HA := Lib.hid ha
  have hl5 : N ≤ 5 := by omega
  have hs2 : ((N : Int) - 1) = (n : Int) := by omega
  have hs3 : ((n : Int) - 1).toNat = n - 1 := by omega
  have hs4 : 0 ≤ (n : Int) - 1 := by omega
  have hs5 : (n : Int) - 1 < (N : Int) := by omega
  clear hsrc hblt hn hC hL hcm hN hSL hSB hKL hIL hI10 hV hm hx hxj ha hcell
  generalize gt xs (n - 1) = a at *
  have hb0 := Below.refl w.heap.size w
  go_enter Try.func9, Try.ntmps9
  go_wp2_with (first
    | (go_at_call 40; refine (s_l27Code _ _ _ xs _ _ _ w.heap.size HN.out (by omega) hs).mono ?_; rintro e w' ⟨rfl, nq, rfl⟩; rw [HCM.out])
    | (go_at_call 41; refine (s_own1 _ _ _ xs _ HN.out (by omega) (HSRC.out _) (HBLT.out _)).mono ?_; rintro e w1 ⟨A1, c1, rfl, ho1, hb1⟩; rw [← HN.out] at ho1 ⊢))
  have hb1' := bel_call (below_drewN hb0 nq) hb1
  obtain ⟨g1, hA1, hg1, _, _⟩ := own_src ho1 (by omega)
  subst hA1
  have hcap : N ≤ c1 := by obtain ⟨_, _, hv, hle⟩ := own_slice' ho1; injection hv with _ _ hv; omega
  have hgw : w.heap.size ≤ g1 := hg1
  have ho1' := own_mono (base' := w.heap.size) ho1 (Nat.le_refl _)
  have hst0 : ∀ z : Int, Hid (z = (n : Int) - 1 - (0 : Nat)) → z = (n : Int) - 1 := fun z h => by have := h.out; omega
  clear hst0 hb1 ho1 hb0 hg1
  go_loopw [7, 8] (fun u7 u8 wr => ∃ (t : Nat) (z : Int), t ≤ n ∧ Hid (z = (n : Int) - 1 - t) ∧ u7 = .int .i64 ((n ^ t : Nat) : Int) ∧ u8 = .int .i64 z ∧ wr.ownsRow w.heap.size 2 1 (.slice (some ⟨g1, 0, none⟩) N c1) N (ints (dpS xs n t)) ∧ Below w.heap.size w wr) (fun _ u8 _ => (intOf u8 + 1).toNat)
  case atStart => exact ⟨0, (n : Int) - 1, Nat.zero_le _, by unfold Hid; omega, by simp, rfl, ho1', hb1'⟩
  case round =>
    clear ho1' hb1'
    obtain ⟨ws, rfl⟩ : ∃ ws : World, ws = wr := ⟨_, rfl⟩
    obtain ⟨t, z, ht, HZ, rfl, rfl, ho, hb⟩ := hrel
    by_cases hz : 0 ≤ z
    · obtain ⟨q, rfl⟩ : ∃ q : Nat, z = q := ⟨z.toNat, by omega⟩
      have hqt : q + t + 1 = n := by have := HZ.out; omega
      have hq : n - 1 - t = q := by omega
      have hqN : q < N := by omega
      have hql : q < (dpS xs n t).length := by rw [HSL.out, ← HN.out]; exact hqN
      obtain ⟨g', hg', _, _, hc⟩ := own_src ho (by omega)
      injection hg' with hg'
      injection hg' with hg'
      subst hg'
      have hcell := hc q _ (ints_at hql)
      have hfr := ho.frozenAt q
      have hbd := (HSB.out t q ht).2 (by omega)
      have hpw : n ^ (t + 1) ≤ 256 := pow_le4 h4 (by omega)
      have hps : (((n ^ t : Nat)) : Int) * (n : Int) = ((n ^ (t + 1) : Nat) : Int) := by rw [Nat.pow_succ]; simp
      have hstep : dpS xs n (t + 1) = (dpS xs n t).set q (gt (dpS xs n t) q * ((n ^ (t + 1) : Nat) : Int)) := by
        rw [dpS, hq]; simp
      have hst := ho.stored q (.int .i64 (gt (dpS xs n t) q * ((n ^ (t + 1) : Nat) : Int)))
      rw [ints_set, ← hstep] at hst
      have hmb := nabs_mul (b := 256) hbd (show (((n ^ (t + 1) : Nat)) : Int).natAbs ≤ 256 by omega)
      have hpl : (((n ^ (t + 1) : Nat)) : Int) ≤ 256 := by omega
      have hp0 : 0 ≤ (((n ^ (t + 1) : Nat)) : Int) := by omega
      have HST := Lib.hid hst
      have HQT := Lib.hid hqt
      clear hst hc hstep hpw hqt hq hql
      generalize hS1 : ints (dpS xs n (t + 1)) = S1 at *
      have HS1 := Lib.hid hS1
      clear hS1
      generalize gt (dpS xs n t) q = y at *
      generalize hQ1 : n ^ (t + 1) = Q1 at *
      have HQ1 := Lib.hid hQ1
      clear hQ1
      generalize n ^ t = Q0 at *
      go_wp2_with (go_quiet (fail))
      go_roundw
      case rel => exact ⟨t + 1, (q : Int) - 1, by have := HQT.out; omega, by have := HQT.out; unfold Hid; omega, by rw [HQ1.out], by go_num, by rw [HS1.out]; exact HST.out.1, hb.grown HST.out.2 hb.size (fun g hg => by simp [Value.ownBlock] at hg; omega)⟩
      case measure => simp [intOf]
    · have htn : t = n := by have := HZ.out; omega
      have hz' : z < 0 := by omega
      subst htn
      have hcl2 := (hb.cell (p := ⟨b, off + (t - 1), none⟩) hbb).trans hcl
      have HCL := Lib.hid hcl
      clear HZ hz hcl HSRC HBLT hs
      have hSl := (HSL.out t).trans HN.out.symm
      generalize hS : dpS xs t t = S at *
      have HSl := Lib.hid hSl
      clear hS hSl
      generalize (((t ^ t : Nat)) : Int) = PP at *
      go_wp2_with (go_quiet (fail))
      go_loopw [10] (fun u10 wr => ∃ k : Nat, k ≤ t ∧ u10 = .int .i64 k ∧ wr.ownsRow w.heap.size 2 1 (.slice (some ⟨g1, 0, none⟩) N c1) N (ints (shK a S t k)) ∧ Below w.heap.size w wr) (fun u10 _ => t - (intOf u10).toNat)
      case atStart => exact ⟨0, Nat.zero_le _, rfl, ho, hb⟩
      case round =>
        clear ho hb hcl2
        obtain ⟨wt, rfl⟩ : ∃ wt : World, wt = wr := ⟨_, rfl⟩
        obtain ⟨k, hk, rfl, ho, hb⟩ := hrel
        by_cases hkt : k < t
        · go_wp2_with (fail)
          go_loopw [11] (fun u11 wr => ∃ (e : Nat) (z : Int), e ≤ t - k ∧ Hid (z = (t : Int) - 1 - e) ∧ u11 = .int .i64 z ∧ wr.ownsRow w.heap.size 2 1 (.slice (some ⟨g1, 0, none⟩) N c1) N (ints (shI a (shK a S t k) t e)) ∧ Below w.heap.size w wr) (fun u11 _ => (intOf u11 + 1).toNat)
          case atStart => exact ⟨0, (t : Int) - 1, Nat.zero_le _, by unfold Hid; omega, rfl, ho, hb⟩
          case round =>
            clear ho hb
            obtain ⟨wu, rfl⟩ : ∃ wu : World, wu = wr := ⟨_, rfl⟩
            obtain ⟨e, z, he, HZ, rfl, ho, hb⟩ := hrel
            by_cases hz : (k : Int) ≤ z
            · obtain ⟨q, rfl⟩ : ∃ q : Nat, z = q := ⟨z.toNat, by omega⟩
              have hqt : q + e + 1 = t := by have := HZ.out; omega
              have hq : t - 1 - e = q := by omega
              have hNN := HNN.out
              have hqN : q + 1 < N := by omega
              have hql : q + 1 < (shI a (shK a S t k) t e).length := by rw [HIL.out, HKL.out, HSl.out]; exact hqN
              obtain ⟨g', hg', _, _, hc⟩ := own_src ho (by omega)
              injection hg' with hg'
              injection hg' with hg'
              subst hg'
              have hcell := hc q _ (ints_at (by omega))
              have hcell2 := hc (q + 1) _ (ints_at hql)
              have hfr := ho.frozenAt q
              have hbd := HI10.out k e q hkt he
              have hbd2 := HI10.out k e (q + 1) hkt he
              have hmb := nabs_mul HA.out hbd2
              have hstep : shI a (shK a S t k) t (e + 1) = (shI a (shK a S t k) t e).set q (gt (shI a (shK a S t k) t e) q - a * gt (shI a (shK a S t k) t e) (q + 1)) := by
                rw [shI, hq]
              have hst := ho.stored q (.int .i64 (gt (shI a (shK a S t k) t e) q - a * gt (shI a (shK a S t k) t e) (q + 1)))
              rw [ints_set, ← hstep] at hst
              have hi1 : ((q : Int) + 1).toNat = q + 1 := by omega
              have hqN2 : q < N := by omega
              have hq0 : 0 ≤ (q : Int) + 1 := by omega
              have hqi : (q : Int) < (N : Int) := by omega
              have hqi2 : (q : Int) + 1 < (N : Int) := by omega
              have hqw : IntKind.i64.wrap ((q : Int) + 1) = (q : Int) + 1 := IntWalk.i64_in _ (by omega)
              have hqm : IntKind.i64.wrap (a * gt (shI a (shK a S t k) t e) (q + 1)) = a * gt (shI a (shK a S t k) t e) (q + 1) := IntWalk.i64_in _ (by omega)
              have hqs : IntKind.i64.wrap (gt (shI a (shK a S t k) t e) q - a * gt (shI a (shK a S t k) t e) (q + 1)) = gt (shI a (shK a S t k) t e) q - a * gt (shI a (shK a S t k) t e) (q + 1) := IntWalk.i64_in _ (by omega)
              have HST := Lib.hid hst
              have HQT := Lib.hid hqt
              clear hst hc hstep hqt hq hNN hql
              generalize hS1 : ints (shI a (shK a S t k) t (e + 1)) = S1 at *
              have HS1 := Lib.hid hS1
              clear hS1
              generalize gt (shI a (shK a S t k) t e) (q + 1) = x at *
              generalize gt (shI a (shK a S t k) t e) q = y at *
              go_wp2_with (fail)
              go_region_law (fail)
              all_goals
                go_wp2_with (fail)
                go_roundw
                case rel => exact ⟨e + 1, (q : Int) - 1, by have := HQT.out; omega, by have := HQT.out; unfold Hid; omega, by go_num, by rw [HS1.out]; exact own_drw HST.out.1 1, below_drewN (hb.grown HST.out.2 hb.size (fun g hg => by simp [Value.ownBlock] at hg; omega)) 1⟩
                case measure => simp [intOf]
            · have hek : e = t - k := by have := HZ.out; omega
              have hz' : z < (k : Int) := by omega
              subst hek
              clear HZ hz
              have ho' : wu.ownsRow w.heap.size 2 1 (.slice (some ⟨g1, 0, none⟩) N c1) N (ints (shK a S t (k + 1))) := ho
              go_wp2_with (fail)
              go_roundw
              case rel => exact ⟨k + 1, by omega, by go_num, ho', hb⟩
              case measure => simp [intOf]; omega
        · obtain rfl : t = k := by omega
          have hcs := own_cs ho (by rw [HKL.out, HSl.out]) (by omega)
          have hnl : N = (shK a S t t).length := by rw [HKL.out, HSl.out]
          generalize shK a S t t = O at *
          cases hp : polyB (trimL O)
          · have hX : dpC xs = 3 ∧ dpL xs = [] := by rw [HC.out, HL.out, hp]; exact ⟨rfl, rfl⟩
            have HX2 := Lib.hid hX
            have HNL := Lib.hid hnl
            clear hX hnl
            go_wp2_with (go_at_call 42; refine (s_res_n g1 N c1 O _ HNL.out (by omega) hcap hcs hp).mono ?_; rintro e w9 ⟨A9, c9, rfl, ho9, hb9⟩)
            rw [HX2.out.1, HX2.out.2]
            go_ret2
            exact RS.pre ⟨A9, c9, rfl, ho9, hb9⟩ hb
          · have hX : dpC xs = 0 ∧ dpL xs = trimL O := by rw [HC.out, HL.out, hp]; exact ⟨rfl, rfl⟩
            have HX2 := Lib.hid hX
            have HNL := Lib.hid hnl
            clear hX hnl
            go_wp2_with (go_at_call 42; refine (s_res_y g1 N c1 O _ HNL.out (by omega) hcap hcs hp).mono ?_; rintro e w9 ⟨A9, c9, rfl, ho9, hb9⟩)
            rw [HX2.out.1, HX2.out.2]
            go_ret2
            exact RS.pre ⟨A9, c9, rfl, ho9, hb9⟩ hb
set_option maxHeartbeats 1000000 in
theorem s_DepressPolynomial (A : Option Addr) (n c : Nat) (xs : List Int) (w : World) (B : Nat) (hn : n = xs.length) (hl : n ≤ 1048576) (hs : IS w B A xs) :
    Calls Try.prog 9 #[.slice A n c] w (RS (dpL xs) (dpC xs) w) := by
  rcases codeM_3 (xs := xs) with h0 | ⟨hc, h0, hlx⟩
  · have h3 := codeM_len h0
    exact s_dep A (n - 1) n c xs w (by omega) hn (by omega) (by omega) h0 (is_here hs)
  · have HN := Lib.hid hn
    have h0' : (codeM xs 2 4 != 0) = true := by simpa using h0
    rw [hlx, hc]
    clear h0 hn hc hlx
    go_enter Try.func9, Try.ntmps9
    go_wp2_with (go_at_call 40; refine (s_l27Code _ _ _ xs _ _ _ B HN.out hl hs).mono ?_; rintro e w' ⟨rfl, nq, rfl⟩)
    go_ret2
    exact RS.nil (below_drewN (Below.refl _ _) _)
set_option maxHeartbeats 4000000 in
theorem law_DepressPolynomial (A : Option Addr) (n c : Nat) (xs : List Int) (w : World) (hn : n = xs.length) (hc : n ≤ c) (hm : c ≤ maxLen) (hr : R64 xs) (hs : IS w w.heap.size A xs) :
    Calls Try.prog 3 #[.slice A n c] w (M (.bool true) w) := by
  unfold maxLen at hm
  have HN := Lib.hid hn
  clear hn hr
  by_cases hbig : 1048576 < n
  · go_enter Try.func3, Try.ntmps3
    go_wp2_with (fail)
    go_ret
    exact ⟨rfl, Below.refl _ _⟩
  have hl : n ≤ 1048576 := by omega
  clear hbig
  have hL0 : (dpL xs).length ≤ 1048576 := dpL_len xs
  generalize hlst : dpL xs = lst at *
  have HLST := Lib.hid hlst
  clear hlst
  generalize hcd : dpC xs = cd at *
  have HCD := Lib.hid hcd
  clear hcd
  generalize hL : lst.length = L at hL0
  have HL := Lib.hid hL.symm
  clear hL
  go_enter Try.func3, Try.ntmps3
  go_wp2_with (fail)
  refine (l_toInt64S A n c xs _ HN.out hl hs).mono ?_
  rintro e w1 ⟨g1, rfl, hN1, b1⟩
  go_wp2_with (fail)
  refine (s_DepressPolynomial _ _ _ xs _ w1.heap.size HN.out hl hN1.is).mono ?_
  rw [HLST.out, HCD.out]
  rintro e w2 ⟨A0, c0, rfl, o0, hb2⟩
  rw [← HL.out] at o0 ⊢
  have b2 := bel_call b1 hb2
  go_wp2_with (fail)
  refine (l_toInt64S A n c xs _ HN.out hl (hs.call b2)).mono ?_
  rintro e w3 ⟨g3, rfl, hN3, hb3⟩
  have b3 := bel_call b2 hb3
  have o03 := own_below o0 hb3
  go_wp2_with (fail)
  refine (i_DepressPolynomial _ _ _ xs _ w3.heap.size HN.out hl hN3.is).mono ?_
  rw [HLST.out, HCD.out]
  rintro e w4 ⟨A1, c1, rfl, o1, hb4⟩
  rw [← HL.out] at o1 ⊢
  have b4 := bel_call b3 hb4
  have o04 := own_below o03 hb4
  have x4 := hN3.below hb4 hN3.lt
  go_wp2_with (fail)
  refine (l_eqInt64S _ _ L _ L _ lst _ _ _ HL.out HL.out (by omega) (own_isn o1 HL.out) (own_isn o04 HL.out)).mono ?_
  rintro e w5 ⟨rfl, q5, rfl⟩
  go_wp2_with (fail)
  refine (l_toInt64S A n c xs _ HN.out hl ((hs.call b4).drewN q5)).mono ?_
  rintro e w6 ⟨g6, rfl, hN6, hb6⟩
  have hb6 := undrew hb6
  have b6 := bel_call b4 hb6
  have x6 := x4.below hb6 x4.lt
  have o06 := own_below o04 hb6
  have o16 := own_below o1 hb6
  go_wp2_with (fail)
  refine (l_eqInt64S _ _ n _ n _ xs _ _ _ HN.out HN.out (by omega) x6.is hN6.is).mono ?_
  rintro e w7 ⟨rfl, q7, rfl⟩
  go_wp2_with (fail)
  refine (l_mark1 _ n n w2.heap.size xs _ HN.out hl ((x6.drewN q7).own' HN.out hl)).mono ?_
  rintro e w8 ⟨rfl, m8, g8⟩
  have g8 := undrewG g8
  have hg3 : w2.heap.size ≤ g3 ∧ g3 < w3.heap.size := ⟨hN3.1, hN3.lt⟩
  have o08 := kept_ge o0 o06 g8 (fun g hg => by simp [Value.ownBlock] at hg; omega)
  have o18 := kept_lt o16 g8 (fun g hg => by simp [Value.ownBlock] at hg; omega)
  have b8 : Below w.heap.size w w8 := b6.grown g8 b6.size (fun g hg => by simp [Value.ownBlock] at hg; have := b2.size; omega)
  clear g8 m8 x6 x4 hN6 hN1
  go_wp2_with (fail)
  refine (l_eqInt64S _ _ L _ L _ lst _ _ _ HL.out HL.out (by omega) (own_isn o18 HL.out) (own_isn o08 HL.out)).mono ?_
  rintro e w9 ⟨rfl, q9, rfl⟩
  go_wp2_with (fail)
  have o18q : (w8.drewN q9).ownsRow w3.heap.size 2 1 (.slice A1 L c1) L (ints lst) := o18
  refine (l_mark1 A1 L c1 w3.heap.size lst _ HL.out hL0 o18q).mono ?_
  rintro e w10 ⟨rfl, m10, g10⟩
  have g10 := undrewG g10
  have o010 := kept_ge o0 o08 g10 (fun g hg => by have := (o18.lt g hg).1; have := hb3.size; omega)
  have b10 : Below w.heap.size w w10 := b8.grown g10 b8.size (fun g hg => by have := (o18.lt g hg).1; have := b3.size; omega)
  clear g10
  go_wp2_with (fail)
  refine (l_held1 A1 L c1 _ _ hL0 (own_isn m10 (by rw [marks_length]))).mono ?_
  rintro e w11 ⟨rfl, q11, rfl⟩
  go_wp2_with (fail)
  refine (l_toInt64S A n c xs _ HN.out hl ((hs.call b10).drewN q11)).mono ?_
  rintro e w12 ⟨g12, rfl, hN12, hb12⟩
  have hb12 := undrew hb12
  have b12 := bel_call b10 hb12
  have o012 := own_below o010 hb12
  have m12 := own_below m10 hb12
  go_wp2_with (fail)
  refine (i_DepressPolynomial _ _ _ xs _ w12.heap.size HN.out hl hN12.is).mono ?_
  rw [HLST.out, HCD.out]
  rintro e w13 ⟨A2, c2, rfl, o2, hb13⟩
  rw [← HL.out] at o2 ⊢
  have b13 := bel_call b12 hb13
  have o013 := own_below o012 hb13
  have m13 := own_below m12 hb13
  go_wp2_with (fail)
  refine (l_eqInt64S _ _ L _ L _ lst _ _ _ HL.out HL.out (by omega) (own_isn o2 HL.out) (own_isn o013 HL.out)).mono ?_
  rintro e w14 ⟨rfl, q14, rfl⟩
  go_wp2_with (fail)
  refine (l_held1 A1 L c1 _ _ hL0 ((own_isn m13 (by rw [marks_length])).drewN q14)).mono ?_
  rintro e w15 ⟨rfl, q15, rfl⟩
  go_wp2_with (fail)
  go_ret
  refine ⟨rfl, ?_⟩
  repeat (first | exact b13 | refine below_drewN ?_ _)
end Go.Proofs.Ytcbjfdeigpdbdaa
