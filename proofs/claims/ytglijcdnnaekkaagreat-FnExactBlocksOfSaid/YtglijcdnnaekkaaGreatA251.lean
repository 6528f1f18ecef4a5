/- Rows that follow their equals are dropped: slices.CompactFunc over rows. -/
import Derived.Test.YtglijcdnnaekkaaGreatA250
import Derived.Test.YtglijcdnnaekkaaGreatA249
import Derived.Test.YtglijcdnnaekkaaGreatA101
import Derived.Lib.SliceRun
import Derived.BigQuiet
namespace Go.Proofs.YtglijcdnnaekkaaGreat
set_option linter.unusedVariables false
set_option linter.unusedSimpArgs false
open Go.RowKit

/-- Is a row another than the one ahead of it? -/
def nwB (ll : List (List Int)) (i : Nat) : Bool := decide (i = 0) || !(decide (gl ll i = gl ll (i - 1)))
def nwL (ll : List (List Int)) (j : Nat) : List Nat := (List.range j).filter (nwB ll)
theorem nwL_yes {ll : List (List Int)} {j : Nat} (h : nwB ll j = true) : nwL ll (j + 1) = nwL ll j ++ [j] := by simp [nwL, List.range_succ, h]
theorem nwL_no {ll : List (List Int)} {j : Nat} (h : nwB ll j = false) : nwL ll (j + 1) = nwL ll j := by simp [nwL, List.range_succ, h]
theorem nwL_le (ll : List (List Int)) (j : Nat) : (nwL ll j).length ≤ j := by
  have := List.length_filter_le (nwB ll) (List.range j)
  rwa [List.length_range] at this
theorem nwL_lt {ll : List (List Int)} {j t : Nat} (h : t < (nwL ll j).length) : (nwL ll j)[t] < j := by
  have := List.getElem_mem h
  unfold nwL at this
  exact List.mem_range.1 (List.mem_filter.1 this).1
theorem nwL_all {ll : List (List Int)} {k : Nat} (h : ∀ j, j < k → nwB ll j = true) : nwL ll k = List.range k := List.filter_eq_self.2 fun i hi => h i (List.mem_range.1 hi)
/-- The rows that are left. -/
def cpL (ll : List (List Int)) : List (List Int) := (nwL ll ll.length).map (gl ll)
theorem RowsO.pick {w : World} {base : Nat} {vs : List Value} {ll : List (List Int)} (h : RowsO w base vs ll) : RowsO w base ((nwL ll ll.length).map (gv vs)) (cpL ll) := by
  obtain ⟨h1, h2, h3⟩ := h
  unfold cpL
  have hpw : (nwL ll ll.length).Pairwise (· < ·) := List.pairwise_lt_range.filter _
  have e1 : ∀ i, i < (nwL ll ll.length).length → gv ((nwL ll ll.length).map (gv vs)) i = gv vs ((nwL ll ll.length).getD i 0) := fun i hi => by simp [gv, List.getElem?_eq_getElem hi]
  have e2 : ∀ i, i < (nwL ll ll.length).length → gl ((nwL ll ll.length).map (gl ll)) i = gl ll ((nwL ll ll.length).getD i 0) := fun i hi => by simp [gl, List.getElem?_eq_getElem hi]
  have e3 : ∀ i, i < (nwL ll ll.length).length → (nwL ll ll.length).getD i 0 < ll.length := fun i hi => by
    have := nwL_lt hi
    rw [List.getD_eq_getElem?_getD, List.getElem?_eq_getElem hi]; exact this
  refine ⟨by simp, fun i hi => ?_, fun i j hij hj => ?_⟩
  · rw [List.length_map] at hi
    rw [e1 i hi, e2 i hi]
    exact h2 _ (by rw [h1]; exact e3 i hi)
  · rw [List.length_map] at hj
    rw [e1 i (by omega), e1 j hj]
    refine h3 _ _ ?_ (by rw [h1]; exact e3 j hj)
    have := List.pairwise_iff_getElem.1 hpw i j (by omega) hj hij
    rw [List.getD_eq_getElem?_getD, List.getD_eq_getElem?_getD, List.getElem?_eq_getElem hj, List.getElem?_eq_getElem (show i < _ by omega)]
    exact this
theorem nwL_full {ll : List (List Int)} (h : ∀ j, j < ll.length → nwB ll j = true) : cpL ll = ll := by
  unfold cpL
  rw [nwL_all h]
  refine List.ext_getElem (by simp) fun i h1 h2 => ?_
  simp [gl, List.getElem?_eq_getElem h2]
theorem nwL_less {ll : List (List Int)} {n k : Nat} (hk : k < n) (h : nwB ll k = false) : (nwL ll n).length < n := by
  have h1 := (List.length_filter_lt_length_iff_exists (p := nwB ll) (l := List.range n)).2 ⟨k, List.mem_range.2 hk, by rw [h]; decide⟩
  rwa [List.length_range] at h1
theorem gdrew {w : World} {g : Option Nat} (q : Nat) : w.grownBy (w.drewN q) g := ⟨rfl, rfl, rfl, Nat.le_refl _, fun _ _ _ => rfl⟩
theorem gto {w w' : World} {g : Option Nat} (h : w.grownBy w' g) (q : Nat) : w.grownBy (w'.drewN q) g := ⟨h.os, h.tape, h.output, h.size, h.block⟩
set_option maxHeartbeats 1000000 in
theorem i_blkEq (A A' : Option Addr) (n c n' c' : Nat) (xs ys : List Int) (w : World) (B B' : Nat) (hn : n = xs.length) (hn' : n' = ys.length) (hl : n ≤ 1048576) (hl' : n' ≤ 1048576) (hs : IS w B A xs) (hs' : IS w B' A' ys) :
    Calls Tryz.prog 129 #[.slice A n c, .slice A' n' c'] w (Q (.bool (decide (xs = ys))) w) := by
  have h := i_same A A' n c n' c' xs ys w B B' hn hn' hl hl' hs hs'
  generalize decide (xs = ys) = r at *
  clear hn hn' hs hs'
  go_enter Tryz.func129, Tryz.ntmps129
  go_wp2_with (go_at_call 95; refine h.mono ?_; rintro e w1 ⟨rfl, q1, rfl⟩)
  go_ret
  exact ⟨rfl, q1, rfl⟩
theorem i_blkEqV (A A' : Option Addr) (n c n' c' : Nat) (xs ys : List Int) (w : World) (B B' : Nat) (hn : n = xs.length) (hn' : n' = ys.length) (hl : n ≤ 1048576) (hl' : n' ≤ 1048576) (hs : IS w B A xs) (hs' : IS w B' A' ys) {b : Bool} (h : decide (xs = ys) = b) :
    Calls Tryz.prog 129 #[.slice A n c, .slice A' n' c'] w (Q (.bool b) w) := by rw [← h]; exact i_blkEq A A' n c n' c' xs ys w B B' hn hn' hl hl' hs hs'
/-- What dropping equal neighbours leaves. -/
def CPF (ll : List (List Int)) (base g c : Nat) (w : World) (e : Ending) (w' : World) : Prop := ∃ m vs', e = .returned (.slice (some ⟨g, 0, none⟩) m c) ∧ m = (cpL ll).length ∧ w'.ownsRow base 24 1 (.slice (some ⟨g, 0, none⟩) m c) m vs' ∧ RowsO w' base vs' (cpL ll) ∧ w.grownBy w' (some g)
set_option maxRecDepth 20000 in
set_option maxHeartbeats 2000000 in
theorem c_compactF (g n c base : Nat) (vs : List Value) (ll : List (List Int)) (w : World) (hn : n = ll.length) (hl : n ≤ 1048576) (hrow : ∀ k, k < n → (gl ll k).length ≤ 1048576) (ho : w.ownsRow base 24 1 (.slice (some ⟨g, 0, none⟩) n c) n vs) (hr : RowsO w base vs ll) :
    Calls Tryz.prog 128 #[.slice (some ⟨g, 0, none⟩) n c, .func (.func 129) #[] #[]] w (CPF ll base g c w) := by
  have hcap := own_cap ho
  have hvl : vs.length = n := by have := ho.1; omega
  have HVL := Lib.hid hvl
  have HN := Lib.hid hn
  have HR := Lib.hid hr
  have HROW := Lib.hid hrow
  have hne : ∀ i, i < vs.length → (gv vs i).ownBlock = none ∨ (gv vs i).ownBlock ≠ some g := fun i hi => by
    have := own_ne (hr.2.1 i hi) ho (by decide)
    simpa [Value.ownBlock] using this
  have HNE := Lib.hid hne
  obtain ⟨hc1, hc2⟩ := hcap
  unfold maxLen at hc2
  have HO := Lib.hid ho
  have hsame : ∀ j, j < n → (∀ i, i < j → nwB ll i = true) → j = n → CPF ll base g c w (.returned (.slice (some ⟨g, 0, none⟩) n c)) w := fun _ _ _ _ => by omega
  have hid : ∀ q, (∀ i, i < n → nwB ll i = true) → CPF ll base g c w (.returned (.slice (some ⟨g, 0, none⟩) n c)) (w.drewN q) := fun q h => by
    have e := nwL_full (ll := ll) (by rw [← hn]; exact h)
    exact ⟨n, vs, rfl, by rw [e]; exact hn, ho, by rw [e]; exact hr, gdrew q⟩
  have HID := Lib.hid hid
  have h00 : nwB ll 0 = true := by simp [nwB]
  have H00 := Lib.hid h00
  clear hvl hn hr hne ho hrow hsame hid h00
  by_cases h2 : n < 2
  · have h := HID.out 0 fun i hi => by
      obtain rfl | rfl : i = 0 ∨ i = 1 := by omega
      · exact H00.out
      · omega
    have H := Lib.hid h
    clear h
    go_enter Tryz.func128, Tryz.ntmps128
    go_wp2_with (fail)
    go_ret
    exact H.out
  · go_enter Tryz.func128, Tryz.ntmps128
    go_wp2_with (fail)
    go_loopw [5] (fun u5 wr => ∃ k : Nat, 1 ≤ k ∧ k ≤ n ∧ u5 = .int .i64 k ∧ Hid (∀ i, i < k → nwB ll i = true) ∧ DR w wr) (fun u5 _ => n - (intOf u5).toNat)
    case atStart => exact ⟨1, by omega, by omega, rfl, (fun i hi => by rw [show i = 0 by omega]; exact H00.out), DR.refl _⟩
    case round =>
      obtain ⟨k, hk1, hk, rfl, HI, hdr⟩ := hrel
      by_cases hlt : k < n
      · obtain ⟨A1, c1, ev1, _⟩ := own_slice' (HR.out.2.1 k (by rw [HVL.out]; exact hlt))
        obtain ⟨A0, c0, ev0, _⟩ := own_slice' (HR.out.2.1 (k - 1) (by rw [HVL.out]; omega))
        have r1 := HR.out.2.1 k (by rw [HVL.out]; exact hlt)
        have r0 := HR.out.2.1 (k - 1) (by rw [HVL.out]; omega)
        rw [ev1] at r1
        rw [ev0] at r0
        have i1 : IS wr w.heap.size A1 (gl ll k) := by obtain ⟨m, rfl⟩ := hdr; exact r1.is rfl
        have i0 : IS wr w.heap.size A0 (gl ll (k - 1)) := by obtain ⟨m, rfl⟩ := hdr; exact r0.is rfl
        have e1 : wr.cell? ⟨g, k, none⟩ = some (.slice A1 (gl ll k).length c1) := by
          refine (hdr.cell _).trans ?_
          rw [HO.out.cellAt k (by omega), gv_at (by rw [HVL.out]; exact hlt), ev1]
        have e0 : wr.cell? ⟨g, k - 1, none⟩ = some (.slice A0 (gl ll (k - 1)).length c0) := by
          refine (hdr.cell _).trans ?_
          rw [HO.out.cellAt (k - 1) (by omega), gv_at (by rw [HVL.out]; omega), ev0]
        have l1 := HROW.out k hlt
        have l0 := HROW.out (k - 1) (by omega)
        have hs1 : IntKind.i64.wrap ((k : Int) - 1) = (k : Int) - 1 := IntWalk.i64_in _ (by omega)
        have hs2 : ((k : Int) - 1).toNat = k - 1 := by omega
        have hs3 : 1 ≤ (k : Int) := by omega
        have hs4 : 0 ≤ (k : Int) - 1 := by omega
        have hs5 : (k : Int) - 1 < (n : Int) := by omega
        have hnw : nwB ll k = !(decide (gl ll k = gl ll (k - 1))) := by
          unfold nwB
          rw [decide_eq_false (show ¬ k = 0 by omega), Bool.false_or]
        clear ev1 ev0 r1 r0
        generalize hx : gl ll k = x at *
        generalize hy : gl ll (k - 1) = y at *
        generalize hlx : x.length = lx at *
        generalize hly : y.length = ly at *
        have HLX := Lib.hid hlx
        have HLY := Lib.hid hly
        have HX := Lib.hid hx
        clear hx hy hlx hly
        cases hd : decide (x = y)
        · rw [hd] at hnw
          have hn' : ∀ i, i < k + 1 → nwB ll i = true := fun i hi => by
            by_cases h : i = k
            · subst h; rw [hnw]; rfl
            · exact HI.out i (by omega)
          have HN' := Lib.hid hn'
          have HD := Lib.hid hd
          clear hn' hnw hd
          go_wp2_with (go_quiet ((go_at_call 129; exact Calls.quiet_of (i_blkEqV A1 A0 lx c1 ly c0 x y _ _ _ HLX.out.symm HLY.out.symm (by omega) (by omega) (i1.drewN _) (i0.drewN _) HD.out))))
          go_roundw
          case rel => exact ⟨k + 1, by omega, by omega, by go_num, HN'.out, by repeat (first | exact hdr | refine DR.step ?_ _)⟩
          case measure => simp [intOf]; omega
        · rw [hd] at hnw
          have HNW := Lib.hid hnw
          have HD := Lib.hid hd
          clear hnw hd
          go_wp2_with (go_quiet ((go_at_call 129; exact Calls.quiet_of (i_blkEqV A1 A0 lx c1 ly c0 x y _ _ _ HLX.out.symm HLY.out.symm (by omega) (by omega) (i1.drewN _) (i0.drewN _) HD.out))))
          have hk0 : nwB ll k = false := by rw [HNW.out]; rfl
          have hkall := nwL_all HI.out
          have hkn : nwL ll (k + 1) = List.range k := by rw [nwL_no hk0, hkall]
          have HKN := Lib.hid hkn
          have HK0 := Lib.hid hk0
          obtain ⟨q0, rfl⟩ := hdr
          have hcne : ¬ c = k := by omega
          clear i1 i0 e1 e0 l1 l0 hs1 hs2 hs3 hs4 hs5 HX HI hkn hk0 hkall HLX HLY HD HNW
          go_wp2_with (fail)
          go_loopw [5, 7] (fun u5 u7 wr => ∃ (j : Nat) (va : List Value), 1 ≤ j ∧ j ≤ n - k ∧ u7 = .int .i64 j ∧ u5 = .int .i64 ((nwL ll (k + j)).length : Nat) ∧ wr.ownsRow base 24 1 (.slice (some ⟨g, 0, none⟩) n c) n va ∧ w.grownBy wr (some g) ∧ Hid (∀ t, t < (nwL ll (k + j)).length → va[t]? = some (gv vs ((nwL ll (k + j)).getD t 0))) ∧ Hid (∀ t, k + j - 1 ≤ t → t < n → va[t]? = some (gv vs t))) (fun _ u7 _ => n - k - (intOf u7).toNat)
          case atStart =>
            refine ⟨1, vs, by omega, by omega, rfl, by rw [HKN.out, List.length_range], HO.out, gto (gdrew q0) _, fun t ht => ?_, fun t _ ht => gv_at (by rw [HVL.out]; exact ht)⟩
            rw [HKN.out] at ht ⊢
            rw [List.length_range] at ht
            rw [show (List.range k).getD t 0 = t by simp [List.getD, ht]]
            exact gv_at (by rw [HVL.out]; omega)
          case round =>
            obtain ⟨ws, rfl⟩ : ∃ ws : World, ws = wr := ⟨_, rfl⟩
            obtain ⟨j, va, hj1, hj, rfl, rfl, hoa, hga, HA, HB⟩ := hrel
            have hless := nwL_less (ll := ll) (n := k + j) (k := k) (by omega) HK0.out
            by_cases hjn : j < n - k
            · have hkj : k + j < n := by omega
              obtain ⟨A1, c1, ev1, _⟩ := own_slice' (HR.out.2.1 (k + j) (by rw [HVL.out]; exact hkj))
              obtain ⟨A0, c0, ev0, _⟩ := own_slice' (HR.out.2.1 (k + (j - 1)) (by rw [HVL.out]; omega))
              have hrk := HR.out.kept hga HNE.out
              have r1 := hrk.2.1 (k + j) (by rw [HVL.out]; exact hkj)
              have r0 := hrk.2.1 (k + (j - 1)) (by rw [HVL.out]; omega)
              rw [ev1] at r1
              rw [ev0] at r0
              have i1 : IS ws ws.heap.size A1 (gl ll (k + j)) := r1.is rfl
              have i0 : IS ws ws.heap.size A0 (gl ll (k + (j - 1))) := r0.is rfl
              have e1 : ws.cell? ⟨g, k + j, none⟩ = some (.slice A1 (gl ll (k + j)).length c1) := by
                rw [hoa.cellAt (k + j) (by omega), HB.out (k + j) (by omega) hkj, ev1]
              have e0 : ws.cell? ⟨g, k + (j - 1), none⟩ = some (.slice A0 (gl ll (k + (j - 1))).length c0) := by
                rw [hoa.cellAt (k + (j - 1)) (by omega), HB.out (k + (j - 1)) (by omega) (by omega), ev0]
              have l1 := HROW.out (k + j) hkj
              have l0 := HROW.out (k + (j - 1)) (by omega)
              have hs1 : IntKind.i64.wrap ((j : Int) - 1) = (j : Int) - 1 := IntWalk.i64_in _ (by omega)
              have hs2 : ((j : Int) - 1).toNat = j - 1 := by omega
              have hs3 : 1 ≤ (j : Int) := by omega
              have hs4 : 0 ≤ (j : Int) - 1 := by omega
              have hs5 : (j : Int) - 1 < ((n - k : Nat) : Int) := by omega
              have hnw : nwB ll (k + j) = !(decide (gl ll (k + j) = gl ll (k + (j - 1)))) := by
                unfold nwB
                rw [decide_eq_false (show ¬ k + j = 0 by omega), Bool.false_or, show k + j - 1 = k + (j - 1) by omega]
              have hfr := hoa.frozenAt (nwL ll (k + j)).length
              have hci : ∃ u, ws.cell? ⟨g, (nwL ll (k + j)).length, none⟩ = some u := by
                rw [hoa.cellAt _ (by omega)]
                exact ⟨_, List.getElem?_eq_getElem (by have := hoa.1; omega)⟩
              obtain ⟨u0, hci⟩ := hci
              obtain ⟨s1, s2⟩ := hoa.stored (nwL ll (k + j)).length (gv vs (k + j))
              have HVA := Lib.hid (show va.length = n by have := hoa.1; omega)
              have hA' : ∀ t, t < (nwL ll (k + j)).length + 1 → (va.set (nwL ll (k + j)).length (gv vs (k + j)))[t]? = some (gv vs ((nwL ll (k + j) ++ [k + j]).getD t 0)) := fun t ht => by
                by_cases h : t = (nwL ll (k + j)).length
                · subst h
                  rw [List.getElem?_set_self (by rw [HVA.out]; omega)]
                  simp [List.getD]
                · rw [List.getElem?_set_ne (by omega), HA.out t (by omega)]
                  rw [List.getD_eq_getElem?_getD, List.getD_eq_getElem?_getD, List.getElem?_append_left (by omega)]
              have hB' : ∀ t, k + (j + 1) - 1 ≤ t → t < n → (va.set (nwL ll (k + j)).length (gv vs (k + j)))[t]? = some (gv vs t) := fun t ht ht' => by
                rw [List.getElem?_set_ne (by omega)]; exact HB.out t (by omega) ht'
              have HA' := Lib.hid hA'
              have HB' := Lib.hid hB'
              have hg2 := hga.trans s2
              generalize hvb : va.set (nwL ll (k + j)).length (gv vs (k + j)) = vb at *
              rw [ev1] at s1 hg2
              clear hvb hA' hB' s2 ev1 ev0 r1 r0 hrk
              generalize hx : gl ll (k + j) = x at *
              generalize hy : gl ll (k + (j - 1)) = y at *
              generalize hlx : x.length = lx at *
              generalize hly : y.length = ly at *
              have HLX := Lib.hid hlx
              have HLY := Lib.hid hly
              clear hx hy hlx hly
              cases hd : decide (x = y)
              · rw [hd] at hnw
                have HQ := Lib.hid (nwL_yes (ll := ll) (j := k + j) (by rw [hnw]; rfl))
                have HD := Lib.hid hd
                clear hnw hd hoa
                generalize hKL : (nwL ll (k + j)).length = i at *
                have HKL := Lib.hid hKL
                clear hKL
                go_wp2_with (go_quiet ((go_at_call 129; exact Calls.quiet_of (i_blkEqV A1 A0 lx c1 ly c0 x y _ _ _ HLX.out.symm HLY.out.symm (by omega) (by omega) (i1.drewN _) (i0.drewN _) HD.out))))
                go_roundw
                case rel => exact ⟨j + 1, vb, by omega, by omega, by go_num, by rw [show k + (j + 1) = k + j + 1 by omega, HQ.out, List.length_append, HKL.out]; go_num, s1, gto hg2 _, by rw [show k + (j + 1) = k + j + 1 by omega, HQ.out]; intro t ht; rw [List.length_append, HKL.out] at ht; exact HA'.out t ht, HB'.out⟩
                case measure => simp [intOf]; omega
              · rw [hd] at hnw
                have HQ := Lib.hid (nwL_no (ll := ll) (j := k + j) (by rw [hnw]; rfl))
                have HD := Lib.hid hd
                have HOA := Lib.hid hoa
                clear hnw hd hoa s1 hg2
                generalize hKL : (nwL ll (k + j)).length = i at *
                have HKL := Lib.hid hKL
                clear hKL
                go_wp2_with (go_quiet ((go_at_call 129; exact Calls.quiet_of (i_blkEqV A1 A0 lx c1 ly c0 x y _ _ _ HLX.out.symm HLY.out.symm (by omega) (by omega) (i1.drewN _) (i0.drewN _) HD.out))))
                go_roundw
                case rel => exact ⟨j + 1, va, by omega, by omega, by go_num, by rw [show k + (j + 1) = k + j + 1 by omega, HQ.out, HKL.out], HOA.out, gto hga _, by rw [show k + (j + 1) = k + j + 1 by omega, HQ.out, HKL.out]; exact HA.out, fun t ht ht' => HB.out t (by omega) ht'⟩
                case measure => simp [intOf]; omega
            · obtain rfl : j = n - k := by omega
              have hkk : k + (n - k) = n := by omega
              rw [hkk] at hless HA
              have hI : ∀ t, t < n - (nwL ll n).length → (ws.cell? ⟨g, (nwL ll n).length + t, none⟩).isSome = true := fun t ht => by
                rw [hoa.cellAt _ (by omega), List.getElem?_eq_getElem (by have := hoa.1; omega)]; rfl
              have hJ : ∀ t, t < n - (nwL ll n).length → ws.frozen? ⟨g, (nwL ll n).length + t, none⟩ = false := fun t _ => hoa.frozenAt _
              have hcl : ∀ ty, (Builtin.clear_ #[29] ty #[.slice (some ⟨g, (nwL ll n).length, none⟩) (n - (nwL ll n).length) (c - (nwL ll n).length)]).run Tryz.prog ws = .ok (.tuple #[]) (ws.setCells g (nwL ll n).length (List.replicate (n - (nwL ll n).length) (.slice none 0 0))) :=
                fun ty => Lib.run_clear_slice ws 29 24 ty (.slice none 0 0) Tryz.underlying29 (fun _ => rfl) rfl rfl g _ _ _ (by omega) hI hJ
              obtain ⟨vz, z1, z2, z3⟩ := own_setCells (List.replicate (n - (nwL ll n).length) (Value.slice none 0 0)) (nwL ll n).length hoa
              have hfin : CPF ll base g c w (.returned (.slice (some ⟨g, 0, none⟩) (nwL ll n).length c)) (ws.setCells g (nwL ll n).length (List.replicate (n - (nwL ll n).length) (.slice none 0 0))) := by
                have hg := hga.trans z3
                have hfl : (cpL ll).length = (nwL ll n).length := by unfold cpL; rw [List.length_map, ← HN.out]
                have hzl := z1.1
                have evs : vz.take (nwL ll n).length = (nwL ll n).map (gv vs) := by
                  refine List.ext_getElem? fun t => ?_
                  by_cases ht : t < (nwL ll n).length
                  · rw [List.getElem?_take_of_lt ht, z2 t ht, HA.out t ht, List.getElem?_map, List.getElem?_eq_getElem ht]
                    simp [List.getD, List.getElem?_eq_getElem ht]
                  · rw [List.getElem?_eq_none (by rw [List.length_take]; omega), List.getElem?_eq_none (by rw [List.length_map]; omega)]
                refine ⟨(nwL ll n).length, _, rfl, hfl.symm, own_take z1 (by omega), ?_, hg⟩
                rw [evs]
                have hk := HR.out.kept hg HNE.out
                have := hk.pick
                rwa [← HN.out] at this
              have HFIN := Lib.hid hfin
              have hci : ¬ c = (nwL ll n).length := by omega
              rw [hkk]
              clear hfin z1 z2 z3 hI hJ HA HB hoa hga hkk
              generalize (nwL ll n).length = i at *
              go_wp2_with (fail)
              go_ret
              exact HFIN.out
      · obtain rfl : k = n := by omega
        obtain ⟨q, rfl⟩ := hdr
        have H := Lib.hid (HID.out q HI.out)
        go_wp2_with (fail)
        go_ret
        exact H.out
end Go.Proofs.YtglijcdnnaekkaaGreat
