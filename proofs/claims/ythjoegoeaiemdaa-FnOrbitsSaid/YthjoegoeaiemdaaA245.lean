/- Several parts of the proof in one text; each part says what it shows. Nothing is assumed. -/
import Derived.Test.YthjoegoeaiemdaaA241
import Derived.Test.YthjoegoeaiemdaaA160
import Derived.Test.YthjoegoeaiemdaaA209
import Derived.Lib.SliceRun
import Derived.Maps.AppendAt
import Derived.Deep.RegionHeld3
/- Stabilizers, the program's side: members that a condition leaves. -/
namespace Go.Proofs.Ythjoegoeaiemdaa
set_option linter.unusedVariables false
set_option linter.unusedSimpArgs false
open Go.RowKit

theorem own_take {w : World} {base g n m cap : Nat} {e : TypeId} {xs : List Value} (h : w.ownsRow base e 1 (.slice (some ⟨g, 0, none⟩) n cap) n xs) (hm : m ≤ n) : w.ownsRow base e 1 (.slice (some ⟨g, 0, none⟩) m cap) m (xs.take m) := by
  obtain ⟨h1, h2⟩ := h
  rcases h2 with ⟨h0, _⟩ | ⟨g', cap', cur, hv, hb, hg, h3, h4, h5, h6⟩
  · cases h0
  · cases hv
    refine ⟨by rw [List.length_take]; omega, .inr ⟨g, cap, cur, rfl, hb, hg, by omega, h4, h5, ?_⟩⟩
    rw [← h6, List.take_take]
    congr 1
    omega
theorem own_setCells {base g n cap : Nat} {e : TypeId} : ∀ (zs : List Value) (o : Nat) {w : World} {xs : List Value}, w.ownsRow base e 1 (.slice (some ⟨g, 0, none⟩) n cap) n xs →
    ∃ xs', (w.setCells g o zs).ownsRow base e 1 (.slice (some ⟨g, 0, none⟩) n cap) n xs' ∧ (∀ j, j < o → xs'[j]? = xs[j]?) ∧ w.grownBy (w.setCells g o zs) (some g)
  | [], o, w, xs, h => ⟨xs, h, fun _ _ => rfl, ⟨rfl, rfl, rfl, Nat.le_refl _, fun _ _ _ => rfl⟩⟩
  | z :: zs, o, w, xs, h => by
    obtain ⟨s1, s2⟩ := h.stored o z
    obtain ⟨xs', h1, h2, h3⟩ := own_setCells zs (o + 1) s1
    refine ⟨xs', h1, fun j hj => ?_, s2.trans h3⟩
    rw [h2 j (by omega), List.getElem?_set_ne (by omega)]
/-- The places that a condition leaves, among the first j. -/
def kpL (P : List Int → Bool) (ll : List (List Int)) (j : Nat) : List Nat := (List.range j).filter fun i => P (gl ll i)
theorem kpL_yes {P : List Int → Bool} {ll : List (List Int)} {j : Nat} (h : P (gl ll j) = true) : kpL P ll (j + 1) = kpL P ll j ++ [j] := by simp [kpL, List.range_succ, h]
theorem kpL_no {P : List Int → Bool} {ll : List (List Int)} {j : Nat} (h : P (gl ll j) = false) : kpL P ll (j + 1) = kpL P ll j := by simp [kpL, List.range_succ, h]
theorem kpL_le (P : List Int → Bool) (ll : List (List Int)) (j : Nat) : (kpL P ll j).length ≤ j := by
  have := List.length_filter_le (fun i => P (gl ll i)) (List.range j)
  rwa [List.length_range] at this
theorem kpL_lt {P : List Int → Bool} {ll : List (List Int)} {j t : Nat} (h : t < (kpL P ll j).length) : (kpL P ll j)[t] < j := by
  have := List.getElem_mem h
  unfold kpL at this
  exact List.mem_range.1 (List.mem_filter.1 this).1
theorem kpL_all {P : List Int → Bool} {ll : List (List Int)} {k : Nat} (h : ∀ j, j < k → P (gl ll j) = true) : kpL P ll k = List.range k := List.filter_eq_self.2 fun i hi => h i (List.mem_range.1 hi)
theorem kpL_filter (P : List Int → Bool) (ll : List (List Int)) : (kpL P ll ll.length).map (gl ll) = ll.filter P := by
  have e : (List.range ll.length).map (gl ll) = ll := by
    refine List.ext_getElem (by simp) fun i h1 h2 => ?_
    simp [gl, List.getElem?_eq_getElem h2]
  conv => rhs; rw [← e, List.filter_map]
  rfl
theorem RowsO.sub {w : World} {base : Nat} {vs : List Value} {ll : List (List Int)} (h : RowsO w base vs ll) (P : List Int → Bool) : RowsO w base ((kpL P ll ll.length).map (gv vs)) (ll.filter P) := by
  obtain ⟨h1, h2, h3⟩ := h
  rw [← kpL_filter]
  have hpw : (kpL P ll ll.length).Pairwise (· < ·) := List.pairwise_lt_range.filter _
  have e1 : ∀ i, i < (kpL P ll ll.length).length → gv ((kpL P ll ll.length).map (gv vs)) i = gv vs ((kpL P ll ll.length).getD i 0) := fun i hi => by simp [gv, List.getElem?_eq_getElem hi]
  have e2 : ∀ i, i < (kpL P ll ll.length).length → gl ((kpL P ll ll.length).map (gl ll)) i = gl ll ((kpL P ll ll.length).getD i 0) := fun i hi => by simp [gl, List.getElem?_eq_getElem hi]
  have e3 : ∀ i, i < (kpL P ll ll.length).length → (kpL P ll ll.length).getD i 0 < ll.length := fun i hi => by
    have := kpL_lt hi
    rw [List.getD_eq_getElem?_getD, List.getElem?_eq_getElem hi]; exact this
  refine ⟨by simp, fun i hi => ?_, fun i j hij hj => ?_⟩
  · rw [List.length_map] at hi
    rw [e1 i hi, e2 i hi]
    exact h2 _ (by rw [h1]; exact e3 i hi)
  · rw [List.length_map] at hj
    rw [e1 i (by omega), e1 j hj]
    refine h3 _ _ ?_ (by rw [h1]; exact e3 j hj)
    have := List.pairwise_iff_getElem.1 hpw i j (by omega) hj hij
    rw [List.getD_eq_getElem?_getD, List.getD_eq_getElem?_getD, List.getElem?_eq_getElem hj, List.getElem?_eq_getElem (show i < _ by omega)]
    exact this
set_option maxHeartbeats 1000000 in
theorem i_stab1 (A : Option Addr) (n c pb p : Nat) (a : List Int) (w : World) (hn : n = a.length) (hp : p < n) (hs : IS w w.heap.size A a) (hc : w.cell? ⟨pb, 0, none⟩ = some (.int .i64 (p : Int))) :
    Calls Try.prog 67 #[.slice A n c, .pointer (some ⟨pb, 0, none⟩)] w (Q (.bool (gt a p == (p : Int))) w) := by
  obtain ⟨b, off, rfl, hb, hcell⟩ := hs.at (k := p) (by omega)
  have h1 := hcell p (by omega)
  generalize gt a p = y at *
  clear hcell hs hn
  go_enter Try.func67, Try.ntmps67
  go_wp2_with (go_quiet (fail))
  go_ret
  exact ⟨rfl, by repeat (first | exact dq1 | exact dq2 | exact ⟨_, rfl⟩)⟩
set_option maxHeartbeats 1000000 in
theorem i_filt1 (A : Option Addr) (n c kb pb p : Nat) (a : List Int) (w : World) (hn : n = a.length) (hp : p < n) (hs : IS w w.heap.size A a) (hc : w.cell? ⟨pb, 0, none⟩ = some (.int .i64 (p : Int))) (hk : w.cell? ⟨kb, 0, none⟩ = some (.func (.func 67) #[] #[.pointer (some ⟨pb, 0, none⟩)])) :
    Calls Try.prog 128 #[.slice A n c, .pointer (some ⟨kb, 0, none⟩)] w (Q (.bool (!(gt a p == (p : Int)))) w) := by
  have h := i_stab1 A n c pb p a w hn hp hs hc
  generalize (gt a p == (p : Int)) = y at *
  clear hs hn hc
  go_enter Try.func128, Try.ntmps128
  go_wp2_with (first | (go_at_call 67; refine h.mono ?_; rintro e w1 ⟨rfl, q1, rfl⟩) | go_in)
  go_ret
  exact ⟨rfl, q1, rfl⟩
end Go.Proofs.Ythjoegoeaiemdaa
/- Stabilizers, the program's side: slices.DeleteFunc over permutations. -/
namespace Go.Proofs.Ythjoegoeaiemdaa
set_option linter.unusedVariables false
set_option linter.unusedSimpArgs false
open Go.RowKit

/-- The first place at which a condition fails. -/
def IXF (P : List Int → Bool) (ll : List (List Int)) (n : Nat) (w : World) (e : Ending) (w' : World) : Prop := (∃ q, w' = w.drewN q) ∧ ((e = .returned (.int .i64 (-1)) ∧ ∀ j, j < n → P (gl ll j) = true) ∨ (∃ k : Nat, e = .returned (.int .i64 (k : Int)) ∧ k < n ∧ P (gl ll k) = false ∧ ∀ j, j < k → P (gl ll j) = true))
set_option maxRecDepth 10000 in
set_option maxHeartbeats 1000000 in
theorem c_idxDel (g n c kb base : Nat) (vs : List Value) (ll : List (List Int)) (P : List Int → Bool) (w : World) (hl : n ≤ 1048576) (ho : w.ownsRow base 24 1 (.slice (some ⟨g, 0, none⟩) n c) n vs)
    (hp : ∀ k, k < n → ∀ q, Calls Try.prog 128 #[gv vs k, .pointer (some ⟨kb, 0, none⟩)] (w.drewN q) (Q (.bool (!P (gl ll k))) (w.drewN q))) :
    Calls Try.prog 163 #[.slice (some ⟨g, 0, none⟩) n c, .func (.func 128) #[] #[.pointer (some ⟨kb, 0, none⟩)]] w (IXF P ll n w) := by
  have HP := Lib.hid hp
  clear hp
  have hvl : vs.length = n := by have := ho.1; omega
  have HVL := Lib.hid hvl
  clear hvl
  go_enter Try.func163, Try.ntmps163
  go_wp2_with (fail)
  go_loopw [8] (fun u wr => ∃ k : Nat, k ≤ n ∧ u = .int .i64 k ∧ Hid (∀ j, j < k → P (gl ll j) = true) ∧ ∃ m, wr = w.drewN m) (fun u _ => n - (intOf u).toNat)
  case atStart => exact ⟨0, Nat.zero_le _, rfl, fun j hj => by omega, 0, rfl⟩
  case round =>
    obtain ⟨k, hk, rfl, HI, m, rfl⟩ := hrel
    by_cases hlt : k < n
    · have hcell : w.cell? ⟨g, k, none⟩ = some (gv vs k) := by
        rw [ho.cellAt k (by omega)]
        exact gv_at (by rw [HVL.out]; exact hlt)
      have hp := fun q => HP.out k hlt q
      have HO := Lib.hid ho
      clear ho
      generalize gv vs k = v at *
      cases hd : P (gl ll k)
      · rw [hd] at hp
        have HK := Lib.hid hd
        clear hd
        go_wp2_with (first | (go_at_call 128; refine (hp _).mono ?_; rintro e w1 ⟨rfl, m1, rfl⟩) | go_in)
        go_ret
        exact ⟨by first | exact dq1 | exact dq2 | exact ⟨_, rfl⟩, .inr ⟨k, rfl, hlt, HK.out, HI.out⟩⟩
      · have hn : ∀ j, j < k + 1 → P (gl ll j) = true := fun j hj => by
          by_cases hjk : j = k
          · subst hjk; exact hd
          · exact HI.out j (by omega)
        have HN := Lib.hid hn
        rw [hd] at hp
        clear hn hd
        go_wp2_with (first | (go_at_call 128; refine (hp _).mono ?_; rintro e w1 ⟨rfl, m1, rfl⟩) | go_in)
        go_roundw
        case rel => exact ⟨k + 1, by omega, by go_num, HN.out, by first | exact dq1 | exact dq2 | exact ⟨_, rfl⟩⟩
        case measure => simp [intOf]; omega
    · obtain rfl : k = n := by omega
      clear ho
      go_wp2_with (fail)
      go_ret
      exact ⟨by first | exact dq1 | exact dq2 | exact ⟨_, rfl⟩, .inl ⟨rfl, HI.out⟩⟩
/-- What is left of a slice of permutations. -/
def DLF (P : List Int → Bool) (ll : List (List Int)) (base g c : Nat) (w : World) (e : Ending) (w' : World) : Prop := ∃ m vs', e = .returned (.slice (some ⟨g, 0, none⟩) m c) ∧ m = (ll.filter P).length ∧ w'.ownsRow base 24 1 (.slice (some ⟨g, 0, none⟩) m c) m vs' ∧ RowsO w' base vs' (ll.filter P) ∧ w.grownBy w' (some g)
theorem kpL_less {P : List Int → Bool} {ll : List (List Int)} {n k : Nat} (hk : k < n) (h : P (gl ll k) = false) : (kpL P ll n).length < n := by
  have h1 := (List.length_filter_lt_length_iff_exists (p := fun i => P (gl ll i)) (l := List.range n)).2 ⟨k, List.mem_range.2 hk, by rw [h]; decide⟩
  rwa [List.length_range] at h1
theorem grown_drew {w : World} {g : Option Nat} (q : Nat) : w.grownBy (w.drewN q) g := ⟨rfl, rfl, rfl, Nat.le_refl _, fun _ _ _ => rfl⟩
theorem grown_to {w w' : World} {g : Option Nat} (h : w.grownBy w' g) (q : Nat) : w.grownBy (w'.drewN q) g := ⟨h.os, h.tape, h.output, h.size, h.block⟩
set_option maxRecDepth 20000 in
set_option maxHeartbeats 2000000 in
theorem c_delP (g n c kb base : Nat) (vs : List Value) (ll : List (List Int)) (P : List Int → Bool) (w : World) (hn : n = ll.length) (hl : n ≤ 1048576) (ho : w.ownsRow base 24 1 (.slice (some ⟨g, 0, none⟩) n c) n vs) (hr : RowsO w base vs ll)
    (hp : ∀ k, k < n → ∀ W, w.grownBy W (some g) → Calls Try.prog 128 #[gv vs k, .pointer (some ⟨kb, 0, none⟩)] W (Q (.bool (!P (gl ll k))) W)) :
    Calls Try.prog 127 #[.slice (some ⟨g, 0, none⟩) n c, .func (.func 128) #[] #[.pointer (some ⟨kb, 0, none⟩)]] w (DLF P ll base g c w) := by
  have hix := c_idxDel g n c kb base vs ll P w hl ho (fun k hk q => hp k hk _ (grown_drew q))
  have hcap := own_cap ho
  have hvl : vs.length = n := by have := ho.1; omega
  have HVL := Lib.hid hvl
  have HN := Lib.hid hn
  have HP := Lib.hid hp
  have HR := Lib.hid hr
  have hne : ∀ i, i < vs.length → (gv vs i).ownBlock = none ∨ (gv vs i).ownBlock ≠ some g := fun i hi => by
    have := own_ne (hr.2.1 i hi) ho (by decide)
    simpa [Value.ownBlock] using this
  have HNE := Lib.hid hne
  obtain ⟨hc1, hc2⟩ := hcap
  unfold maxLen at hc2
  clear hvl hn hp hr hne
  have HO := Lib.hid ho
  clear ho
  go_enter Try.func127, Try.ntmps127
  go_wp2_with (fail)
  refine hix.mono ?_
  rintro e w1 ⟨⟨q1, rfl⟩, h⟩
  rcases h with ⟨rfl, hall⟩ | ⟨k0, rfl, hk0, hf0, hall⟩
  · have hfil : ll.filter P = ll := List.filter_eq_self.2 fun a ha => by
      obtain ⟨k, hk, rfl⟩ := mem_gl.1 ha
      exact hall k (by rw [HN.out]; exact hk)
    have HF := Lib.hid hfil
    clear hall hfil hix
    go_wp2_with (fail)
    go_ret
    exact ⟨n, vs, rfl, by rw [HF.out]; exact HN.out, HO.out, by rw [HF.out]; exact HR.out, grown_drew q1⟩
  · have hz : ((k0 : Int) == -1) = false := by rw [beq_eq_false_iff_ne]; omega
    have hk1 := kpL_all hall
    have hk2 : kpL P ll (k0 + 1) = List.range k0 := by rw [kpL_no hf0, hk1]
    have HK2 := Lib.hid hk2
    have hless := kpL_less hk0 hf0
    have HLESS := Lib.hid hless
    clear hall hix hk1 hk2 hf0 hless
    go_wp2_with (fail)
    go_loopw [5, 6] (fun u5 u6 wr => ∃ (j : Nat) (vs' : List Value), j ≤ n ∧ u6 = .int .i64 j ∧ u5 = .int .i64 ((kpL P ll j).length : Nat) ∧ wr.ownsRow base 24 1 (.slice (some ⟨g, 0, none⟩) n c) n vs' ∧ w.grownBy wr (some g) ∧ Hid (∀ t, t < (kpL P ll j).length → vs'[t]? = some (gv vs ((kpL P ll j).getD t 0))) ∧ Hid (∀ t, j ≤ t → t < n → vs'[t]? = some (gv vs t))) (fun _ u6 _ => n - (intOf u6).toNat)
    case atStart =>
      refine ⟨k0 + 1, vs, by omega, by go_num, by rw [HK2.out, List.length_range], HO.out, grown_drew q1, fun t ht => ?_, fun t _ ht => gv_at (by rw [HVL.out]; exact ht)⟩
      rw [HK2.out] at ht ⊢
      rw [List.length_range] at ht
      rw [show (List.range k0).getD t 0 = t by simp [List.getD, ht]]
      exact gv_at (by rw [HVL.out]; omega)
    case round =>
      obtain ⟨ws, rfl⟩ : ∃ ws : World, ws = wr := ⟨_, rfl⟩
      obtain ⟨j, va, hj, rfl, rfl, hoa, hga, HA, HB⟩ := hrel
      have hle := kpL_le P ll j
      by_cases hlt : j < n
      · have hcell : ws.cell? ⟨g, j, none⟩ = some (gv vs j) := by rw [hoa.cellAt j (by omega)]; exact HB.out j (Nat.le_refl _) hlt
        have hfr := hoa.frozenAt (kpL P ll j).length
        have hci : ∃ u, ws.cell? ⟨g, (kpL P ll j).length, none⟩ = some u := by
          rw [hoa.cellAt _ (by omega)]
          exact ⟨_, List.getElem?_eq_getElem (by have := hoa.1; omega)⟩
        obtain ⟨u0, hci⟩ := hci
        have hp := HP.out j hlt ws hga
        obtain ⟨s1, s2⟩ := hoa.stored (kpL P ll j).length (gv vs j)
        have hval := hoa.1
        have HVA := Lib.hid (show va.length = n by omega)
        cases hd : P (gl ll j)
        · rw [hd] at hp
          have HK := Lib.hid (kpL_no hd)
          have HOA := Lib.hid hoa
          clear hd hoa s1 s2 hval
          obtain ⟨A', c', ev, _⟩ := own_slice' (HR.out.2.1 j (by rw [HVL.out]; exact hlt))
          generalize hv : gv vs j = v at *
          generalize (gl ll j).length = lj at *
          subst ev
          clear hv
          generalize hKL : (kpL P ll j).length = i at *
          have HKL := Lib.hid hKL
          clear hKL
          go_wp2_with (first | (go_at_call 128; refine hp.mono ?_; rintro e w2 ⟨rfl, m1, rfl⟩) | go_in)
          go_roundw
          case rel => exact ⟨j + 1, va, by omega, by go_num, by rw [HK.out, HKL.out], HOA.out, grown_to hga _, by rw [HK.out, HKL.out]; exact HA.out, fun t ht ht' => HB.out t (by omega) ht'⟩
          case measure => simp [intOf]; omega
        · rw [hd] at hp
          have HK := Lib.hid (kpL_yes hd)
          have hA' : ∀ t, t < (kpL P ll j).length + 1 → (va.set (kpL P ll j).length (gv vs j))[t]? = some (gv vs ((kpL P ll j ++ [j]).getD t 0)) := fun t ht => by
            by_cases h : t = (kpL P ll j).length
            · subst h
              rw [List.getElem?_set_self (by rw [HVA.out]; omega)]
              simp [List.getD]
            · rw [List.getElem?_set_ne (by omega), HA.out t (by omega)]
              rw [List.getD_eq_getElem?_getD, List.getD_eq_getElem?_getD, List.getElem?_append_left (by omega)]
          have hB' : ∀ t, j + 1 ≤ t → t < n → (va.set (kpL P ll j).length (gv vs j))[t]? = some (gv vs t) := fun t ht ht' => by
            rw [List.getElem?_set_ne (by omega)]; exact HB.out t (by omega) ht'
          have HA' := Lib.hid hA'
          have HB' := Lib.hid hB'
          have hg2 := hga.trans s2
          clear hd hoa hval HA HB hA' hB'
          generalize hVA : va.set (kpL P ll j).length (gv vs j) = vb at *
          clear hVA
          obtain ⟨A', c', ev, _⟩ := own_slice' (HR.out.2.1 j (by rw [HVL.out]; exact hlt))
          generalize hv : gv vs j = v at *
          generalize (gl ll j).length = lj at *
          subst ev
          clear hv
          generalize hKL : (kpL P ll j).length = i at *
          have HKL := Lib.hid hKL
          clear hKL
          go_wp2_with (first | (go_at_call 128; refine hp.mono ?_; rintro e w2 ⟨rfl, m1, rfl⟩) | go_in)
          go_roundw
          case rel => exact ⟨j + 1, vb, by omega, by go_num, by rw [HK.out, List.length_append, HKL.out]; go_num, s1, grown_to hg2 _, by rw [HK.out]; intro t ht; rw [List.length_append, HKL.out] at ht; exact HA'.out t ht, HB'.out⟩
          case measure => simp [intOf]; omega
      · obtain rfl : j = n := by omega
        have hless := HLESS.out
        have hI : ∀ t, t < j - (kpL P ll j).length → (ws.cell? ⟨g, (kpL P ll j).length + t, none⟩).isSome = true := fun t ht => by
          rw [hoa.cellAt _ (by omega), List.getElem?_eq_getElem (by have := hoa.1; omega)]; rfl
        have hJ : ∀ t, t < j - (kpL P ll j).length → ws.frozen? ⟨g, (kpL P ll j).length + t, none⟩ = false := fun t _ => hoa.frozenAt _
        have hcl : ∀ ty, (Builtin.clear_ #[36] ty #[.slice (some ⟨g, (kpL P ll j).length, none⟩) (j - (kpL P ll j).length) (c - (kpL P ll j).length)]).run Try.prog ws = .ok (.tuple #[]) (ws.setCells g (kpL P ll j).length (List.replicate (j - (kpL P ll j).length) (.slice none 0 0))) :=
          fun ty => Lib.run_clear_slice ws 36 24 ty (.slice none 0 0) Try.underlying36 (fun _ => rfl) rfl rfl g _ _ _ (by omega) hI hJ
        obtain ⟨vz, z1, z2, z3⟩ := own_setCells (List.replicate (j - (kpL P ll j).length) (Value.slice none 0 0)) (kpL P ll j).length hoa
        have hfin : DLF P ll base g c w (.returned (.slice (some ⟨g, 0, none⟩) (kpL P ll j).length c)) (ws.setCells g (kpL P ll j).length (List.replicate (j - (kpL P ll j).length) (.slice none 0 0))) := by
          have hg := hga.trans z3
          have hfl : (ll.filter P).length = (kpL P ll j).length := by rw [← kpL_filter, List.length_map, ← HN.out]
          have hzl := z1.1
          have evs : vz.take (kpL P ll j).length = (kpL P ll j).map (gv vs) := by
            refine List.ext_getElem? fun t => ?_
            by_cases ht : t < (kpL P ll j).length
            · rw [List.getElem?_take_of_lt ht, z2 t ht, HA.out t ht, List.getElem?_map, List.getElem?_eq_getElem ht]
              simp [List.getD, List.getElem?_eq_getElem ht]
            · rw [List.getElem?_eq_none (by rw [List.length_take]; omega), List.getElem?_eq_none (by rw [List.length_map]; omega)]
          refine ⟨(kpL P ll j).length, _, rfl, hfl.symm, own_take z1 hle, ?_, hg⟩
          rw [evs]
          have hk := HR.out.kept hg HNE.out
          have := hk.sub P
          rwa [← HN.out] at this
        have HFIN := Lib.hid hfin
        have hci : ¬ c = (kpL P ll j).length := by omega
        clear hfin z1 z2 z3 hI hJ HA HB hoa hga
        generalize (kpL P ll j).length = i at *
        go_wp2_with (fail)
        go_ret
        exact HFIN.out
end Go.Proofs.Ythjoegoeaiemdaa
/- Stabilizers and orbits of points: both sides. -/
namespace Go.Proofs.Ythjoegoeaiemdaa
set_option linter.unusedVariables false
set_option linter.unusedSimpArgs false
open Go.RowKit

theorem cell_two_far {w : World} {r s i : Nat} {v : Value} (hrs : r ≠ s) (h : w.cell? ⟨s, i, none⟩ = some v) (x y : Value) : ((w.setCell ⟨r, 0, none⟩ x).setCell ⟨r, 1, none⟩ y).cell? ⟨s, i, none⟩ = some v := by
  have ne0 : ∀ j, (⟨r, j, none⟩ : Addr) ≠ ⟨s, i, none⟩ := fun j e => by injection e with e; exact hrs e
  rw [World.cell?_setCell_other (h := ne0 1), World.cell?_setCell_other (h := ne0 0), h]
theorem st_pos {n : Nat} {l : List Int} (h : grpB n l = true) {p : Nat} (hp : p < n) : 0 < (stL (memL n l) p p).length := by
  have h1 := orb_st (pgn_of h) hp
  rw [memL_len] at h1
  obtain ⟨n', _, _, _, h3, _⟩ := grpB_t h
  exact Nat.pos_of_ne_zero fun e => by rw [e, Nat.mul_zero] at h1; omega
theorem own_ret {w : World} {base n c : Nat} {A : Option Addr} {xs : List Value} {e : TypeId} (h : w.ownsRow base e 1 (.slice A n c) n xs) (h0 : 0 < n) : ∃ g, A = some ⟨g, 0, none⟩ := by
  rcases h.2 with ⟨_, hz⟩ | ⟨g, cap, cur, hv, _⟩
  · omega
  · cases hv; exact ⟨g, rfl⟩
/-- Behind a slice's cutting: what it says of the members that a condition leaves. -/
theorem i_delSt (n p kb pb base g c : Nat) (vs : List Value) (l : List Int) (w : World) (hn6 : n ≤ 6) (hk : InK n l) (hp : p < n) (hl : l.length ≤ 1000) (ho : w.ownsRow base 24 1 (.slice (some ⟨g, 0, none⟩) l.length c) l.length vs) (hr : RowsO w base vs (memL n l))
    (hkb : w.cell? ⟨kb, 0, none⟩ = some (.func (.func 67) #[] #[.pointer (some ⟨pb, 0, none⟩)])) (hpb : w.cell? ⟨pb, 0, none⟩ = some (.int .i64 (p : Int))) (h1 : kb ≠ g) (h2 : pb ≠ g) :
    Calls Try.prog 127 #[.slice (some ⟨g, 0, none⟩) l.length c, .func (.func 128) #[] #[.pointer (some ⟨kb, 0, none⟩)]] w (DLF (fun a => gt a p == (p : Int)) (memL n l) base g c w) := by
  have hne : ∀ i, i < vs.length → (gv vs i).ownBlock = none ∨ (gv vs i).ownBlock ≠ some g := fun i hi => by
    have := own_ne (hr.2.1 i hi) ho (by decide)
    simpa [Value.ownBlock] using this
  have hvl : vs.length = (memL n l).length := hr.1
  refine c_delP g l.length c kb base vs (memL n l) (fun a => gt a p == (p : Int)) w (memL_len n l).symm (by omega) ho hr fun k hk' W hW => ?_
  have hkm : k < (memL n l).length := by rw [memL_len]; exact hk'
  have hin := mem_in hk k hkm
  have hrow := (hr.kept hW hne).2.1 k (by rw [hvl]; exact hkm)
  obtain ⟨A', c', ev, _⟩ := own_slice' hrow
  have hrow' := hrow
  rw [ev] at hrow' ⊢
  exact i_filt1 A' _ c' kb pb p (gl (memL n l) k) W rfl (by rw [hin.1]; exact hp) (hrow'.is rfl) (hW.cell hpb (by simpa using h2)) (hW.cell hkb (by simpa using h1))
set_option maxRecDepth 20000 in
set_option maxHeartbeats 2000000 in
theorem i_filtered (n p pb : Nat) (A : Option Addr) (c : Nat) (l : List Int) (w : World) (hg : grpB n l = true) (hp : p < n) (hs : IS w w.heap.size A l) (hpb : w.cell? ⟨pb, 0, none⟩ = some (.int .i64 (p : Int))) (hpl : pb < w.heap.size) :
    Calls Try.prog 66 #[.agg #[.int .i64 (n : Int), .slice A l.length c], .func (.func 67) #[] #[.pointer (some ⟨pb, 0, none⟩)]] w (GR w.heap.size (n : Int) (sbL n l p) w) := by
  obtain ⟨n', hn', h1, h2, h3, h4, hk⟩ := grpB_t hg
  obtain rfl : n = n' := by omega
  have hmb := fun W h => i_members n A l.length c l W h1 h2 rfl (by omega) hk h
  have hdel := fun kb pb base g c vs W => i_delSt n p kb pb base g c vs l W h2 hk hp (by omega)
  have hrow : ∀ k, k < (stL (memL n l) p p).length → (gl (stL (memL n l) p p) k).length ≤ 6 := fun k hk' => by
    have hm := (mem_st.1 (gl_mem (ll := stL (memL n l) p p) (i := k) hk')).1
    rw [((memL_inr h2 hk _ hm).1).1]; exact h2
  have hle : (stL (memL n l) p p).length ≤ l.length := by
    have := List.length_filter_le (fun a => ap a p == p) (memL n l)
    rw [memL_len] at this
    exact this
  have hgo := fun Ag c W B hB h => i_groupOf Ag (stL (memL n l) p p).length c (n : Int) (stL (memL n l) p p) W B rfl (st_pos hg hp) (by omega) hB hrow h
  rw [sb_rk hg hp] at hgo
  have hst : (memL n l).filter (fun a => gt a p == (p : Int)) = stL (memL n l) p p := by
    refine List.filter_congr fun a ha => ?_
    have e := ap_gt (memL_inr h2 hk _ ha).1 hp
    rw [e.1, Bool.eq_iff_iff, beq_iff_eq, beq_iff_eq]
    omega
  have hml := memL_len n l
  have hb0 : Below w.heap.size w (((w.alloc (.cells #[.int .i64 (n : Int), .slice A l.length c] 26)).alloc (.cells #[.func (.func 67) #[] #[.pointer (some ⟨pb, 0, none⟩)]] 82)).alloc (.cells #[.int .i64 0, .slice none 0 0] 26)) := ((((Below.refl _ _).alloc (Nat.le_refl _) _).alloc (by simp) _).alloc (by simp; omega) _)
  have B0 := ((BK.new w 26 #[.int .i64 (n : Int), .slice A l.length c]).alloc (.cells #[.func (.func 67) #[] #[.pointer (some ⟨pb, 0, none⟩)]] 82)).alloc (.cells #[.int .i64 0, .slice none 0 0] 26)
  have C0 := (BK.new (w.alloc (.cells #[.int .i64 (n : Int), .slice A l.length c] 26)) 82 #[.func (.func 67) #[] #[.pointer (some ⟨pb, 0, none⟩)]]).alloc (.cells #[.int .i64 0, .slice none 0 0] 26)
  have D0 := BK.new ((w.alloc (.cells #[.int .i64 (n : Int), .slice A l.length c] 26)).alloc (.cells #[.func (.func 67) #[] #[.pointer (some ⟨pb, 0, none⟩)]] 82)) 26 #[.int .i64 0, .slice none 0 0]
  have hs0 := hs.call hb0
  rw [World.size_alloc] at C0
  rw [World.size_alloc, World.size_alloc] at D0
  have hpb0 := (hb0.cell (p := ⟨pb, 0, none⟩) hpl).trans hpb
  have hz0 := D0.lt
  have hpos : 0 < l.length := h3
  clear hs hpb hk hg hrow h3 h4
  go_enter Try.func66, Try.ntmps66
  go_wp2_with (fail)
  generalize ((w.alloc (.cells #[.int .i64 (n : Int), .slice A l.length c] 26)).alloc (.cells #[.func (.func 67) #[] #[.pointer (some ⟨pb, 0, none⟩)]] 82)).alloc (.cells #[.int .i64 0, .slice none 0 0] 26) = w0 at *
  have hz1 := hb0.size
  have hz2 := C0.lt
  have hS0 : w0.drew.cell? ⟨w.heap.size, 0, none⟩ = some (.int .i64 (n : Int)) ∧ w0.drew.cell? ⟨w.heap.size, 1, none⟩ = some (.slice A l.length c) := ⟨B0.two.1, B0.two.2.1⟩
  go_region_held3 (fun W => W.cell? ⟨w.heap.size, 0, none⟩ = some (.int .i64 (n : Int)) ∧ W.cell? ⟨w.heap.size, 1, none⟩ = some (.slice A l.length c)) ((first | exact ⟨cell_two_far (by omega) hS4.1 _ _, cell_two_far (by omega) hS4.2 _ _⟩ | exact hS4 | exact hS3 | exact hS2 | exact hS0))
    (first
      | (go_at_call 69; refine (hmb w0.drew (hs0.drewN 1)).mono ?_; rintro e w2 ⟨A2, c2, vs, rfl, ho2, hr2, hb2⟩; have hb2 : Below w0.heap.size w0 w2 := ⟨hb2.os, hb2.tape, hb2.output, hb2.size, hb2.block⟩; rw [hml] at ho2 ⊢; obtain ⟨g, rfl⟩ := own_ret ho2 hpos; have hgl := ho2.lt g rfl; have B2 := B0.of_below hb2; have C2 := C0.of_below hb2; have D2 := D0.of_below hb2; have hpb2 := (hb2.cell (p := ⟨pb, 0, none⟩) (by show pb < _; omega)).trans hpb0; have hS2 := And.intro B2.two.1 B2.two.2.1; have hz0d : w0.drew.heap.size = w0.heap.size := rfl)
      | (go_at_call 127; refine (hdel (w.heap.size + 1) pb w0.drew.heap.size g c2 vs w2 ho2 hr2 (C2.cell 0) hpb2 (by omega) (by omega)).mono ?_; rintro e w3 ⟨m3, vs3, rfl, hm3, ho3, hr3, hg3⟩; rw [hst] at hm3 hr3; subst hm3; have B3 := B2.kept hg3 (by simp; omega); have D3 := D2.kept hg3 (by simp; omega); have hS3 := And.intro B3.two.1 B3.two.2.1)
      | (go_at_call 126; refine (hgo (some ⟨g, 0, none⟩) c2 w3 w3.heap.size (Nat.le_refl _) (OwnII.ii ho3 hr3)).mono ?_; rintro e w4 ⟨v, rfl, ho4, hb4⟩; have B4 := B3.of_below hb4; have D4 := D3.of_below hb4; obtain ⟨A4, c4, rfl, _⟩ := own_slice' ho4; have hS4 := And.intro B4.two.1 B4.two.2.1; obtain ⟨f0, f1, f2, f3⟩ := D4.two)
      | fail)
  all_goals
    have b2 := bel_call hb0 hb2
    have hl3 := D3.lt
    have b3 : Below w.heap.size w w3 := b2.grown hg3 b2.size (fun y hy => by injection hy with hy; omega)
    have b4 := bel_call b3 hb4
    have ho5 := ownsRow_setCell_below (ownsRow_setCell_below ho4 (a := ⟨w.heap.size + 1 + 1, 0, none⟩) (by simpa using hl3) (.int .i64 (n : Int))) (a := ⟨w.heap.size + 1 + 1, 1, none⟩) (by simpa using hl3) (.slice A4 (sbL n l p).length c4)
    have b5 := (b4.setCell (p := ⟨w.heap.size + 1 + 1, 0, none⟩) (by show _ ≤ w.heap.size + 1 + 1; omega) (.int .i64 (n : Int))).setCell (p := ⟨w.heap.size + 1 + 1, 1, none⟩) (by show _ ≤ w.heap.size + 1 + 1; omega) (.slice A4 (sbL n l p).length c4)
    obtain ⟨d0, d1⟩ := set2 (x := .int .i64 (n : Int)) (y := .slice A4 (sbL n l p).length c4) D4
    have hsz3 := b3.size
    clear hdel hgo hmb
    go_wp2_with (fail)
    generalize (w4.setCell ⟨w.heap.size + 1 + 1, 0, none⟩ (.int .i64 (n : Int))).setCell ⟨w.heap.size + 1 + 1, 1, none⟩ (.slice A4 (sbL n l p).length c4) = w5 at *
    refine bodyPost_ret (v := .agg #[.int .i64 (n : Int), .slice A4 (sbL n l p).length c4]) (by simp [results, Try.results66, go_sem, d0, d1]) rfl ?_
    exact ⟨_, rfl, own_mono ho5 (by omega), b5⟩
end Go.Proofs.Ythjoegoeaiemdaa
/- Orbits and stabilizers of points, their number of fixed points: both sides. -/
namespace Go.Proofs.Ythjoegoeaiemdaa
set_option linter.unusedVariables false
set_option linter.unusedSimpArgs false
open Go.RowKit

theorem one_isn (w : World) (a : Int) : IS (w.alloc (.cells #[.int .i64 a] 2)) (w.alloc (.cells #[.int .i64 a] 2)).heap.size (some ⟨w.heap.size, 0, none⟩) [a] := fun _ => by
  have B := BK.new w 2 #[.int .i64 a]
  refine ⟨w.heap.size, 0, rfl, B.lt, fun k hk => ?_⟩
  obtain rfl : k = 0 := by simpa using hk
  exact B.cell 0
theorem mv_twice (p x : Int) (l : List Int) : mvL p l [x, x] = mvL p l [x] := by
  unfold mvL
  simp
theorem mv_ok {p x : Int} {l : List Int} (h : mvL p l [x] = 0) : ∃ n q : Nat, p = n ∧ x = q ∧ q < n ∧ grpB n l = true := by
  unfold mvL at h
  cases hg : grpB p l
  · rw [hg] at h; simp at h
  · obtain ⟨n, rfl, _⟩ := grpB_t hg
    rw [hg] at h
    cases hi : inB x 0 ((n : Int) - 1)
    · simp [hi] at h
    · have := inB_true hi
      exact ⟨n, x.toNat, rfl, by omega, by omega, hg⟩
def ofA (p : Int) (l : List Int) (x : Int) : List Int := if mvL p l [x] = 0 then orL p.toNat l x.toNat else []
def sbA (p : Int) (l : List Int) (x : Int) : List Int := if mvL p l [x] = 0 then sbL p.toNat l x.toNat else []
def sbP (p : Int) (l : List Int) (x : Int) : Int := if mvL p l [x] = 0 then p else 0
theorem nz_bne {c : Int} (h : ¬ c = 0) : (c != 0) = true := by rw [bne_iff_ne]; exact h
set_option maxRecDepth 20000 in
set_option maxHeartbeats 1000000 in
theorem i_OrbitOf (p x : Int) (A : Option Addr) (L c : Nat) (l : List Int) (w : World) (hL : L = l.length) (hl : L ≤ 1048576) (hs : IS w w.heap.size A l) :
    Calls Try.prog 9 #[.agg #[.int .i64 p, .slice A L c], .int .i64 x] w (RS (ofA p l x) (mvL p l [x]) w) := by
  have B0 := BK.new w 26 #[.int .i64 p, .slice A L c]
  obtain ⟨c0, c1, _, _⟩ := B0.two
  have hb0 := (Below.refl w.heap.size w).alloc (Nat.le_refl _) (.cells #[.int .i64 p, .slice A L c] 26)
  have hb1 := hb0.alloc hb0.size (.cells #[.int .i64 x] 2)
  have B1 := B0.alloc (.cells #[.int .i64 x] 2)
  have hmv := i_movedL p A _ L c 1 1 l [x] _ hL hl (hs.call hb1) rfl (by omega) (one_isn (w.alloc (.cells #[.int .i64 p, .slice A L c] 26)) x)
  rw [World.size_alloc] at hmv
  have hs1 := hs.call hb1
  by_cases h0 : mvL p l [x] = 0
  · obtain ⟨n, q, rfl, rfl, hq, hg⟩ := mv_ok h0
    have eo : ofA n l q = orL n l q := by unfold ofA; rw [if_pos h0, Int.toNat_natCast, Int.toNat_natCast]
    obtain ⟨n', hn', h1, h2, h3, h4, hk⟩ := grpB_t hg
    obtain rfl : n = n' := by omega
    have hor := fun W h => i_orbit n q A L c l W h1 h2 hL (by omega) (by omega) hk hq h
    rw [eo]
    rw [h0] at hmv ⊢
    generalize orL n l q = ol at *
    clear h0 eo hg hk h3 h4 hL hs B0 hn'
    go_enter Try.func9, Try.ntmps9
    go_wp2_with (fail)
    refine hmv.mono ?_
    rintro e w2 ⟨rfl, hb2⟩
    have b2 := bel_call hb1 hb2
    obtain ⟨d0, d1, _, _⟩ := (B1.of_below hb2).two
    clear hmv c0 c1
    go_wp2_with (fail)
    refine (hor _ (hs1.call hb2)).mono ?_
    rintro e w3 ⟨v, rfl, ho3, hb3⟩
    obtain ⟨A3, c3, rfl, _⟩ := own_slice' ho3
    go_wp2_with (fail)
    go_ret2
    exact ⟨_, _, rfl, own_mono ho3 b2.size, bel_call b2 hb3⟩
  · have eo : ofA p l x = [] := by unfold ofA; rw [if_neg h0]
    have hz := nz_bne h0
    rw [eo]
    generalize mvL p l [x] = code at *
    clear eo h0 hL hs B0
    go_enter Try.func9, Try.ntmps9
    go_wp2_with (fail)
    refine hmv.mono ?_
    rintro e w2 ⟨rfl, hb2⟩
    go_wp2_with (fail)
    go_ret2
    exact RS.nil (bel_call hb1 hb2)
set_option maxRecDepth 20000 in
set_option maxHeartbeats 1000000 in
theorem s_OrbitOf (p x : Int) (A : Option Addr) (L c : Nat) (l : List Int) (w : World) (hL : L = l.length) (hl : L ≤ 1048576) (hs : IS w w.heap.size A l) :
    Calls Try.prog 10 #[.agg #[.int .i64 p, .slice A L c], .int .i64 x] w (RS (ofA p l x) (mvL p l [x]) w) := by
  have B0 := BK.new w 26 #[.int .i64 p, .slice A L c]
  obtain ⟨c0, c1, _, _⟩ := B0.two
  have hb0 := (Below.refl w.heap.size w).alloc (Nat.le_refl _) (.cells #[.int .i64 p, .slice A L c] 26)
  have hmv := s_l23Code p x x A L c l _ hL hl (hs.call hb0)
  rw [mv_twice] at hmv
  have hs1 := hs.call hb0
  by_cases h0 : mvL p l [x] = 0
  · obtain ⟨n, q, rfl, rfl, hq, hg⟩ := mv_ok h0
    have eo : ofA n l q = orL n l q := by unfold ofA; rw [if_pos h0, Int.toNat_natCast, Int.toNat_natCast]
    obtain ⟨n', hn', h1, h2, h3, h4, hk⟩ := grpB_t hg
    obtain rfl : n = n' := by omega
    have hor := fun W h => s_orbit n q A L c l W h1 h2 hL (by omega) hk hq h
    rw [eo]
    rw [h0] at hmv ⊢
    generalize orL n l q = ol at *
    clear h0 eo hg hk h3 h4 hL hs hn'
    go_enter Try.func10, Try.ntmps10
    go_wp2_with (fail)
    refine hmv.mono ?_
    rintro e w2 ⟨rfl, hb2⟩
    have b2 := bel_call hb0 hb2
    obtain ⟨d0, d1, _, _⟩ := (B0.of_below hb2).two
    clear hmv c0 c1
    go_wp2_with (fail)
    refine (hor _ (hs1.call hb2)).mono ?_
    rintro e w3 ⟨v, rfl, ho3, hb3⟩
    obtain ⟨A3, c3, rfl, _⟩ := own_slice' ho3
    go_wp2_with (fail)
    go_ret2
    exact ⟨_, _, rfl, own_mono ho3 b2.size, bel_call b2 hb3⟩
  · have eo : ofA p l x = [] := by unfold ofA; rw [if_neg h0]
    have hz := nz_bne h0
    rw [eo]
    generalize mvL p l [x] = code at *
    clear eo h0 hL hs B0
    go_enter Try.func10, Try.ntmps10
    go_wp2_with (fail)
    refine hmv.mono ?_
    rintro e w2 ⟨rfl, hb2⟩
    go_wp2_with (fail)
    go_ret2
    exact RS.nil (bel_call hb0 hb2)
set_option maxRecDepth 20000 in
set_option maxHeartbeats 2000000 in
theorem i_StabilizerOf (p x : Int) (A : Option Addr) (L c : Nat) (l : List Int) (w : World) (hL : L = l.length) (hl : L ≤ 1048576) (hs : IS w w.heap.size A l) :
    Calls Try.prog 11 #[.agg #[.int .i64 p, .slice A L c], .int .i64 x] w (GRC w.heap.size (sbP p l x) (sbA p l x) (mvL p l [x]) w) := by
  have hb0 : Below w.heap.size w (((w.alloc (.cells #[.int .i64 p, .slice A L c] 26)).alloc (.cells #[.int .i64 x] 2)).alloc (.cells #[.int .i64 0, .slice none 0 0] 26)) := ((((Below.refl _ _).alloc (Nat.le_refl _) _).alloc (by simp) _).alloc (by simp; omega) _)
  have B0 := ((BK.new w 26 #[.int .i64 p, .slice A L c]).alloc (.cells #[.int .i64 x] 2)).alloc (.cells #[.int .i64 0, .slice none 0 0] 26)
  have C0 := (BK.new (w.alloc (.cells #[.int .i64 p, .slice A L c] 26)) 2 #[.int .i64 x]).alloc (.cells #[.int .i64 0, .slice none 0 0] 26)
  have D0 := BK.new ((w.alloc (.cells #[.int .i64 p, .slice A L c] 26)).alloc (.cells #[.int .i64 x] 2)) 26 #[.int .i64 0, .slice none 0 0]
  have hs0 := hs.call hb0
  rw [World.size_alloc] at C0
  rw [World.size_alloc, World.size_alloc] at D0
  obtain ⟨c0, c1, _, _⟩ := B0.two
  have k0 := C0.cell 0
  simp only [show (#[Value.int .i64 x] : Array Value)[0]? = some (.int .i64 x) from rfl] at k0
  have hl0 := D0.lt
  have hzz : (((w.alloc (.cells #[.int .i64 p, .slice A L c] 26)).alloc (.cells #[.int .i64 x] 2)).alloc (.cells #[.int .i64 0, .slice none 0 0] 26)).heap.size = w.heap.size + 1 + 1 + 1 := by simp
  have HZZ := Lib.hid hzz
  clear hzz
  subst hL
  by_cases h0 : mvL p l [x] = 0
  · obtain ⟨n, q, rfl, rfl, hq, hg⟩ := mv_ok h0
    have es : sbA n l q = sbL n l q := by unfold sbA; rw [if_pos h0, Int.toNat_natCast, Int.toNat_natCast]
    have ep : sbP n l q = n := by unfold sbP; rw [if_pos h0]
    rw [es, ep]
    first | rw [h0] | skip
    clear es ep hs
    go_enter Try.func11, Try.ntmps11
    go_wp2_with (fail)
    generalize ((w.alloc (.cells #[.int .i64 (n : Int), .slice A l.length c] 26)).alloc (.cells #[.int .i64 (q : Int)] 2)).alloc (.cells #[.int .i64 0, .slice none 0 0] 26) = w0 at *
    have hbl := (Below.refl w0.heap.size w0).alloc (Nat.le_refl _) (.cells #[.int .i64 (q : Int)] 2)
    have b1 := bel_call hb0 hbl
    have hmv := i_movedL n A _ l.length c 1 1 l [(q : Int)] _ rfl hl (hs0.call hbl) rfl (by omega) (one_isn w0 q)
    rw [h0, HZZ.out] at hmv
    have hs1 := hs0.call hbl
    have B1 := B0.of_below hbl
    have C1 := C0.of_below hbl
    have D1 := D0.of_below hbl
    clear h0 hbl
    refine hmv.mono ?_
    rintro e w2 ⟨rfl, hb2⟩
    have b2 := bel_call b1 hb2
    have C2 := C1.of_below hb2
    have D2 := D1.of_below hb2
    obtain ⟨d0, d1, _, _⟩ := (B1.of_below hb2).two
    have hfi := i_filtered n q (w.heap.size + 1) A c l w2 hg hq (hs1.call hb2) (C2.cell 0) C2.lt
    generalize sbL n l q = sl at *
    clear hmv c0 c1 k0 B0 B1 C0 C1 D0 D1 hg hs0 hs1 hb0 b1 hb2
    go_wp2_with (fail)
    refine hfi.mono ?_
    rintro e w3 ⟨v, rfl, ho3, hb3⟩
    have D3 := D2.of_below hb3
    have hl3 := D2.lt
    obtain ⟨A3, c3, rfl, _⟩ := own_slice' ho3
    obtain ⟨f0, f1, f2, f3⟩ := D3.two
    have b3 := bel_call b2 hb3
    have ho5 := ownsRow_setCell_below (ownsRow_setCell_below ho3 (a := ⟨w.heap.size + 1 + 1, 0, none⟩) (by simpa using hl3) (.int .i64 (n : Int))) (a := ⟨w.heap.size + 1 + 1, 1, none⟩) (by simpa using hl3) (.slice A3 sl.length c3)
    have b5 := (b3.setCell (p := ⟨w.heap.size + 1 + 1, 0, none⟩) (by show _ ≤ w.heap.size + 1 + 1; omega) (.int .i64 (n : Int))).setCell (p := ⟨w.heap.size + 1 + 1, 1, none⟩) (by show _ ≤ w.heap.size + 1 + 1; omega) (.slice A3 sl.length c3)
    obtain ⟨e0, e1⟩ := set2 (x := .int .i64 (n : Int)) (y := .slice A3 sl.length c3) D3
    have hsz2 := b2.size
    clear hfi d0 d1
    go_wp2_with (fail)
    generalize (w3.setCell ⟨w.heap.size + 1 + 1, 0, none⟩ (.int .i64 (n : Int))).setCell ⟨w.heap.size + 1 + 1, 1, none⟩ (.slice A3 sl.length c3) = w5 at *
    refine bodyPost_ret (v := .tuple #[.agg #[.int .i64 (n : Int), .slice A3 sl.length c3], .int .i64 0]) (by simp [results, Try.results11, go_sem, e0, e1]) rfl ?_
    exact ⟨_, rfl, own_mono ho5 hsz2, b5⟩
  · have es : sbA p l x = [] := by unfold sbA; rw [if_neg h0]
    have ep : sbP p l x = 0 := by unfold sbP; rw [if_neg h0]
    rw [es, ep]
    clear es ep hs
    go_enter Try.func11, Try.ntmps11
    go_wp2_with (fail)
    generalize ((w.alloc (.cells #[.int .i64 p, .slice A l.length c] 26)).alloc (.cells #[.int .i64 x] 2)).alloc (.cells #[.int .i64 0, .slice none 0 0] 26) = w0 at *
    have hbl := (Below.refl w0.heap.size w0).alloc (Nat.le_refl _) (.cells #[.int .i64 x] 2)
    have b1 := bel_call hb0 hbl
    have hmv := i_movedL p A _ l.length c 1 1 l [x] _ rfl hl (hs0.call hbl) rfl (by omega) (one_isn w0 x)
    have D1 := D0.of_below hbl
    rw [HZZ.out] at hmv
    have hz := nz_bne h0
    generalize mvL p l [x] = code at *
    clear h0 hbl
    refine hmv.mono ?_
    rintro e w2 ⟨rfl, hb2⟩
    have b2 := bel_call b1 hb2
    have D2 := D1.of_below hb2
    obtain ⟨f0, f1, f2, f3⟩ := D2.two
    obtain ⟨e0, e1⟩ := set2 (x := .int .i64 0) (y := .slice none 0 0) D2
    have b5 := (b2.setCell (p := ⟨w.heap.size + 1 + 1, 0, none⟩) (by show _ ≤ w.heap.size + 1 + 1; omega) (.int .i64 0)).setCell (p := ⟨w.heap.size + 1 + 1, 1, none⟩) (by show _ ≤ w.heap.size + 1 + 1; omega) (.slice none 0 0)
    clear hmv c0 c1 k0 B0 C0 D0 D1 hs0 hb0 b1 hb2
    go_wp2_with (fail)
    generalize (w2.setCell ⟨w.heap.size + 1 + 1, 0, none⟩ (.int .i64 0)).setCell ⟨w.heap.size + 1 + 1, 1, none⟩ (.slice none 0 0) = w5 at *
    refine bodyPost_ret (v := .tuple #[.agg #[.int .i64 0, .slice none 0 0], .int .i64 code]) (by simp [results, Try.results11, go_sem, e0, e1]) rfl ?_
    exact ⟨_, rfl, World.ownsRow_nil _ _ _ _, b5⟩
/-- The ranks that a stabilizer has among the first ones. -/
def sbT (n q : Nat) (l : List Int) : List Int := l.filter fun x => gt (wrL n x.toNat) q == (q : Int)
theorem sbT_yes {n q : Nat} {l : List Int} {k : Nat} (h : k < l.length) (hf : (gt (gl (memL n l) k) q == (q : Int)) = true) : sbL n (l.take (k + 1)) q = sbL n (l.take k) q ++ [gt l k] := by
  have e : gl (memL n l) k = wrL n (gt l k).toNat := by simp [gl, memL, gt, List.getElem?_eq_getElem h]
  rw [e] at hf
  rw [List.take_succ_eq_append_getElem h, ← gt_eq h]
  unfold sbL
  rw [List.filter_append]
  simp [hf]
theorem sbT_no {n q : Nat} {l : List Int} {k : Nat} (h : k < l.length) (hf : (gt (gl (memL n l) k) q == (q : Int)) = false) : sbL n (l.take (k + 1)) q = sbL n (l.take k) q := by
  have e : gl (memL n l) k = wrL n (gt l k).toNat := by simp [gl, memL, gt, List.getElem?_eq_getElem h]
  rw [e] at hf
  rw [List.take_succ_eq_append_getElem h, ← gt_eq h]
  unfold sbL
  rw [List.filter_append]
  simp [hf]
set_option maxRecDepth 20000 in
set_option maxHeartbeats 2000000 in
theorem s_StabilizerOf (p x : Int) (A : Option Addr) (L c : Nat) (l : List Int) (w : World) (hL : L = l.length) (hl : L ≤ 1048576) (hs : IS w w.heap.size A l) :
    Calls Try.prog 12 #[.agg #[.int .i64 p, .slice A L c], .int .i64 x] w (GRC w.heap.size (sbP p l x) (sbA p l x) (mvL p l [x]) w) := by
  have hb0 := two_alloc w (.cells #[.int .i64 p, .slice A L c] 26) (.cells #[.int .i64 0, .slice none 0 0] 26)
  obtain ⟨B0, D0⟩ := two_boxes w 26 26 #[.int .i64 p, .slice A L c] #[.int .i64 0, .slice none 0 0]
  have hs0 := hs.call hb0
  have hmv := s_l23Code p x x A L c l _ hL hl hs0
  rw [mv_twice] at hmv
  obtain ⟨c0, c1, _, _⟩ := B0.two
  have hl0 := D0.lt
  obtain ⟨i0, hi, hz0, hz1, hz2⟩ := info_parts infoI64
  by_cases h0 : mvL p l [x] = 0
  · obtain ⟨n, q, rfl, rfl, hq, hg⟩ := mv_ok h0
    have es : sbA n l q = sbL n l q := by unfold sbA; rw [if_pos h0, Int.toNat_natCast, Int.toNat_natCast]
    have ep : sbP n l q = n := by unfold sbP; rw [if_pos h0]
    obtain ⟨n', hn', h1, h2, h3, h4, hk⟩ := grpB_t hg
    obtain rfl : n = n' := by omega
    have hel := fun W h => s_elements n A L c l W h1 h2 hL hl hk h
    have hml := memL_len n l
    have hin := mem_in hk
    rw [es, ep]
    rw [h0] at hmv ⊢
    have hl7 : L ≤ 720 := by omega
    have HL := Lib.hid hL
    have HML := Lib.hid hml
    have HIN := Lib.hid hin
    clear es ep hs h0 hg hk hn' h3 h4 hL hml hin
    go_enter Try.func12, Try.ntmps12
    go_wp2_with (fail)
    generalize (w.alloc (.cells #[.int .i64 (n : Int), .slice A L c] 26)).alloc (.cells #[.int .i64 0, .slice none 0 0] 26) = w0 at *
    refine hmv.mono ?_
    rintro e w2 ⟨rfl, hb2⟩
    have b2 := bel_call hb0 hb2
    have B2 := B0.of_below hb2
    have D2 := D0.of_below hb2
    have hs2 := hs0.call hb2
    obtain ⟨d0, d1, _, _⟩ := B2.two
    clear hmv c0 c1 B0 D0 hs0 hb0 hb2
    go_wp2_with (fail)
    refine (hel _ hs2).mono ?_
    rintro e w3 ⟨A3, c3, vs, rfl, ho3, hr3, hb3⟩
    have b3 := bel_call b2 hb3
    have B3 := B2.of_below hb3
    have D3 := D2.of_below hb3
    have hs3 := hs2.call hb3
    have hii := OwnII.ii ho3 hr3
    rw [HML.out, ← HL.out] at ho3 ⊢
    have hlit := World.ownsRow_lit (base := w3.heap.size) (e := 2) (size := 1) w3 #[] 0 (Nat.le_refl _) (by simp [maxLen]) rfl
    have hbl := (Below.refl w3.heap.size w3).alloc (Nat.le_refl _) (.cells #[] 2)
    have HR := Lib.hid hr3
    have HO := Lib.hid ho3
    have hbz := B3.lt
    have hdz := D3.lt
    obtain ⟨g0, g1, _, _⟩ := B3.two
    clear hel B2 D2 hs2 hb3 d0 d1 hr3 ho3
    go_wp2_with (fail)
    go_loopw [8, 9] (fun u8 u9 wr => ∃ k m : Nat, k ≤ L ∧ m ≤ k ∧ u9 = .int .i64 k ∧ wr.ownsRow w3.heap.size 2 1 u8 m (ints (sbL n (l.take k) q)) ∧ Hid (m = (sbL n (l.take k) q).length) ∧ Below w3.heap.size w3 wr) (fun _ u9 _ => L - (intOf u9).toNat)
    case atStart => exact ⟨0, 0, Nat.zero_le _, Nat.le_refl _, rfl, hlit, rfl, hbl⟩
    case round =>
      clear hlit hbl
      obtain ⟨ws, rfl⟩ : ∃ ws : World, ws = wr := ⟨_, rfl⟩
      obtain ⟨k, m, hk, hm, rfl, hown, HM, hb⟩ := hrel
      obtain ⟨A5, c5, rfl, _⟩ := own_slice' hown
      have hsz := hb.size
      have BW := B3.below hb hbz
      have DW := D3.below hb hdz
      by_cases hlt : k < L
      · have hkm : k < (memL n l).length := by rw [HML.out, ← HL.out]; exact hlt
        obtain ⟨tb, toff, rfl, htb, htc⟩ := hii.at hkm
        obtain ⟨Ar, cr, e1, _, _, his⟩ := htc k hkm
        have e1 := (hb.cell (p := ⟨tb, toff + k, none⟩) htb).trans e1
        have hrl := HIN.out k hkm
        rw [hrl.1] at e1
        obtain ⟨rb, roff, rfl, hrb, hrc⟩ := his.at (k := q) (by rw [hrl.1]; exact hq)
        have e2 := (hb.cell (p := ⟨rb, roff + q, none⟩) hrb).trans (hrc q (by rw [hrl.1]; exact hq))
        obtain ⟨b, off, rfl, hbb, hcell⟩ := IS.at hs3 (k := k) (by rw [← HL.out]; exact hlt)
        have e3 := (hb.cell (p := ⟨b, off + k, none⟩) hbb).trans (hcell k (by rw [← HL.out]; exact hlt))
        obtain ⟨b0, b1, _, _⟩ := BW.two
        have hy := sbT_yes (n := n) (q := q) (l := l) (k := k) (by rw [← HL.out]; exact hlt)
        have hno := sbT_no (n := n) (q := q) (l := l) (k := k) (by rw [← HL.out]; exact hlt)
        generalize gt (gl (memL n l) k) q = y at *
        generalize gt l k = r at *
        clear htc hcell hrc his hrl hkm hii hs3 B3 D3 g0 g1 BW DW
        cases hf : (y == (q : Int))
        · have HNO := Lib.hid (hno hf)
          clear hy hno
          go_wp2_with (fail)
          go_roundw
          case rel => exact ⟨k + 1, m, by omega, by omega, by go_num, by rw [HNO.out]; exact hown, by unfold Hid; rw [HNO.out]; exact HM.out, hb⟩
          case measure => simp [intOf]; omega
        · have HY := Lib.hid (hy hf)
          clear hy hno
          go_wp2_with (at_builtin; refine wpList_append_src rfl (.tmp 36) (.tmp 42) 24 rfl w3.heap.size 2 i0 (.int .i64 0) 1 8 Try.underlying24 hi hz0 hz1 hz2 rfl (by omega) (.slice A5 m c5) m (ints (sbL n (l.take k) q)) rfl (World.ownsRow.alloc hown _) (some ⟨ws.heap.size, 0, none⟩) 1 1 [.int .i64 r] rfl rfl (one_src ws _ _) (by intro h; cases h) (by intro u hu; simp at hu; subst hu; rfl) (by simp only [maxLen]; omega) (by omega) (by simp; omega) ?_; intro v7 w7 hown7 hg7 hat7)
          go_roundw
          case rel => exact ⟨k + 1, m + 1, by omega, by omega, by go_num, by rw [HY.out, ints_snoc]; exact hown7, by unfold Hid; rw [HY.out, List.length_append, HM.out]; rfl, (hb.alloc hsz _).grown hg7 (by simp; omega) (fun g hg => (hown.lt g hg).1)⟩
          case measure => simp [intOf]; omega
      · obtain rfl : k = L := by omega
        rw [List.take_of_length_le (by rw [← HL.out]; exact Nat.le_refl _)] at hown HM
        have hsl := HM.out
        obtain ⟨b0, b1, _, _⟩ := BW.two
        obtain ⟨f0, f1, f2, f3⟩ := DW.two
        have ho5 := ownsRow_setCell_below (ownsRow_setCell_below hown (a := ⟨w.heap.size + 1, 0, none⟩) (by simpa using hdz) (.int .i64 (n : Int))) (a := ⟨w.heap.size + 1, 1, none⟩) (by simpa using hdz) (.slice A5 m c5)
        have b5 := ((bel_call b3 hb).setCell (p := ⟨w.heap.size + 1, 0, none⟩) (by show _ ≤ w.heap.size + 1; omega) (.int .i64 (n : Int))).setCell (p := ⟨w.heap.size + 1, 1, none⟩) (by show _ ≤ w.heap.size + 1; omega) (.slice A5 m c5)
        obtain ⟨e0, e1⟩ := set2 (x := .int .i64 (n : Int)) (y := .slice A5 m c5) DW
        have hsz3 := b3.size
        have HSL := Lib.hid hsl
        clear hsl hii hs3 B3 D3 BW DW
        go_wp2_with (fail)
        generalize (ws.setCell ⟨w.heap.size + 1, 0, none⟩ (.int .i64 (n : Int))).setCell ⟨w.heap.size + 1, 1, none⟩ (.slice A5 m c5) = w5 at *
        refine bodyPost_ret (v := .tuple #[.agg #[.int .i64 (n : Int), .slice A5 m c5], .int .i64 0]) (by simp [results, Try.results12, go_sem, e0, e1]) rfl ?_
        exact ⟨_, rfl, by rw [← HSL.out]; exact own_mono ho5 (by omega), b5⟩
  · have es : sbA p l x = [] := by unfold sbA; rw [if_neg h0]
    have ep : sbP p l x = 0 := by unfold sbP; rw [if_neg h0]
    have hz := nz_bne h0
    rw [es, ep]
    generalize mvL p l [x] = code at *
    clear es ep hs h0 hL hs0
    go_enter Try.func12, Try.ntmps12
    go_wp2_with (fail)
    generalize (w.alloc (.cells #[.int .i64 p, .slice A L c] 26)).alloc (.cells #[.int .i64 0, .slice none 0 0] 26) = w0 at *
    refine hmv.mono ?_
    rintro e w2 ⟨rfl, hb2⟩
    have b2 := bel_call hb0 hb2
    have D2 := D0.of_below hb2
    obtain ⟨f0, f1, f2, f3⟩ := D2.two
    obtain ⟨e0, e1⟩ := set2 (x := .int .i64 0) (y := .slice none 0 0) D2
    have b5 := (b2.setCell (p := ⟨w.heap.size + 1, 0, none⟩) (by show _ ≤ w.heap.size + 1; omega) (.int .i64 0)).setCell (p := ⟨w.heap.size + 1, 1, none⟩) (by show _ ≤ w.heap.size + 1; omega) (.slice none 0 0)
    clear hmv c0 c1 B0 D0 hb0 hb2
    go_wp2_with (fail)
    generalize (w2.setCell ⟨w.heap.size + 1, 0, none⟩ (.int .i64 0)).setCell ⟨w.heap.size + 1, 1, none⟩ (.slice none 0 0) = w5 at *
    refine bodyPost_ret (v := .tuple #[.agg #[.int .i64 0, .slice none 0 0], .int .i64 code]) (by simp [results, Try.results12, go_sem, e0, e1]) rfl ?_
    exact ⟨_, rfl, World.ownsRow_nil _ _ _ _, b5⟩
end Go.Proofs.Ythjoegoeaiemdaa
