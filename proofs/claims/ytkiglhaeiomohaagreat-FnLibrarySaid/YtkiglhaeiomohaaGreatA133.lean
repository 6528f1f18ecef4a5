/- Several parts of the proof in one text; each part says what it shows. Nothing is assumed. -/
import Derived.Test.YtkiglhaeiomohaaGreatA92
import Derived.Test.YtkiglhaeiomohaaGreatA121
import Derived.Test.YtkiglhaeiomohaaGreatA96
/- Inverses of permutations and conjugates. -/
namespace Go.Proofs.YtkiglhaeiomohaaGreat
set_option linter.unusedVariables false
set_option linter.unusedSimpArgs false
open Go.RowKit

def invS (a : List Int) : Nat → List Int
  | 0 => List.replicate a.length 0
  | k + 1 => (invS a k).set (gt a k).toNat (k : Int)
def invL (a : List Int) : List Int := invS a a.length
theorem invS_len (a : List Int) : ∀ k, (invS a k).length = a.length
  | 0 => by simp [invS]
  | k + 1 => by rw [invS, List.length_set, invS_len a k]
theorem invS_in {a : List Int} {n : Nat} (hn : 1 ≤ n) (ha : InR n a) : ∀ k, k ≤ n → ∀ j, j < n → 0 ≤ gt (invS a k) j ∧ gt (invS a k) j < (n : Int)
  | 0, _, j, _ => by rw [invS, gt_rep]; omega
  | k + 1, h, j, hj => by
    obtain ⟨h1, h2⟩ := ha.2 k (by omega)
    rw [invS, gt_setI j (by rw [invS_len, ha.1]; omega)]
    split
    · omega
    · exact invS_in hn ha k (by omega) j hj
theorem InR.inv {n : Nat} {a : List Int} (hn : 1 ≤ n) (ha : InR n a) : InR n (invL a) := by
  unfold invL
  rw [ha.1]
  exact ⟨by rw [invS_len, ha.1], invS_in hn ha n (Nat.le_refl _)⟩
/-- A product with a permutation and its inverse. -/
def cjL (a b : List Int) : List Int := prodL (prodL a b) (invL a)
theorem InR.cj {n : Nat} {a b : List Int} (hn : 1 ≤ n) (ha : InR n a) (hb : InR n b) : InR n (cjL a b) := (ha.prod hb).prod (ha.inv hn)
theorem gt_prod {a b : List Int} {k : Nat} (h : k < b.length) : gt (prodL a b) k = gt a (gt b k).toNat := by
  simp [gt, prodL, List.getElem?_eq_getElem h]
theorem prod_assoc {n : Nat} {a b c : List Int} (hb : InR n b) (hc : InR n c) : prodL a (prodL b c) = prodL (prodL a b) c := by
  have hl : (prodL b c).length = n := by simp [prodL, hc.1]
  refine gt_ext (by simp [prodL]) (fun k hk => ?_)
  have hkn : k < n := by simpa [prodL, hc.1] using hk
  obtain ⟨h1, h2⟩ := hc.2 k hkn
  rw [gt_prod (by omega), gt_prod (by rw [hc.1]; exact hkn), gt_prod (by rw [hc.1]; exact hkn), gt_prod (by rw [hb.1]; omega)]
theorem cj_assoc {n : Nat} {a b : List Int} (hn : 1 ≤ n) (ha : InR n a) (hb : InR n b) : prodL a (prodL b (invL a)) = cjL a b := prod_assoc hb (ha.inv hn)
set_option maxRecDepth 10000 in
set_option maxHeartbeats 1000000 in
theorem i_opposite (A : Option Addr) (n c : Nat) (a : List Int) (w : World) (hn6 : n ≤ 6) (ha : InR n a) (hs : IS w w.heap.size A a) :
    Calls Tryz.prog 131 #[.slice A n c] w (MI w.heap.size n (invL a) w) := by
  have hmk := fun W => run_make_row' (P := Tryz.prog) 30 2 (.int .i64 0) 8 Tryz.underlying30 infoI64 rfl .i64 .i64 n (by omega) (by omega) W
  have hb := (Below.refl w.heap.size w).alloc (Nat.le_refl _) (.cells (madeCells (.int .i64 0 : Value).cells n) 2)
  have hns : NS (w.alloc (.cells (madeCells (.int .i64 0 : Value).cells n) 2)) w.heap.size w.heap.size (invS a 0) := by
    have h := NS.zero w n w.heap.size (Nat.le_refl _)
    rw [invS, ha.1]
    exact h
  have hlen : ∀ k, (invS a k).length = n := fun k => by rw [invS_len, ha.1]
  have hX : invL a = invS a n := by unfold invL; rw [ha.1]
  rw [hX]
  have HA := Lib.hid ha.2
  have HN := Lib.hid ha.1.symm
  have HLEN := Lib.hid hlen
  clear ha hlen hX
  go_enter Tryz.func131, Tryz.ntmps131
  go_wp2_with (fail)
  go_loopw [11] (fun u wr => ∃ k : Nat, k ≤ n ∧ u = .int .i64 k ∧ NS wr w.heap.size w.heap.size (invS a k) ∧ Below w.heap.size w wr) (fun u _ => n - (intOf u).toNat)
  case atStart => exact ⟨0, Nat.zero_le _, rfl, hns, hb⟩
  case round =>
    clear hns hb
    obtain ⟨ws, rfl⟩ : ∃ ws : World, ws = wr := ⟨_, rfl⟩
    obtain ⟨k, hk, rfl, hns, hb⟩ := hrel
    by_cases hlt : k < n
    · obtain ⟨b, off, rfl, hbb, hcell⟩ := IS.at hs (k := k) (by rw [← HN.out]; exact hlt)
      have hin := (hb.cell (p := ⟨b, off + k, none⟩) hbb).trans (hcell k (by rw [← HN.out]; exact hlt))
      obtain ⟨q, hq⟩ : ∃ q : Nat, gt a k = q := ⟨(gt a k).toNat, by have := (HA.out k hlt).1; omega⟩
      have hqn : q < n := by have := (HA.out k hlt).2; omega
      have hst : invS a (k + 1) = (invS a k).set q (k : Int) := by rw [invS, hq]; rfl
      rw [hq] at hin
      have hql : q < (invS a k).length := by rw [HLEN.out]; exact hqn
      have hc := hns.cell hql
      have hf := hns.fz q
      have hset := hns.set (k : Int) hql
      rw [← hst] at hset
      have HSET := Lib.hid hset
      clear hset hst hcell hns hq hql
      generalize gt (invS a k) q = y at *
      generalize hIe : invS a (k + 1) = I1 at *
      have HIE := Lib.hid hIe
      clear hIe
      go_wp2_with (go_quiet (fail))
      go_roundw
      case rel => exact ⟨k + 1, by omega, by go_num, by rw [HIE.out]; exact HSET.out, hb.setCell (Nat.le_refl _) _⟩
      case measure => simp [intOf]; omega
    · obtain rfl : n = k := by omega
      have hl := HLEN.out n
      go_wp2_with (fail)
      go_ret
      exact ⟨_, rfl, NS.own' hns hl.symm (by omega), hb⟩
set_option maxRecDepth 10000 in
set_option maxHeartbeats 1000000 in
theorem s_inverse (A : Option Addr) (n c : Nat) (a : List Int) (w : World) (hn6 : n ≤ 6) (ha : InR n a) (hs : IS w w.heap.size A a) :
    Calls Tryz.prog 105 #[.slice A n c] w (MI w.heap.size n (invL a) w) := by
  have hmk := fun W => run_make_row' (P := Tryz.prog) 30 2 (.int .i64 0) 8 Tryz.underlying30 infoI64 rfl .i64 .i64 n (by omega) (by omega) W
  have hb := (Below.refl w.heap.size w).alloc (Nat.le_refl _) (.cells (madeCells (.int .i64 0 : Value).cells n) 2)
  have hns : NS (w.alloc (.cells (madeCells (.int .i64 0 : Value).cells n) 2)) w.heap.size w.heap.size (invS a 0) := by
    have h := NS.zero w n w.heap.size (Nat.le_refl _)
    rw [invS, ha.1]
    exact h
  have hlen : ∀ k, (invS a k).length = n := fun k => by rw [invS_len, ha.1]
  have hX : invL a = invS a n := by unfold invL; rw [ha.1]
  rw [hX]
  have HA := Lib.hid ha.2
  have HN := Lib.hid ha.1.symm
  have HLEN := Lib.hid hlen
  clear ha hlen hX
  go_enter Tryz.func105, Tryz.ntmps105
  go_wp2_with (fail)
  go_loopw [4] (fun u wr => ∃ k : Nat, k ≤ n ∧ u = .int .i64 k ∧ NS wr w.heap.size w.heap.size (invS a k) ∧ Below w.heap.size w wr) (fun u _ => n - (intOf u).toNat)
  case atStart => exact ⟨0, Nat.zero_le _, rfl, hns, hb⟩
  case round =>
    clear hns hb
    obtain ⟨ws, rfl⟩ : ∃ ws : World, ws = wr := ⟨_, rfl⟩
    obtain ⟨k, hk, rfl, hns, hb⟩ := hrel
    by_cases hlt : k < n
    · obtain ⟨b, off, rfl, hbb, hcell⟩ := IS.at hs (k := k) (by rw [← HN.out]; exact hlt)
      have hin := (hb.cell (p := ⟨b, off + k, none⟩) hbb).trans (hcell k (by rw [← HN.out]; exact hlt))
      obtain ⟨q, hq⟩ : ∃ q : Nat, gt a k = q := ⟨(gt a k).toNat, by have := (HA.out k hlt).1; omega⟩
      have hqn : q < n := by have := (HA.out k hlt).2; omega
      have hst : invS a (k + 1) = (invS a k).set q (k : Int) := by rw [invS, hq]; rfl
      rw [hq] at hin
      have hql : q < (invS a k).length := by rw [HLEN.out]; exact hqn
      have hc := hns.cell hql
      have hf := hns.fz q
      have hset := hns.set (k : Int) hql
      rw [← hst] at hset
      have HSET := Lib.hid hset
      clear hset hst hcell hns hq hql
      generalize gt (invS a k) q = y at *
      generalize hIe : invS a (k + 1) = I1 at *
      have HIE := Lib.hid hIe
      clear hIe
      go_wp2_with (go_quiet (fail))
      go_roundw
      case rel => exact ⟨k + 1, by omega, by go_num, by rw [HIE.out]; exact HSET.out, hb.setCell (Nat.le_refl _) _⟩
      case measure => simp [intOf]; omega
    · obtain rfl : n = k := by omega
      have hl := HLEN.out n
      go_wp2_with (fail)
      go_ret
      exact ⟨_, rfl, NS.own' hns hl.symm (by omega), hb⟩
set_option maxRecDepth 10000 in
set_option maxHeartbeats 1000000 in
theorem i_conjugate (A A' : Option Addr) (n c c' : Nat) (a b : List Int) (w : World) (hn : 1 ≤ n) (hn6 : n ≤ 6) (ha : InR n a) (hb : InR n b) (hs : IS w w.heap.size A a) (hs' : IS w w.heap.size A' b) :
    Calls Tryz.prog 121 #[.slice A n c, .slice A' n c'] w (MI w.heap.size n (cjL a b) w) := by
  have h1 := fun W h h' => i_prod A A' n c n c' a b W W.heap.size W.heap.size ha.1.symm hb.1.symm (by omega) (by omega) (Nat.le_refl _) (Nat.le_refl _) h h' hb.2
  have h2 := fun W h => i_opposite A n c a W hn6 ha h
  have hp := ha.prod hb
  have hi := ha.inv hn
  have h3 := fun A c A' c' W h h' => i_prod A A' n c n c' (prodL a b) (invL a) W W.heap.size W.heap.size hp.1.symm hi.1.symm (by omega) (by omega) (Nat.le_refl _) (Nat.le_refl _) h h' hi.2
  have HP := Lib.hid hp.1.symm
  have HI := Lib.hid hi.1.symm
  have hX : cjL a b = prodL (prodL a b) (invL a) := rfl
  rw [hX]
  clear hX hp hi ha hb
  generalize prodL a b = ab at *
  generalize invL a = ai at *
  go_enter Tryz.func121, Tryz.ntmps121
  go_wp2_with (first
    | (go_at_call 131; refine (h2 _ (hs.call hb1)).mono ?_; rintro e w2 ⟨v2, rfl, ho2, hb2⟩; obtain ⟨A2, c2, rfl, _⟩ := own_slice' ho2)
    | (go_at_call 111; refine (h3 _ _ _ _ _ (own_isn (own_below ho1 hb2) HP.out) (own_isn ho2 HI.out)).mono ?_; rintro e w3 ⟨v3, rfl, ho3, hb3⟩)
    | (go_at_call 111; refine (h1 _ hs hs').mono ?_; rintro e w1 ⟨v1, rfl, ho1, hb1⟩; obtain ⟨A1, c1, rfl, _⟩ := own_slice' ho1))
  go_ret
  exact ⟨_, rfl, own_mono ho3 (by have := hb1.size; have := hb2.size; omega), bel_call (bel_call hb1 hb2) hb3⟩
end Go.Proofs.YtkiglhaeiomohaaGreat
/- Conjugates of groups, the program's side. -/
namespace Go.Proofs.YtkiglhaeiomohaaGreat
set_option linter.unusedVariables false
set_option linter.unusedSimpArgs false
open Go.RowKit

theorem take_mapf {ll : List (List Int)} {i : Nat} (f : List Int → List Int) (h : i < ll.length) : (ll.take (i + 1)).map f = (ll.take i).map f ++ [f (gl ll i)] := by
  rw [List.take_succ_eq_append_getElem h, List.map_append]
  simp [gl, List.getElem?_eq_getElem h]
def cjM (n : Nat) (a l : List Int) : List (List Int) := (memL n l).map (cjL a)
theorem cjM_len (n : Nat) (a l : List Int) : (cjM n a l).length = l.length := by simp [cjM, memL_len]
theorem gl_map {ll : List (List Int)} {f : List Int → List Int} {k : Nat} (h : k < ll.length) : gl (ll.map f) k = f (gl ll k) := by
  simp [gl, List.getElem?_eq_getElem h]
theorem cjM_in {n : Nat} {a l : List Int} (hn : 1 ≤ n) (ha : InR n a) (hk : InK n l) {k : Nat} (h : k < l.length) : InR n (gl (cjM n a l) k) := by
  unfold cjM
  rw [gl_map (by rw [memL_len]; exact h)]
  exact ha.cj hn (mem_in hk k (by rw [memL_len]; exact h))
set_option maxRecDepth 100000 in
set_option maxHeartbeats 4000000 in
theorem i_conjugateGroup (n : Nat) (A Aa : Option Addr) (L c ca : Nat) (l a : List Int) (w : World) (hn : 1 ≤ n) (hn6 : n ≤ 6) (hL : L = l.length) (h0 : 0 < L) (hl : L ≤ 1000) (hk : InK n l) (ha : InR n a) (hs : IS w w.heap.size A l) (hsa : IS w w.heap.size Aa a) :
    Calls Tryz.prog 83 #[.agg #[.int .i64 n, .slice A L c], .slice Aa n ca] w (GR w.heap.size n (rkC (cjM n a l)) w) := by
  have hmi := fun k (h : k < L) => mem_in hk k (by rw [memL_len, ← hL]; exact h)
  have hml' := memL_len n l
  rw [← hL] at hml'
  have hmem := fun W h => i_members n A L c l W hn hn6 hL (by omega) hk h
  have hcr := fun k (h : k < L) => (cjM_in hn ha hk (k := k) (by omega)).1
  have hcl := cjM_len n a l
  rw [← hL] at hcl
  have hcall := fun A c W (h : II W W.heap.size A (cjM n a l)) => i_groupOf A L c n (cjM n a l) W W.heap.size hcl.symm h0 (by omega) (Nat.le_refl _) (fun k hk => by rw [hcr k hk]; omega) h
  have hcm : cjM n a l = ((memL n l).map (cjL a)) := rfl
  have htk : ((memL n l).map (cjL a)).take L = (memL n l).map (cjL a) := List.take_of_length_le (by simp [hml'])
  rw [hcm] at hcall hcl ⊢
  have hcj := fun b (h : InR n b) => ha.cj hn h
  have hcon := fun A A' c c' b W (hb : InR n b) h h' => i_conjugate A A' n c c' a b W hn hn6 ha hb h h'
  obtain ⟨i1, hi1, hy0, hy1, hy2⟩ := info_parts infoSl
  obtain ⟨B1, B2⟩ := two_boxes w 41 41 #[.int .i64 (n : Int), .slice A L c] #[.int .i64 0, .slice none 0 0]
  have hb0 := two_alloc w (.cells #[.int .i64 (n : Int), .slice A L c] 41) (.cells #[.int .i64 0, .slice none 0 0] 41)
  have hz0 : w.heap.size + 2 ≤ ((w.alloc (.cells #[.int .i64 (n : Int), .slice A L c] 41)).alloc (.cells #[.int .i64 0, .slice none 0 0] 41)).heap.size := by simp
  have hs0 := hs.call hb0
  have hsa0 := hsa.call hb0
  obtain ⟨f0, f1, _, _⟩ := B1.two
  generalize memL n l = ll at *
  have HML := Lib.hid hml'
  have HMI := Lib.hid hmi
  have HCJ := Lib.hid hcj
  have HCL := Lib.hid hcl
  clear hcm hL hk hml' hmi hs hsa hcr htk hcl
  go_enter Tryz.func83, Tryz.ntmps83
  go_wp2_with (go_at_call 73; refine (hmem _ hs0).mono ?_; rintro e w2 ⟨Am, cm, vs, rfl, hom, hrm, hb2⟩; rw [HML.out] at hom ⊢)
  have hii := OwnII.ii hom hrm
  have hbw := bel_call hb0 hb2
  have hz2 := hb2.size
  have C1 := B1.below hb2 (by omega)
  have C2 : BK w2 (w.heap.size + 1) 41 #[.int .i64 0, .slice none 0 0] := B2.below hb2 (by omega)
  clear B1 B2
  have hsa2 := hsa0.call hb2
  have hzz : w.heap.size + 2 ≤ w2.heap.size := by omega
  clear hom hrm hb2 hb0 hs0 hsa0 f0 f1 hz0 hz2
  go_loopw [5, 11] (fun u5 u11 wr => ∃ (k : Nat) (vs : List Value), k ≤ L ∧ u11 = .int .i64 k ∧ wr.ownsRow w2.heap.size 30 1 u5 k vs ∧ RowsO wr w2.heap.size vs ((ll.take k).map (cjL a)) ∧ Below w2.heap.size w2 wr) (fun _ u11 _ => L - (intOf u11).toNat)
  case atStart => exact ⟨0, [], Nat.zero_le _, rfl, World.ownsRow_nil _ _ _ _, ⟨rfl, fun i hi => by simp at hi, fun i j _ hj => by simp at hj⟩, Below.refl _ _⟩
  case round =>
    obtain ⟨ws, rfl⟩ : ∃ ws : World, ws = wr := ⟨_, rfl⟩
    obtain ⟨k, vs, hk, rfl, hown, hrows, hb⟩ := hrel
    obtain ⟨A3, c3, rfl, _⟩ := own_slice' hown
    have hsz := hb.size
    by_cases hlt : k < L
    · obtain ⟨b, off, rfl, hbb, hcell⟩ := hii.at (k := k) (by rw [HML.out]; exact hlt)
      obtain ⟨Ab, cb, e1, _, _, his⟩ := hcell k (by rw [HML.out]; exact hlt)
      have e1 := (hb.cell (p := ⟨b, off + k, none⟩) (by show b < _; omega)).trans e1
      have his := (his.below hb).more (show w2.heap.size ≤ ws.heap.size by omega)
      have hR := HMI.out k hlt
      rw [hR.1] at e1
      have hst := take_mapf (ll := ll) (cjL a) (i := k) (by rw [HML.out]; exact hlt)
      have hcon2 := fun W h h' => hcon Aa Ab ca cb (gl ll k) W hR h h'
      have hcR := HCJ.out _ hR
      have hsa3 := hsa2.call hb
      generalize cjL a (gl ll k) = b' at *
      have HST := Lib.hid hst
      have HCR := Lib.hid hcR
      clear hst hcell hR hcR hcall
      go_wp2_with (first
        | (go_at_call 121; refine (hcon2 _ hsa3 his).mono ?_; rintro e w3 ⟨v3, rfl, ho3, hb3⟩; obtain ⟨A4, c4, rfl, _⟩ := own_slice' ho3)
        | (at_builtin; refine wpList_append_src rfl (.tmp 15) (.tmp 19) 60 rfl w2.heap.size 30 i1 (.slice none 0 0) 1 24 Tryz.underlying60 hi1 hy0 hy1 hy2 rfl (by omega) (.slice A3 k c3) k vs rfl (World.ownsRow.alloc (own_below hown hb3) _) (some ⟨w3.heap.size, 0, none⟩) 1 1 [.slice A4 n c4] rfl rfl (one_src w3 _ _) (by intro h; cases h) (by intro u hu; simp at hu; subst hu; rfl) (by simp only [maxLen]; omega) (by omega) (by have := hb3.size; simp; omega) ?_; intro v5 w5 hown5 hg5 hat5))
      have hr5 := row_more (v1 := .slice A4 n c4) (b := b') hg5 hown hrows hsz (by rw [HCR.out.1]; exact ho3) hb3
      have hz3 := hb3.size
      go_roundw
      case rel =>
        refine ⟨k + 1, _, by omega, by go_num, hown5, by rw [HST.out]; exact hr5, ?_⟩
        exact ((hb.trans (hb3.mono hsz)).alloc (by omega) _).grown hg5 (by simp; omega) (fun g hg => by have := (hown.lt g hg).1; omega)
      case measure => simp [intOf]; omega
    · obtain rfl : k = L := by omega
      rw [List.take_of_length_le (by rw [HML.out]; exact Nat.le_refl _)] at hrows
      have hii3 : II ws ws.heap.size A3 (ll.map (cjL a)) := OwnII.ii hown hrows
      have hlt2 : w.heap.size + 1 < w2.heap.size := by omega
      have B1 := C1.below hb (by omega)
      have B2 := C2.below hb hlt2
      have hbw := hbw.trans (hb.mono (by omega))
      generalize ll.map (cjL a) = cm at *
      obtain ⟨f0, f1, _, _⟩ := B1.two
      clear hmem hcon hii hsa2 hrows hown
      go_wp2_with (fail)
      refine (hcall _ _ _ hii3).mono ?_
      rintro e w5 ⟨v5, rfl, ho5, hb5⟩
      obtain ⟨Ar, cr, rfl, _⟩ := own_slice' ho5
      generalize hL : (rkC cm).length = R at *
      have HR := Lib.hid hL
      clear hL f0 f1
      have hz5 := hb5.size
      have hz6 := hb.size
      have B5 := B2.below hb5 (by omega)
      have hbw5 := bel_call hbw hb5
      obtain ⟨f2, f3, fz2, fz3⟩ := B5.two
      go_wp2_with (fail)
      have h5 := (B5.set 0 (.int .i64 (n : Int))).set 1 (.slice Ar R cr)
      have hb9 := (hbw5.setCell (p := ⟨w.heap.size + 1, 0, none⟩) (by simp) (.int .i64 (n : Int))).setCell (p := ⟨w.heap.size + 1, 1, none⟩) (by simp) (.slice Ar R cr)
      have ho9 := ownsRow_setCell_below (ownsRow_setCell_below ho5 (a := ⟨w.heap.size + 1, 0, none⟩) (by simp; omega) (.int .i64 (n : Int))) (a := ⟨w.heap.size + 1, 1, none⟩) (by simp; omega) (.slice Ar R cr)
      generalize ((w5.setCell ⟨w.heap.size + 1, 0, none⟩ (.int .i64 (n : Int))).setCell ⟨w.heap.size + 1, 1, none⟩ (.slice Ar R cr)) = w9 at *
      obtain ⟨d0, d1, _, _⟩ := BK.two (x := .int .i64 (n : Int)) (y := (.slice Ar R cr)) (by simpa using h5)
      (try simp only [Exit.inBlock, Exit.then])
      refine bodyPost_ret (v := .agg #[.int .i64 (n : Int), (.slice Ar R cr)]) (by simp [results, Tryz.results83, go_sem, d0, d1]; try rfl) rfl ?_
      exact ⟨_, rfl, by rw [HR.out]; exact own_mono ho9 (by omega), hb9⟩
end Go.Proofs.YtkiglhaeiomohaaGreat
/- Conjugates of groups, the reference's side. -/
namespace Go.Proofs.YtkiglhaeiomohaaGreat
set_option linter.unusedVariables false
set_option linter.unusedSimpArgs false
open Go.RowKit

/-- The flags of the ranks of the first i permutations. -/
def flS (F : Nat) (ms : List (List Int)) : Nat → List Bool
  | 0 => List.replicate F false
  | i + 1 => (flS F ms i).set (rk (gl ms i)) true
theorem flS_len (F : Nat) (ms : List (List Int)) : ∀ i, (flS F ms i).length = F
  | 0 => by simp [flS]
  | i + 1 => by rw [flS, List.length_set, flS_len F ms i]
theorem flS_mem {F : Nat} {ms : List (List Int)} (h : ∀ k, k < ms.length → rk (gl ms k) < F) : ∀ i, i ≤ ms.length → ∀ r, (flS F ms i).getD r false = true ↔ ∃ k, k < i ∧ rk (gl ms k) = r
  | 0, _, r => by
    constructor
    · intro h
      rw [flS, List.getD_eq_getElem?_getD, List.getElem?_replicate] at h
      split at h <;> simp at h
    · rintro ⟨k, hk, _⟩; omega
  | i + 1, hi, r => by
    have ih := flS_mem h i (by omega) r
    have hlt : rk (gl ms i) < (flS F ms i).length := by rw [flS_len]; exact h i (by omega)
    rw [flS]
    by_cases hx : rk (gl ms i) = r
    · subst hx
      rw [getD_set_self hlt]
      exact ⟨fun _ => ⟨i, by omega, rfl⟩, fun _ => rfl⟩
    · rw [getD_set_ne hx, ih]
      constructor
      · rintro ⟨k, h1, h2⟩; exact ⟨k, by omega, h2⟩
      · rintro ⟨k, h1, h2⟩
        by_cases hk : k = i
        · subst hk; exact absurd h2 hx
        · exact ⟨k, by omega, h2⟩
set_option maxRecDepth 100000 in
set_option maxHeartbeats 4000000 in
theorem s_conjugate (n : Nat) (A Aa : Option Addr) (L c ca : Nat) (l a : List Int) (w : World) (hn : 1 ≤ n) (hn6 : n ≤ 6) (hL : L = l.length) (hl : L ≤ 1000) (hk : InK n l) (ha : InR n a) (hs : IS w w.heap.size A l) (hsa : IS w w.heap.size Aa a) :
    Calls Tryz.prog 63 #[.agg #[.int .i64 n, .slice A L c], .slice Aa n ca] w (GR w.heap.size n (rkC (cjM n a l)) w) := by
  have hmi := fun k (h : k < L) => mem_in hk k (by rw [memL_len, ← hL]; exact h)
  have hml' := memL_len n l
  rw [← hL] at hml'
  have hmem := fun W h => s_elements n A L c l W hn hn6 hL (by omega) hk h
  have hcl := cjM_len n a l
  rw [← hL] at hcl
  have hrkl : ∀ k, k < L → rk (gl (cjM n a l) k) < fact n := fun k h => by
    have h1 := (cjM_in hn ha hk (k := k) (by omega)).1
    have h2 := rk_lt (gl (cjM n a l) k)
    rw [h1] at h2
    exact h2
  have hfin : rkC (cjM n a l) = lsL (flS (fact n) (cjM n a l) L) :=
    ranks_listed (fun r => by
      have h := flS_mem (F := fact n) (ms := cjM n a l) (fun k hk => hrkl k (by omega)) L (by omega) r
      rw [h, hcl])
  have hglk : ∀ k, k < L → gl (cjM n a l) k = prodL a (prodL (gl (memL n l) k) (invL a)) := fun k h => by
    rw [cj_assoc hn ha (hmi k h)]
    unfold cjM
    rw [gl_map (by omega)]
  have hstep : ∀ k, k < L → flS (fact n) (cjM n a l) (k + 1) = (flS (fact n) (cjM n a l) k).set (rk (prodL a (prodL (gl (memL n l) k) (invL a)))) true := fun k h => by
    rw [flS, hglk k h]
  have hrl : ∀ k, k < L → rk (prodL a (prodL (gl (memL n l) k) (invL a))) < fact n := fun k h => by rw [← hglk k h]; exact hrkl k h
  have hinv := fun W h => s_inverse Aa n ca a W hn6 ha h
  have hai := ha.inv hn
  have hp1 := fun b (hb : InR n b) A c A' c' W h h' => s_prod A A' n c n c' b (invL a) W W.heap.size W.heap.size hb.1.symm hai.1.symm (by omega) (by omega) (Nat.le_refl _) (Nat.le_refl _) h h' hai.2
  have hp2 := fun b (hb : InR n b) A' c' W h h' => s_prod Aa A' n ca n c' a (prodL b (invL a)) W W.heap.size W.heap.size ha.1.symm (hb.prod hai).1.symm (by omega) (by omega) (Nat.le_refl _) (Nat.le_refl _) h h' (hb.prod hai).2
  have hprl := fun b (hb : InR n b) => (hb.prod hai).1
  have hprl2 := fun b (hb : InR n b) => (ha.prod (hb.prod hai)).1
  have hF1 := fact_le hn6
  have hfa := fun W => s_factN n W hn6
  have hfl := fun i => flS_len (fact n) (cjM n a l) i
  have hbb0 : ∀ W : World, BB (W.alloc (.cells (madeCells #[.bool false] (fact n)) 4)) W.heap.size (flS (fact n) (cjM n a l) 0) := fun W => BB.new W (fact n)
  rw [hfin]
  generalize flS (fact n) (cjM n a l) = fl at *
  generalize fact n = F at *
  generalize memL n l = ll at *
  have hail := hai.1
  generalize invL a = ai at *
  obtain ⟨hF1, hF2⟩ := hF1
  have hmk := fun W => run_make_row' (P := Tryz.prog) 111 4 (.bool false) 1 Tryz.underlying111 infoBool rfl .i64 .i64 F (by omega) (by omega) W
  obtain ⟨B1, B2⟩ := two_boxes w 41 41 #[.int .i64 (n : Int), .slice A L c] #[.int .i64 0, .slice none 0 0]
  have hb0 := two_alloc w (.cells #[.int .i64 (n : Int), .slice A L c] 41) (.cells #[.int .i64 0, .slice none 0 0] 41)
  have hz0 : ((w.alloc (.cells #[.int .i64 (n : Int), .slice A L c] 41)).alloc (.cells #[.int .i64 0, .slice none 0 0] 41)).heap.size = w.heap.size + 2 := by simp
  have hs0 := hs.call hb0
  have hsa0 := hsa.call hb0
  have B1x : ∀ (W : World), Below ((w.alloc (.cells #[.int .i64 (n : Int), .slice A L c] 41)).alloc (.cells #[.int .i64 0, .slice none 0 0] 41)).heap.size ((w.alloc (.cells #[.int .i64 (n : Int), .slice A L c] 41)).alloc (.cells #[.int .i64 0, .slice none 0 0] 41)) W → BK W w.heap.size 41 #[.int .i64 (n : Int), .slice A L c] ∧ BK W (w.heap.size + 1) 41 #[.int .i64 0, .slice none 0 0] := fun W h => ⟨B1.below h (by omega), B2.below h (by omega)⟩
  have HML := Lib.hid hml'
  have HMI := Lib.hid hmi
  have HST := Lib.hid hstep
  have HRL := Lib.hid hrl
  have HFL := Lib.hid hfl
  have HPL := Lib.hid hprl
  have HPL2 := Lib.hid hprl2
  have HAI := Lib.hid hail
  clear hL hk hml' hmi hs hsa hcl hrkl hfin hglk hstep hrl hfl hprl hprl2 hai hail ha
  obtain ⟨f0, f1, _, _⟩ := B1.two
  clear B1 B2
  go_enter Tryz.func63, Tryz.ntmps63
  go_wp2_with (first
    | (go_at_call 105; refine (hinv _ hsa0).mono ?_; rintro e w2 ⟨v2, rfl, ho2, hb2⟩; obtain ⟨A2, c2, rfl, _⟩ := own_slice' ho2; obtain ⟨f2, f3, _, _⟩ := (B1x _ hb2).1.two)
    | (go_at_call 97; refine (hmem _ (hs0.call hb2)).mono ?_; rintro e w3 ⟨Am, cm, vs, rfl, hom, hrm, hb3⟩; rw [HML.out] at hom ⊢; have hb23 := bel_call hb2 hb3; obtain ⟨f4, f5, _, _⟩ := (B1x _ hb23).1.two)
    | (go_at_call 51; refine (hfa _).mono ?_; rintro e w4 ⟨rfl, nq, rfl⟩))
  have hii := OwnII.ii hom hrm
  have hai2 := own_isn (own_below ho2 hb3) HAI.out.symm
  have hsa2 := hsa0.call hb23
  have hz3 := hb23.size
  have hbb : BB ((w3.drewN nq).alloc (.cells (madeCells #[.bool false] F) 4)) w3.heap.size (fl 0) := hbb0 (w3.drewN nq)
  have hbg := (below_drewN (Below.refl w3.heap.size w3) nq).alloc (Nat.le_refl _) (.cells (madeCells #[.bool false] F) 4)
  have hbw := bel_call hb0 hb23
  rw [hz0] at hz3
  have B2x : ∀ (W : World), Below w3.heap.size w3 W → BK W w.heap.size 41 #[.int .i64 (n : Int), .slice A L c] ∧ BK W (w.heap.size + 1) 41 #[.int .i64 0, .slice none 0 0] := fun W h => B1x W (bel_call hb23 h)
  clear B1x hb0 hs0 hsa0 hom hrm hb2 hb3 hb23 f0 f1 f2 f3 f4 f5 ho2 hmem hfa hmk hinv hbb0 hz0
  go_loopw [8] (fun u8 wr => ∃ k : Nat, k ≤ L ∧ u8 = .int .i64 k ∧ BB wr w3.heap.size (fl k) ∧ Below w3.heap.size w3 wr) (fun u8 _ => L - (intOf u8).toNat)
  case atStart => exact ⟨0, Nat.zero_le _, rfl, hbb, hbg⟩
  case round =>
    clear hbb hbg
    obtain ⟨ws, rfl⟩ : ∃ ws : World, ws = wr := ⟨_, rfl⟩
    obtain ⟨k, hk, rfl, hbb, hb⟩ := hrel
    have hsz := hb.size
    by_cases hlt : k < L
    · obtain ⟨b, off, rfl, hbb2, hcell⟩ := hii.at (k := k) (by rw [HML.out]; exact hlt)
      obtain ⟨Ab, cb, e1, _, _, his⟩ := hcell k (by rw [HML.out]; exact hlt)
      have e1 := (hb.cell (p := ⟨b, off + k, none⟩) (by show b < _; omega)).trans e1
      have his := (his.below hb).more (show w3.heap.size ≤ ws.heap.size by omega)
      have hR := HMI.out k hlt
      rw [hR.1] at e1
      have hst := HST.out k hlt
      have hrl := HRL.out k hlt
      have hq1 := fun A c A' c' W h h' => hp1 _ hR A c A' c' W h h'
      have hq2 := fun A' c' W h h' => hp2 _ hR A' c' W h h'
      have hl1 := HPL.out _ hR
      have hl2 := HPL2.out _ hR
      generalize gl ll k = b' at *
      generalize prodL b' ai = p1 at *
      generalize prodL a p1 = p2 at *
      generalize hrk : rk p2 = r at *
      have hrf : r < (fl k).length := by rw [HFL.out]; exact hrl
      have hset := fun W (h : BB W w3.heap.size (fl k)) => h.set hrf
      rw [← hst] at hset
      have HSET := Lib.hid hset
      have HRK := Lib.hid hrk
      have HL1 := Lib.hid hl1
      have HL2 := Lib.hid hl2
      have hsa3 := hsa2.call hb
      have hai3 := hai2.call hb
      have hcr := fun W h => (BB.cell (w := W) (g := w3.heap.size) (sn := fl k) h hrf)
      generalize hFk : fl (k + 1) = FK at *
      have HFK := Lib.hid hFk
      clear hset hst hrk hl1 hl2 hcell hR hFk hp1 hp2 hrf
      go_wp2_with (first
        | (go_at_call 107; refine (hq2 _ _ _ (hsa3.call hb4) (own_isn ho4 HL1.out.symm)).mono ?_; rintro e w5 ⟨v5, rfl, ho5, hb5⟩; obtain ⟨A5, c5, rfl, _⟩ := own_slice' ho5; have hb45 := bel_call hb4 hb5; obtain ⟨e7, e8⟩ := hcr _ (hbb.below hb45))
        | (go_at_call 107; refine (hq1 _ _ _ _ _ his hai3).mono ?_; rintro e w4 ⟨v4, rfl, ho4, hb4⟩; obtain ⟨A4, c4, rfl, _⟩ := own_slice' ho4)
        | (go_at_call 106; refine (s_rank A5 n c5 p2 _ w5.heap.size HL2.out.symm hn6 (own_isn ho5 HL2.out.symm)).mono ?_; rw [HRK.out]; rintro e w6 ⟨rfl, q6, rfl⟩))
      go_roundw
      case rel => exact ⟨k + 1, by omega, by go_num, by rw [HFK.out]; exact HSET.out _ ((hbb.below hb45).drewN q6), (below_drewN (hb.trans (hb45.mono hsz)) q6).setCell (Nat.le_refl _) _⟩
      case measure => simp [intOf]; omega
    · obtain rfl : k = L := by omega
      have hfk := HFL.out k
      generalize fl k = FK at *
      have HFK := Lib.hid hfk.symm
      obtain ⟨f0, f1, _, _⟩ := (B2x _ hb).1.two
      obtain ⟨f2, f3, fz2, fz3⟩ := (B2x _ hb).2.two
      clear hfk hii hsa2 hai2 hp1 hp2
      go_wp2_with (fail)
      go_region_law
        (first
          | (go_simp; go_at_call 108; refine (s_listed w3.heap.size F F FK ws.drew HFK.out (by omega) hbb).mono ?_; rintro e w5 ⟨v5, rfl, ho5, hb5⟩; obtain ⟨Ar, cr, rfl, _⟩ := own_slice' ho5; have hb5' : Below ws.heap.size ws w5 := Go.Proofs.YtkiglhaeiomohaaGreat.undrew (n := 1) hb5; have hbx := hb.trans (hb5'.mono hsz); obtain ⟨k0, k1, _, _⟩ := (B2x _ hbx).1.two; obtain ⟨k2, k3, kz2, kz3⟩ := (B2x _ hbx).2.two))
      all_goals
        generalize hL : (lsL FK).length = R at *
        have HR := Lib.hid hL
        clear hL
        have B5 := (B2x _ hbx).2
        have hbw5 := bel_call hbw hbx
        have hz5 : ws.heap.size ≤ w5.heap.size := hb5'.size
        go_wp2_with (fail)
        have h5 := (B5.set 0 (.int .i64 (n : Int))).set 1 (.slice Ar R cr)
        have hb9 := (hbw5.setCell (p := ⟨w.heap.size + 1, 0, none⟩) (by simp) (.int .i64 (n : Int))).setCell (p := ⟨w.heap.size + 1, 1, none⟩) (by simp) (.slice Ar R cr)
        have ho5 : w5.ownsRow ws.heap.size 2 1 (.slice Ar R cr) R (ints (lsL FK)) := ho5
        have ho9 := ownsRow_setCell_below (ownsRow_setCell_below ho5 (a := ⟨w.heap.size + 1, 0, none⟩) (by simp; omega) (.int .i64 (n : Int))) (a := ⟨w.heap.size + 1, 1, none⟩) (by simp; omega) (.slice Ar R cr)
        generalize ((w5.setCell ⟨w.heap.size + 1, 0, none⟩ (.int .i64 (n : Int))).setCell ⟨w.heap.size + 1, 1, none⟩ (.slice Ar R cr)) = w9 at *
        obtain ⟨d0, d1, _, _⟩ := BK.two (x := .int .i64 (n : Int)) (y := (.slice Ar R cr)) (by simpa using h5)
        (try simp only [Exit.inBlock, Exit.then])
        refine bodyPost_ret (v := .agg #[.int .i64 (n : Int), (.slice Ar R cr)]) (by simp [results, Tryz.results63, go_sem, d0, d1]; try rfl) rfl ?_
        exact ⟨_, rfl, by rw [HR.out]; exact own_mono ho9 (by omega), hb9⟩
end Go.Proofs.YtkiglhaeiomohaaGreat
/- Flags of a list of ranks, common ranks. -/
namespace Go.Proofs.YtkiglhaeiomohaaGreat
set_option linter.unusedVariables false
set_option linter.unusedSimpArgs false
open Go.RowKit

def fgS (F : Nat) (l : List Int) : Nat → List Bool
  | 0 => List.replicate F false
  | i + 1 => (fgS F l i).set (gt l i).toNat true
theorem fgS_len (F : Nat) (l : List Int) : ∀ i, (fgS F l i).length = F
  | 0 => by simp [fgS]
  | i + 1 => by rw [fgS, List.length_set, fgS_len F l i]
theorem fgS_mem {F : Nat} {l : List Int} (h : ∀ k, k < l.length → 0 ≤ gt l k ∧ gt l k < (F : Int)) : ∀ i, i ≤ l.length → ∀ r : Nat, (fgS F l i).getD r false = true ↔ ∃ k, k < i ∧ gt l k = (r : Int)
  | 0, _, r => by
    constructor
    · intro h
      rw [fgS, List.getD_eq_getElem?_getD, List.getElem?_replicate] at h
      split at h <;> simp at h
    · rintro ⟨k, hk, _⟩; omega
  | i + 1, hi, r => by
    have ih := fgS_mem h i (by omega) r
    obtain ⟨h1, h2⟩ := h i (by omega)
    have hlt : (gt l i).toNat < (fgS F l i).length := by rw [fgS_len]; omega
    rw [fgS]
    by_cases hx : (gt l i).toNat = r
    · subst hx
      rw [getD_set_self hlt]
      exact ⟨fun _ => ⟨i, Nat.lt_succ_self i, (Int.toNat_of_nonneg h1).symm⟩, fun _ => rfl⟩
    · rw [getD_set_ne hx, ih]
      constructor
      · rintro ⟨k, h1, h2⟩; exact ⟨k, by omega, h2⟩
      · rintro ⟨k, h3, h4⟩
        by_cases hk : k = i
        · subst hk; exact absurd (by rw [h4]; exact Int.toNat_natCast r) hx
        · exact ⟨k, by omega, h4⟩
set_option maxRecDepth 10000 in
set_option maxHeartbeats 1000000 in
theorem s_l22Flags (n : Nat) (A : Option Addr) (L c : Nat) (l : List Int) (w : World) (hn6 : n ≤ 6) (hL : L = l.length) (hl : L ≤ 1000) (hk : InK n l) (hs : IS w w.heap.size A l) :
    Calls Tryz.prog 115 #[.int .i64 n, .slice A L c] w (fun e w' => ∃ g, e = .returned (.slice (some ⟨g, 0, none⟩) (fact n) (fact n)) ∧ BB w' g (fgS (fact n) l L) ∧ w.heap.size ≤ g ∧ Below w.heap.size w w') := by
  have hF1 := fact_le hn6
  have hfa := fun W => s_factN n W hn6
  have hfl := fgS_len (fact n) l
  have hbb0 : ∀ W : World, BB (W.alloc (.cells (madeCells #[.bool false] (fact n)) 4)) W.heap.size (fgS (fact n) l 0) := fun W => BB.new W (fact n)
  have hst : ∀ k, fgS (fact n) l (k + 1) = (fgS (fact n) l k).set (gt l k).toNat true := fun k => rfl
  have hkk : ∀ k, k < L → 0 ≤ gt l k ∧ gt l k < (fact n : Nat) := fun k h => hk k (by omega)
  generalize fgS (fact n) l = fl at *
  generalize fact n = F at *
  obtain ⟨hF1, hF2⟩ := hF1
  have hmk := fun W => run_make_row' (P := Tryz.prog) 111 4 (.bool false) 1 Tryz.underlying111 infoBool rfl .i64 .i64 F (by omega) (by omega) W
  have HFL := Lib.hid hfl
  have HST := Lib.hid hst
  have HK := Lib.hid hkk
  have HL := Lib.hid hL
  clear hfl hst hkk hk hL
  go_enter Tryz.func115, Tryz.ntmps115
  go_wp2_with (go_at_call 51; refine (hfa _).mono ?_; rintro e w4 ⟨rfl, nq, rfl⟩)
  have hbb : BB ((w.drewN nq).alloc (.cells (madeCells #[.bool false] F) 4)) w.heap.size (fl 0) := hbb0 (w.drewN nq)
  have hbg := (below_drewN (Below.refl w.heap.size w) nq).alloc (Nat.le_refl _) (.cells (madeCells #[.bool false] F) 4)
  clear hbb0 hmk hfa
  go_loopw [6] (fun u6 wr => ∃ k : Nat, k ≤ L ∧ u6 = .int .i64 k ∧ BB wr w.heap.size (fl k) ∧ Below w.heap.size w wr) (fun u6 _ => L - (intOf u6).toNat)
  case atStart => exact ⟨0, Nat.zero_le _, rfl, hbb, hbg⟩
  case round =>
    clear hbb hbg
    obtain ⟨ws, rfl⟩ : ∃ ws : World, ws = wr := ⟨_, rfl⟩
    obtain ⟨k, hk, rfl, hbb, hb⟩ := hrel
    by_cases hlt : k < L
    · obtain ⟨b, off, rfl, hb2, hcell⟩ := IS.at hs (k := k) (by rw [← HL.out]; exact hlt)
      have hin := (hb.cell (p := ⟨b, off + k, none⟩) hb2).trans (hcell k (by rw [← HL.out]; exact hlt))
      obtain ⟨r, hr⟩ : ∃ r : Nat, gt l k = r := ⟨(gt l k).toNat, by have := (HK.out k hlt).1; omega⟩
      have hrF : r < F := by have := (HK.out k hlt).2; omega
      have hst := HST.out k
      rw [hr] at hin hst
      rw [Int.toNat_natCast] at hst
      have hrl : r < (fl k).length := by rw [HFL.out]; exact hrF
      obtain ⟨e1, e2⟩ := hbb.cell hrl
      have hset := hbb.set hrl
      rw [← hst] at hset
      have HSET := Lib.hid hset
      generalize hFk : fl (k + 1) = FK at *
      have HFK := Lib.hid hFk
      clear hset hst hrl hFk hr hcell
      go_wp2_with (go_quiet (fail))
      go_roundw
      case rel => exact ⟨k + 1, by omega, by go_num, by rw [HFK.out]; exact HSET.out, hb.setCell (Nat.le_refl _) _⟩
      case measure => simp [intOf]; omega
    · obtain rfl : k = L := by omega
      go_wp2_with (fail)
      go_ret
      exact ⟨_, rfl, hbb, Nat.le_refl _, hb⟩
def cmL (fl : List Bool) (l : List Int) : List Int := l.filter fun x => fl.getD x.toNat false
theorem cmL_yes {fl : List Bool} {l : List Int} {k : Nat} (h : k < l.length) (hf : fl.getD (gt l k).toNat false = true) : cmL fl (l.take (k + 1)) = cmL fl (l.take k) ++ [gt l k] := by
  unfold cmL
  rw [List.take_succ_eq_append_getElem h, List.filter_append]
  have e : gt l k = l[k] := by simp [gt, List.getElem?_eq_getElem h]
  rw [e] at hf ⊢
  simp only [List.filter_cons, List.filter_nil, hf, if_true]
theorem cmL_no {fl : List Bool} {l : List Int} {k : Nat} (h : k < l.length) (hf : fl.getD (gt l k).toNat false = false) : cmL fl (l.take (k + 1)) = cmL fl (l.take k) := by
  unfold cmL
  rw [List.take_succ_eq_append_getElem h, List.filter_append]
  have e : gt l k = l[k] := by simp [gt, List.getElem?_eq_getElem h]
  rw [e] at hf
  simp only [List.filter_cons, List.filter_nil, hf, Bool.false_eq_true, if_false, List.append_nil]
theorem cmL_le (fl : List Bool) (l : List Int) : (cmL fl l).length ≤ l.length := List.length_filter_le _ _
set_option maxRecDepth 10000 in
set_option maxHeartbeats 2000000 in
theorem s_l22Common (n : Nat) (A A' : Option Addr) (L c L' c' : Nat) (l l' : List Int) (w : World) (hn6 : n ≤ 6) (hL : L = l.length) (hl : L ≤ 1000) (hL' : L' = l'.length) (hl' : L' ≤ 1000) (hk : InK n l) (hk' : InK n l') (hs : IS w w.heap.size A l) (hs' : IS w w.heap.size A' l') :
    Calls Tryz.prog 90 #[.int .i64 n, .slice A L c, .slice A' L' c'] w (MI w.heap.size (cmL (fgS (fact n) l' L') l).length (cmL (fgS (fact n) l' L') l) w) := by
  have hflg := fun W h => s_l22Flags n A' L' c' l' W hn6 hL' hl' hk' h
  have hfl := fgS_len (fact n) l' L'
  have hkk : ∀ k, k < L → 0 ≤ gt l k ∧ gt l k < (fact n : Nat) := fun k h => hk k (by omega)
  generalize fgS (fact n) l' L' = fl at *
  generalize fact n = F at *
  obtain ⟨i0, hi, hz0, hz1, hz2⟩ := info_parts infoI64
  have HFL := Lib.hid hfl
  have HK := Lib.hid hkk
  have HL := Lib.hid hL
  clear hfl hkk hk hk' hL hL'
  go_enter Tryz.func90, Tryz.ntmps90
  go_wp2_with (go_at_call 115; refine (hflg _ hs').mono ?_; rintro e w2 ⟨g, rfl, hbb, hg, hb2⟩)
  have hs2 := hs.call hb2
  have hz2' := hb2.size
  have hlit := World.ownsRow_lit (base := w2.heap.size) (e := 2) (size := 1) w2 #[] 0 (Nat.le_refl _) (by simp [maxLen]) rfl
  have hb0 := (Below.refl w2.heap.size w2).alloc (Nat.le_refl _) (.cells #[] 2)
  clear hs hs' hflg
  go_loopw [8, 9] (fun u8 u9 wr => ∃ k m : Nat, k ≤ L ∧ m ≤ k ∧ u9 = .int .i64 k ∧ wr.ownsRow w2.heap.size 2 1 u8 m (ints (cmL fl (l.take k))) ∧ Hid (m = (cmL fl (l.take k)).length) ∧ Below w2.heap.size w2 wr) (fun _ u9 _ => L - (intOf u9).toNat)
  case atStart => exact ⟨0, 0, Nat.zero_le _, Nat.le_refl _, rfl, hlit, rfl, hb0⟩
  case round =>
    clear hlit hb0
    obtain ⟨ws, rfl⟩ : ∃ ws : World, ws = wr := ⟨_, rfl⟩
    obtain ⟨k, m, hk, hm, rfl, hown, HM, hb⟩ := hrel
    obtain ⟨A3, c3, rfl, _⟩ := own_slice' hown
    have hsz := hb.size
    by_cases hlt : k < L
    · obtain ⟨b, off, rfl, hbb2, hcell⟩ := IS.at hs2 (k := k) (by rw [← HL.out]; exact hlt)
      have hin := (hb.cell (p := ⟨b, off + k, none⟩) hbb2).trans (hcell k (by rw [← HL.out]; exact hlt))
      obtain ⟨r, hr⟩ : ∃ r : Nat, gt l k = r := ⟨(gt l k).toNat, by have := (HK.out k hlt).1; omega⟩
      have hrF : r < F := by have := (HK.out k hlt).2; omega
      have hrl : r < fl.length := by rw [HFL.out]; exact hrF
      obtain ⟨e1, _⟩ := (hbb.below hb).cell hrl
      have hy := cmL_yes (fl := fl) (l := l) (k := k) (by rw [← HL.out]; exact hlt)
      have hno := cmL_no (fl := fl) (l := l) (k := k) (by rw [← HL.out]; exact hlt)
      rw [hr] at hin hy hno
      rw [Int.toNat_natCast] at hy hno
      clear hcell hr hrl
      cases hf : fl.getD r false
      · have HNO := Lib.hid (hno hf)
        rw [hf] at e1
        clear hy hno hf
        go_wp2_with (go_quiet (fail))
        go_roundw
        case rel => exact ⟨k + 1, m, by omega, by omega, by go_num, by rw [HNO.out]; exact hown, by unfold Hid; rw [HNO.out]; exact HM.out, hb⟩
        case measure => simp [intOf]; omega
      · have HY := Lib.hid (hy hf)
        rw [hf] at e1
        clear hy hno hf
        go_wp2_with (first
          | (at_builtin; refine wpList_append_src rfl (.tmp 27) (.tmp 32) 30 rfl w2.heap.size 2 i0 (.int .i64 0) 1 8 Tryz.underlying30 hi hz0 hz1 hz2 rfl (by omega) (.slice A3 m c3) m (ints (cmL fl (l.take k))) rfl (World.ownsRow.alloc hown _) (some ⟨ws.heap.size, 0, none⟩) 1 1 [.int .i64 (r : Int)] rfl rfl (one_src ws _ _) (by intro h; cases h) (by intro u hu; simp at hu; subst hu; rfl) (by simp only [maxLen]; omega) (by omega) (by simp; omega) ?_; intro v7 w7 hown7 hg7 hat7)
          | go_quiet (fail))
        go_roundw
        case rel => exact ⟨k + 1, m + 1, by omega, by omega, by go_num, by rw [HY.out, ints_snoc]; exact hown7, by unfold Hid; rw [HY.out, List.length_append, HM.out]; rfl, (hb.alloc hsz _).grown hg7 (by simp; omega) (fun g hg => (hown.lt g hg).1)⟩
        case measure => simp [intOf]; omega
    · obtain rfl : k = L := by omega
      rw [List.take_of_length_le (by rw [← HL.out]; exact Nat.le_refl _)] at hown HM
      go_wp2_with (fail)
      go_ret
      exact ⟨_, rfl, by rw [← HM.out]; exact own_mono hown (by omega), bel_call hb2 hb⟩
end Go.Proofs.YtkiglhaeiomohaaGreat
