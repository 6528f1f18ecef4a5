/- Several parts of the proof in one text; each part says what it shows. Nothing is assumed. -/
import Derived.Test.YtglijcdnnaekkaaGreatA201
import Derived.Test.YtglijcdnnaekkaaGreatA173
import Derived.Test.YtglijcdnnaekkaaGreatA174
import Derived.BigQuiet
import Derived.StillTailTactics
/- Blocks: the reference's joining of classes. -/
namespace Go.Proofs.YtglijcdnnaekkaaGreat
set_option linter.unusedVariables false
set_option linter.unusedSimpArgs false
open Go.RowKit

def jF (X Y z : Int) : Int := if z = Y then X else z
def jS (X Y : Int) (c : List Int) (i : Nat) : List Int := (c.take i).map (jF X Y) ++ c.drop i
theorem jS_len (X Y : Int) (c : List Int) (i : Nat) : (jS X Y c i).length = c.length := by simp [jS]; omega
theorem jS_zero (X Y : Int) (c : List Int) : jS X Y c 0 = c := by simp [jS]
theorem jS_all (X Y : Int) (c : List Int) : jS X Y c c.length = c.map (jF X Y) := by simp [jS]
theorem jS_at {X Y : Int} {c : List Int} {i : Nat} (h : i < c.length) : gt (jS X Y c i) i = gt c i := by
  simp [gt, jS, List.getElem?_append, h, Nat.min_eq_left (Nat.le_of_lt h)]
theorem jS_succ {X Y : Int} {c : List Int} {i : Nat} (h : i < c.length) : jS X Y c (i + 1) = (jS X Y c i).set i (jF X Y (gt c i)) := by
  have h1 : c.drop i = gt c i :: c.drop (i + 1) := by rw [List.drop_eq_getElem_cons h, gt_eq h]
  unfold jS
  rw [h1, List.take_succ_eq_append_getElem h, List.map_append, List.set_append_right _ _ (by simp [Nat.min_eq_left (Nat.le_of_lt h)])]
  simp [Nat.min_eq_left (Nat.le_of_lt h), gt_eq h]
  rw [List.drop_eq_getElem_cons h, List.set_cons_zero]
theorem jS_yes {X Y : Int} {c : List Int} {i : Nat} (h : i < c.length) (e : gt c i = Y) : jS X Y c (i + 1) = (jS X Y c i).set i X := by
  rw [jS_succ h, jF, if_pos e]
theorem jS_no {X Y : Int} {c : List Int} {i : Nat} (h : i < c.length) (e : ¬ gt c i = Y) : jS X Y c (i + 1) = jS X Y c i := by
  rw [jS_succ h, jF, if_neg e]
  have h2 := jS_at (X := X) (Y := Y) h
  rw [gt_eq (by rw [jS_len]; exact h)] at h2
  rw [← h2, List.set_getElem_self]
theorem ints_set (l : List Int) (i : Nat) (x : Int) : (ints l).set i (.int .i64 x) = ints (l.set i x) := by simp [ints, List.map_set]
theorem joinL_jF (c : List Int) (a b : Nat) : joinL c a b = c.map (jF (min (gt c a) (gt c b)) (max (gt c a) (gt c b))) := rfl
set_option maxRecDepth 10000 in
set_option maxHeartbeats 2000000 in
theorem s_l23Join (A : Option Addr) (n ca a b : Nat) (c : List Int) (w : World) (hn6 : n ≤ 6) (hc : InR n c) (ha : a < n) (hb : b < n) (hs : IS w w.heap.size A c) :
    Calls Tryz.prog 143 #[.slice A n ca, .int .i64 a, .int .i64 b] w (MI w.heap.size n (joinL c a b) w) := by
  obtain ⟨bk, off, rfl, hbk, hcell⟩ := hs.at (k := a) (by rw [hc.1]; exact ha)
  have e1 := hcell a (by rw [hc.1]; exact ha)
  have e2 := hcell b (by rw [hc.1]; exact hb)
  have hown := fun q => s_l01Own ⟨bk, off, none⟩ n ca c (w.drewN q) hc.1.symm (by omega) (fun j u hj => by
    have hjl : j < c.length := by
      have := (List.getElem?_eq_some_iff.1 hj).1
      simpa [ints] using this
    have h2 := hcell j hjl
    have h3 : u = .int .i64 (gt c j) := by
      simp [ints, hjl] at hj
      rw [gt_eq hjl]; exact hj.symm
    rw [h3, Go.WideShapes.add_plain]
    exact h2) (fun j => by rw [Go.WideShapes.add_plain]; exact hbk)
  rw [joinL_jF]
  generalize hX : min (gt c a) (gt c b) = X at *
  generalize hY : max (gt c a) (gt c b) = Y at *
  have hmn : min (gt c a) (gt c b) = X := hX
  have hmx : max (gt c a) (gt c b) = Y := hY
  generalize gt c a = ga at *
  generalize gt c b = gb at *
  have HN := Lib.hid hc.1.symm
  clear hcell hc hs
  go_enter Tryz.func143, Tryz.ntmps143
  go_wp2_with (go_quiet (fail))
  refine (hown _).mono ?_
  rintro e w2 ⟨v2, rfl, ho2, hb2⟩
  have hb2 := undrew hb2
  obtain ⟨A2, c2, rfl, _⟩ := own_slice' ho2
  obtain ⟨g2, rfl, hg2, _, _⟩ := own_src ho2 (by omega)
  have hg2 : w.heap.size ≤ g2 := hg2
  have ho2 := own_mono (base' := w.heap.size) ho2 (Nat.le_refl _)
  have hzs := jS_zero X Y c
  have hal := jS_all X Y c
  have hln := jS_len X Y c
  rw [← HN.out] at hal
  have hat := fun i (h : i < n) => jS_at (X := X) (Y := Y) (c := c) (i := i) (by rw [← HN.out]; exact h)
  have hye := fun i (h : i < n) => jS_yes (X := X) (Y := Y) (c := c) (i := i) (by rw [← HN.out]; exact h)
  have hno := fun i (h : i < n) => jS_no (X := X) (Y := Y) (c := c) (i := i) (by rw [← HN.out]; exact h)
  generalize jS X Y c = js at *
  have HAL := Lib.hid hal
  have HLN := Lib.hid hln
  have HAT := Lib.hid hat
  have HYE := Lib.hid hye
  have HNO := Lib.hid hno
  have HZS := Lib.hid hzs
  clear hal hln hat hye hno hzs e1 e2 hown hmn hmx hX hY
  go_wp2_with (fail)
  go_loopw [10] (fun u10 wr => ∃ i : Nat, i ≤ n ∧ u10 = .int .i64 i ∧ wr.ownsRow w.heap.size 2 1 (.slice (some ⟨g2, 0, none⟩) n c2) n (ints (js i)) ∧ w2.grownBy wr (some g2)) (fun u10 _ => n - (intOf u10).toNat)
  case atStart => exact ⟨0, Nat.zero_le _, rfl, by rw [HZS.out]; exact ho2, World.grownBy.refl _ _⟩
  case round =>
    clear ho2
    obtain ⟨ws, rfl⟩ : ∃ ws : World, ws = wr := ⟨_, rfl⟩
    obtain ⟨i, hi, rfl, ho, hg⟩ := hrel
    by_cases hlt : i < n
    · obtain ⟨g', e', _, _, hc⟩ := own_src ho (by omega)
      injection e' with e'
      injection e' with e'
      subst e'
      have hat := HAT.out i hlt
      have hcell := hc i _ (ints_at (l := js i) (by rw [HLN.out, ← HN.out]; exact hlt))
      rw [hat] at hcell
      have hfr := ho.frozenAt i
      have hst := ho.stored i (.int .i64 X)
      rw [ints_set] at hst
      have hye := HYE.out i hlt
      have hno := HNO.out i hlt
      generalize gt c i = z at *
      by_cases hzy : z = Y
      · rw [← hye hzy] at hst
        have HST := Lib.hid hst
        subst hzy
        clear hst hc hat hye hno
        have ht : (z == z) = true := by simp
        go_wp2_with (fail)
        go_roundw
        case rel => exact ⟨i + 1, by omega, by go_num, HST.out.1, grown_trans hg HST.out.2⟩
        case measure => simp [intOf]; omega
      · have e5 := hno hzy
        have ht : (z == Y) = false := by rw [beq_eq_false_iff_ne]; exact hzy
        have HST := Lib.hid e5
        clear hst hc hat hye hno hzy e5
        go_wp2_with (fail)
        go_roundw
        case rel => exact ⟨i + 1, by omega, by go_num, by rw [HST.out]; exact ho, hg⟩
        case measure => simp [intOf]; omega
    · obtain rfl : i = n := by omega
      rw [HAL.out] at ho
      generalize hF : c.map (jF X Y) = F at *
      have HF := Lib.hid hF
      clear hF
      go_wp2_with (fail)
      go_ret
      exact ⟨_, rfl, ho, hb2.grown hg hb2.size (fun x hx => by injection hx with hx; omega)⟩
end Go.Proofs.YtglijcdnnaekkaaGreat
/- Blocks: the reference's smallest block with some points. -/
namespace Go.Proofs.YtglijcdnnaekkaaGreat
set_option linter.unusedVariables false
set_option linter.unusedSimpArgs false
open Go.RowKit

/-- What the cells of a slice hold, added up: a measure. -/
def cellN (w : World) (v : Value) (k : Nat) : Nat := match v with
  | .slice (some a) _ _ => match w.cell? (a.add k) with
    | some (.int .i64 x) => x.toNat
    | _ => 0
  | _ => 0
def smW (w : World) (v : Value) : Nat → Nat
  | 0 => 0
  | k + 1 => smW w v k + cellN w v k
theorem sm_own {w : World} {base n : Nat} {v : Value} {c : List Int} (ho : w.ownsRow base 2 1 v n (ints c)) (hn : n = c.length) : ∀ k, k ≤ n → smW w v k = smL c k
  | 0, _ => rfl
  | k + 1, hk => by
    rw [smW, smL, sm_own ho hn k (by omega)]
    obtain ⟨A, cap, rfl, _⟩ := own_slice' ho
    obtain ⟨g, rfl, _, _, hc⟩ := own_src ho (by omega)
    have h1 := hc k _ (ints_at (l := c) (by omega))
    simp only [cellN, Go.WideShapes.add_plain, Nat.zero_add, h1]
    rfl
/-- The points are together. -/
def Tog (pts : List Nat) (c : List Int) (i : Nat) : Prop := ∀ j, j < i → ap c (pts.getD j 0) = ap c (pts.getD 0 0)
theorem Tog.join {n : Nat} {pts : List Nat} {c : List Int} {i a b : Nat} (h : Tog pts c i) (hc : InR n c) (ha : a < n) (hb : b < n) (hp : ∀ j, pts.getD j 0 < n) : Tog pts (joinL c a b) i := fun j hj =>
  join_tog hc ha hb (hp j) (hp 0) (h j hj)
theorem Tog.next {n : Nat} {pts : List Nat} {c : List Int} {i : Nat} (h : Tog pts c i) (hc : InR n c) (hp : ∀ j, pts.getD j 0 < n) : Tog pts (joinL c (pts.getD 0 0) (pts.getD i 0)) (i + 1) := fun j hj => by
  by_cases hji : j = i
  · subst hji; exact (join_ab hc (hp 0) (hp j)).symm
  · exact join_tog hc (hp 0) (hp i) (hp j) (hp 0) (h j (by omega))
/-- The points below p of the class of x. -/
def clP (cl : List Int) (x p : Nat) : List Nat := (List.range p).filter fun q => ap cl q == ap cl x
theorem clP_yes {cl : List Int} {x p : Nat} (h : ap cl p = ap cl x) : tJ (clP cl x (p + 1)) = tJ (clP cl x p) ++ [(p : Int)] := by
  unfold clP
  rw [List.range_succ, List.filter_append]
  simp [tJ, h]
theorem clP_no {cl : List Int} {x p : Nat} (h : ¬ ap cl p = ap cl x) : tJ (clP cl x (p + 1)) = tJ (clP cl x p) := by
  unfold clP
  rw [List.range_succ, List.filter_append]
  simp [tJ, h]
theorem clP_len (cl : List Int) (x p : Nat) : (tJ (clP cl x p)).length ≤ p := by
  rw [tJ_len]
  unfold clP
  refine Nat.le_trans (List.length_filter_le _ _) ?_
  simp
theorem s_ownRow (A : Option Addr) (n c base : Nat) (l : List Int) (w : World) (ho : w.ownsRow base 2 1 (.slice A n c) n (ints l)) (hn : n = l.length) (h0 : 0 < n) (hl : n ≤ 1048576) : Calls Tryz.prog 119 #[.slice A n c] w (MI w.heap.size n l w) := by
  obtain ⟨g, rfl, _, hg, hc⟩ := own_src ho h0
  exact s_l01Own ⟨g, 0, none⟩ n c l w hn hl (fun j u hj => by rw [Go.WideShapes.add_plain, Nat.zero_add]; exact hc j u hj) (fun j => by rw [Go.WideShapes.add_plain]; exact hg)
theorem gt_tJ {pts : List Nat} {j : Nat} : gt (tJ pts) j = ((pts.getD j 0 : Nat) : Int) := by
  unfold tJ gt
  by_cases h : j < pts.length
  · simp [List.getElem?_eq_getElem h]
  · simp [List.getElem?_eq_none (Nat.le_of_not_lt h)]
/-- So far no pair had to be joined. -/
def Pr (n : Nat) (ll : List (List Int)) (c : List Int) (i p : Nat) : Prop := (∀ k, k < i → ∀ q, q < n → ap c (ap (gl ll k) q) = ap c (ap (gl ll k) (ap c q))) ∧ ∀ q, q < p → ap c (ap (gl ll i) q) = ap c (ap (gl ll i) (ap c q))
theorem Pr.next {n : Nat} {ll : List (List Int)} {c : List Int} {i : Nat} (h : Pr n ll c i n) : Pr n ll c (i + 1) 0 := by
  refine ⟨fun k hk q hq => ?_, fun q hq => by omega⟩
  by_cases hki : k = i
  · subst hki; exact h.2 q hq
  · exact h.1 k (by omega) q hq
theorem Pr.all {n : Nat} {ll : List (List Int)} {c : List Int} (h : Pr n ll c ll.length 0) : Cong n ll c := fun a ha p hp => by
  obtain ⟨k, hk, rfl⟩ := mem_gl.1 ha
  exact h.1 k hk p hp
/-- A step of the joining. -/
theorem Pr.step {n : Nat} {ll : List (List Int)} {pts : List Nat} {c bef : List Int} {i p : Nat} (hG : PG n ll) (ht : ∀ j, j < n → ∃ a ∈ ll, ap a 0 = j) (hC : Cls n ll pts c) (hbef : InR n bef) (hi : i < ll.length) (hp : p < n) (hle : LeC n c bef) (h : c = bef → Pr n ll c i p) :
    Cls n ll pts (joinL c (ap (gl ll i) p) (ap (gl ll i) (ap c p))) ∧ LeC n (joinL c (ap (gl ll i) p) (ap (gl ll i) (ap c p))) bef ∧ (joinL c (ap (gl ll i) p) (ap (gl ll i) (ap c p)) = bef → Pr n ll (joinL c (ap (gl ll i) p) (ap (gl ll i) (ap c p))) i (p + 1)) := by
  have hm := gl_mem hi
  have ha := hG.lt hm hp
  have hb := hG.lt hm (hC.lt hp)
  refine ⟨hC.join hG ht ha hb fun B hB hpt => rel_map hG hm hp (hC.lt hp) (hC.low B hB hpt p hp), fun q hq => Nat.le_trans (join_le hC.inr ha hb hq) (hle q hq), fun e => ?_⟩
  have e2 : joinL c (ap (gl ll i) p) (ap (gl ll i) (ap c p)) = c := le_anti (join_in hC.inr ha hb) hC.inr (fun q hq => join_le hC.inr ha hb hq) (by rw [e]; exact hle)
  have hfix := join_fix hC ha hb e2
  have h2 := h (e2.symm.trans e)
  rw [e2]
  refine ⟨h2.1, fun q hq => ?_⟩
  by_cases hqp : q = p
  · subst hqp; exact hfix
  · exact h2.2 q (by omega)
set_option maxRecDepth 20000 in
set_option maxHeartbeats 4000000 in
theorem s_l23Block (n : Nat) (A Ap : Option Addr) (L c m cp : Nat) (l : List Int) (pts : List Nat) (w : World) (hn : 1 ≤ n) (hn6 : n ≤ 6) (hL : L = l.length) (h0 : 0 < L) (hl : L ≤ 1000) (hk : InK n l) (hG : PG n (memL n l)) (ht : ∀ j, j < n → ∃ a ∈ memL n l, ap a 0 = j)
    (hs : IS w w.heap.size A l) (hm : m = pts.length) (hm0 : 0 < m) (hm6 : m ≤ 6) (hpn : ∀ j, pts.getD j 0 < n) (hsp : IS w w.heap.size Ap (tJ pts)) (x0 : Nat) (hx0e : x0 = pts.getD 0 0) :
    Calls Tryz.prog 75 #[.agg #[.int .i64 n, .slice A L c], .slice Ap m cp] w (fun e w' => ∃ cl, Cls n (memL n l) pts cl ∧ Cong n (memL n l) cl ∧ Tog pts cl m ∧ MI w.heap.size (tJ (clsN n cl x0)).length (tJ (clsN n cl x0)) w e w') := by
  have HX0E := Lib.hid hx0e
  clear hx0e
  have hmb := fun W h => s_elements n A L c l W hn hn6 hL (by omega) hk h
  have hmi := mem_InR hk hL
  have hml := memL_len n l
  rw [← hL] at hml
  generalize memL n l = ll at *
  have hx0 : pts.getD 0 0 ∈ pts := by
    have h1 : 0 < pts.length := by omega
    simp [List.getElem?_eq_getElem h1]
  have hst := Cls.start n (ms := ll) (pts := pts) hG ht hx0 (hpn 0)
  have B1 := BK.new w 26 #[.int .i64 (n : Int), .slice A L c]
  obtain ⟨c0, c1, _, _⟩ := B1.two
  have hb0 := (Below.refl w.heap.size w).alloc (Nat.le_refl _) (.cells #[.int .i64 (n : Int), .slice A L c] 26)
  have hs0 := hs.call hb0
  have hB1 := fun W (h : Below (w.alloc (.cells #[.int .i64 (n : Int), .slice A L c] 26)).heap.size (w.alloc (.cells #[.int .i64 (n : Int), .slice A L c] 26)) W) => (B1.below h (by simp)).two
  have hpc : ∀ j, j < m → ∃ b off, Ap = some ⟨b, off, none⟩ ∧ b < w.heap.size ∧ ∀ j, j < m → w.cell? ⟨b, off + j, none⟩ = some (.int .i64 ((pts.getD j 0 : Nat) : Int)) := fun j hj => by
    obtain ⟨b, off, h1, h2, h3⟩ := hsp.at (k := j) (by rw [tJ_len]; omega)
    exact ⟨b, off, h1, h2, fun j hj => by rw [h3 j (by rw [tJ_len]; omega), gt_tJ]⟩
  obtain ⟨bp, op, rfl, hbp, hpc⟩ := hpc 0 hm0
  have hone := fun W => s_one n W (by omega)
  have hjn := fun A ca a b cl W h1 h2 h3 h => s_l23Join A n ca a b cl W hn6 h1 h2 h3 h
  have HPN := Lib.hid hpn
  have HPC := Lib.hid hpc
  have HMI := Lib.hid hmi
  have HML := Lib.hid hml
  have HM := Lib.hid hm
  have HX0 := Lib.hid hx0
  clear hmi hml hL hk hs B1 hm hpc hsp hpn hx0
  go_enter Tryz.func75, Tryz.ntmps75
  go_wp2_with (go_at_call 142; refine (hone _).mono ?_; rintro e w2 ⟨v2, rfl, ho2, hb2⟩; obtain ⟨d0, d1, _, _⟩ := hB1 _ hb2)
  refine (hmb _ (hs0.call hb2)).mono ?_
  rintro e w3 ⟨A3, c3, vs, rfl, ho3, hr3, hb3⟩
  rw [HML.out] at ho3 ⊢
  have hii := OwnII.ii ho3 hr3
  have o2 := own_below ho2 hb3
  have b3 := bel_call hb2 hb3
  generalize w.alloc (.cells #[.int .i64 (n : Int), .slice A L c] 26) = w1 at *
  have o2 := own_mono (base' := w1.heap.size) o2 (Nat.le_refl _)
  clear ho2 ho3 hr3 hb2 hb3 c0 c1 d0 d1 hone hmb
  go_wp2_with (fail)
  go_loopw [5, 7] (fun u5 u7 wr => ∃ (i : Nat) (cl : List Int), 1 ≤ i ∧ i ≤ m ∧ u7 = .int .i64 i ∧ wr.ownsRow w1.heap.size 2 1 u5 n (ints cl) ∧ Hid (Cls n ll pts cl) ∧ Hid (Tog pts cl i) ∧ Below w3.heap.size w3 wr) (fun _ u7 _ => m - (intOf u7).toNat)
  case atStart => exact ⟨1, _, Nat.le_refl _, hm0, rfl, o2, hst, fun j hj => by rw [show j = 0 by omega], Below.refl _ _⟩
  case round =>
    clear o2 hst
    obtain ⟨ws, rfl⟩ : ∃ ws : World, ws = wr := ⟨_, rfl⟩
    obtain ⟨i, cl, hi1, him, rfl, o5, HC, HT, hb⟩ := hrel
    obtain ⟨A5, c5, rfl, _⟩ := own_slice' o5
    have hsz := hb.size
    have hb03 := hb0.size
    have hb3z := b3.size
    by_cases hlt : i < m
    · have hbs : Below w.heap.size w ws := bel_call (bel_call hb0 b3) hb
      have e1 := (hbs.cell (p := ⟨bp, op + i, none⟩) hbp).trans (HPC.out i hlt)
      have e0 := (hbs.cell (p := ⟨bp, op + 0, none⟩) hbp).trans (HPC.out 0 hm0)
      rw [Nat.add_zero] at e0
      have hj := fun W h => hjn A5 c5 (pts.getD 0 0) (pts.getD i 0) cl W HC.out.inr (HPN.out 0) (HPN.out i) h
      have hn2 := HC.out.join hG ht (HPN.out 0) (HPN.out i) (fun B hB hpt => by
        have hB1 : ∀ j, j < m → pts.getD j 0 ∈ B := fun j hj => hpt _ (by
          have h1 : j < pts.length := by rw [← HM.out]; exact hj
          simp [List.getElem?_eq_getElem h1])
        obtain ⟨e, he, hid⟩ := hG.one
        exact ⟨e, he, by rw [hid _ (HPN.out 0)]; exact hB1 0 hm0, by rw [hid _ (HPN.out i)]; exact hB1 i hlt⟩)
      have HN2 := Lib.hid hn2
      have HT2 := Lib.hid (HT.out.next HC.out.inr HPN.out)
      have hcn := HC.out.inr.1.symm
      have his := own_isn o5 hcn
      generalize joinL cl (pts.getD 0 0) (pts.getD i 0) = cl2 at *
      generalize pts.getD i 0 = x at *
      generalize pts.getD 0 0 = x0 at *
      clear hn2 hcn
      go_wp2_with (fail)
      go_region_law
        (go_simp; first
          | (go_at_call 143; refine (hj ws.drew his).mono ?_; rintro e w6 ⟨v6, rfl, ho6, hb6⟩))
      all_goals
        have hb6 := undrew (n := 1) hb6
        have o6 := own_mono (base' := w1.heap.size) ho6 (by show w1.heap.size ≤ ws.heap.size; omega)
        go_wp2_with (fail)
        go_roundw
        case rel => exact ⟨i + 1, cl2, by omega, by omega, by go_num, o6, HN2.out, HT2.out, bel_call hb hb6⟩
        case measure => simp [intOf]; omega
    · obtain rfl : i = m := by omega
      have hii := hii.callG hb
      have bw1 := bel_call b3 hb
      have e0 := ((bel_call hb0 bw1).cell (p := ⟨bp, op + 0, none⟩) hbp).trans (HPC.out 0 hm0)
      have hbpw : bp < ws.heap.size := by omega
      rw [Nat.add_zero] at e0
      clear hb HPC hs0
      go_wp2_with (fail)
      go_loopw [5] (fun u5 wr => ∃ cl : List Int, wr.ownsRow w1.heap.size 2 1 u5 n (ints cl) ∧ Hid (Cls n ll pts cl) ∧ Hid (Tog pts cl i) ∧ Below ws.heap.size ws wr) (fun u5 wr => smW wr u5 n)
      case atStart => exact ⟨cl, o5, HC, HT, Below.refl _ _⟩
      case round =>
        clear o5 HC HT
        obtain ⟨wq, rfl⟩ : ∃ wq : World, wq = wr := ⟨_, rfl⟩
        obtain ⟨bef, o5, HC, HT, hb⟩ := hrel
        obtain ⟨A5, c5, rfl, _⟩ := own_slice' o5
        have hown := s_ownRow A5 n c5 _ bef wq o5 HC.out.inr.1.symm (by omega) (by omega)
        have hSM := Lib.hid (sm_own o5 HC.out.inr.1.symm n (Nat.le_refl _))
        go_wp2_with (fail)
        refine hown.mono ?_
        rintro e w7 ⟨v7, rfl, o7, hb7⟩
        obtain ⟨A7, c7, rfl, _⟩ := own_slice' o7
        have o57 := own_below o5 hb7
        have b7 := bel_call hb hb7
        clear hown o5
        go_wp2_with (fail)
        go_loopw [5, 9] (fun u5 u9 wr => ∃ (k : Nat) (cl : List Int), k ≤ L ∧ u9 = .int .i64 k ∧ wr.ownsRow w1.heap.size 2 1 u5 n (ints cl) ∧ Hid (Cls n ll pts cl) ∧ Hid (Tog pts cl i) ∧ Hid (LeC n cl bef) ∧ Hid (cl = bef → Pr n ll cl k 0) ∧ Below w7.heap.size w7 wr) (fun _ u9 _ => L - (intOf u9).toNat)
        case atStart => exact ⟨0, bef, Nat.zero_le _, rfl, o57, HC, HT, fun q hq => Nat.le_refl _, fun _ => ⟨fun k hk => by omega, fun q hq => by omega⟩, Below.refl _ _⟩
        case round =>
          clear o57
          obtain ⟨wv, rfl⟩ : ∃ wv : World, wv = wr := ⟨_, rfl⟩
          obtain ⟨k, cl, hk, rfl, o5, HC2, HT2, HLE, HPR, hb8⟩ := hrel
          by_cases hlt : k < L
          · go_wp2_with (fail)
            go_loopw [5, 10] (fun u5 u10 wr => ∃ (p : Nat) (cl : List Int), p ≤ n ∧ u10 = .int .i64 p ∧ wr.ownsRow w1.heap.size 2 1 u5 n (ints cl) ∧ Hid (Cls n ll pts cl) ∧ Hid (Tog pts cl i) ∧ Hid (LeC n cl bef) ∧ Hid (cl = bef → Pr n ll cl k p) ∧ Below wv.heap.size wv wr) (fun _ u10 _ => n - (intOf u10).toNat)
            case atStart => exact ⟨0, cl, Nat.zero_le _, rfl, o5, HC2, HT2, HLE, HPR, Below.refl _ _⟩
            case round =>
              clear o5 HC2 HT2 HLE HPR
              obtain ⟨wx, rfl⟩ : ∃ wx : World, wx = wr := ⟨_, rfl⟩
              obtain ⟨p, cl, hp, rfl, o5, HC2, HT2, HLE, HPR, hb9⟩ := hrel
              have bx := bel_call (bel_call b7 hb8) hb9
              obtain ⟨d0, d1, _, _⟩ := hB1 _ (bel_call bw1 bx)
              have hzx := bx.size
              by_cases hpt : p < n
              · obtain ⟨A9, c9, rfl, _⟩ := own_slice' o5
                have hkl : k < ll.length := by rw [HML.out]; exact hlt
                have hR := HMI.out k hlt
                have hyn := HC2.out.lt hpt
                have hgr := ap_gt hR hpt
                have hgc := ap_gt HC2.out.inr hpt
                have hgy := ap_gt hR hyn
                obtain ⟨b, off, rfl, hbb, hcell⟩ := hii.at hkl
                obtain ⟨Ac, cc, e1, _, _, his⟩ := hcell k hkl
                have e1 := (bx.cell (p := ⟨b, off + k, none⟩) hbb).trans e1
                rw [hR.1] at e1
                obtain ⟨b3, off3, rfl, hbb3, hcell3⟩ := his.at (k := p) (by rw [hR.1]; exact hpt)
                have e2 := (bx.cell (p := ⟨b3, off3 + p, none⟩) hbb3).trans (hcell3 p (by rw [hR.1]; exact hpt))
                have e3 := (bx.cell (p := ⟨b3, off3 + ap cl p, none⟩) hbb3).trans (hcell3 (ap cl p) (by rw [hR.1]; exact hyn))
                obtain ⟨g5, rfl, _, hg5, hc5⟩ := own_src o5 (by omega)
                have e4 := hc5 p _ (ints_at (l := cl) (by rw [HC2.out.inr.1]; exact hpt))
                rw [hgr.1] at e2
                rw [hgy.1] at e3
                rw [hgc.1] at e4
                have hj := fun W h => hjn (some ⟨g5, 0, none⟩) c9 (ap (gl ll k) p) (ap (gl ll k) (ap cl p)) cl W HC2.out.inr hgr.2 hgy.2 h
                obtain ⟨n1, n2, n3⟩ := Pr.step hG ht HC2.out HC.out.inr hkl hpt HLE.out HPR.out
                have HT3 := Lib.hid (HT2.out.join HC2.out.inr hgr.2 hgy.2 HPN.out)
                have HN1 := Lib.hid n1
                have HN2 := Lib.hid n2
                have HN3 := Lib.hid n3
                have hisc := own_isn o5 HC2.out.inr.1.symm
                have hx1 := hgr.2
                have hx2 := hgy.2
                generalize joinL cl (ap (gl ll k) p) (ap (gl ll k) (ap cl p)) = cl2 at *
                generalize ap (gl ll k) (ap cl p) = x2 at *
                generalize ap cl p = y at *
                generalize ap (gl ll k) p = x1 at *
                clear n1 n2 n3 hgr hgc hgy hcell hcell3 hc5 his hR hkl HLE HPR HC2 HT2
                go_wp2_with (fail)
                go_still_tail 18, (by kernel_rfl)
                change wpList _ _ _ _ _ wx.drew
                go_wp2_with (go_at_call 143; refine (hj wx.drew hisc).mono ?_; rintro e w10 ⟨v10, rfl, ho10, hb10⟩)
                have hb10 := undrew (n := 1) hb10
                have o10 := own_mono (base' := w1.heap.size) ho10 (by show w1.heap.size ≤ wx.heap.size; have := bw1.size; omega)
                go_roundw
                case rel => exact ⟨p + 1, cl2, by omega, by go_num, o10, HN1, HT3, HN2, HN3, bel_call hb9 hb10⟩
                case measure => simp [intOf]; omega
              · obtain rfl : p = n := by omega
                go_wp2_with (fail)
                go_roundw
                case rel => exact ⟨k + 1, cl, by omega, by go_num, o5, HC2, HT2, HLE, fun e => (HPR.out e).next, bel_call hb8 hb9⟩
                case measure => simp [intOf]; omega
          · obtain rfl : k = L := by omega
            obtain ⟨A9, c9, rfl, _⟩ := own_slice' o5
            have bx := bel_call b7 hb8
            have o7x := own_below o7 hb8
            have hsa := s_same A7 A9 n c7 n c9 bef cl wv wv.heap.size wv.heap.size HC.out.inr.1.symm HC2.out.inr.1.symm (by omega) (by omega) (own_isn o7x HC.out.inr.1.symm) (own_isn o5 HC2.out.inr.1.symm)
            by_cases he : bef = cl
            · rw [decide_eq_true he] at hsa
              subst he
              have hcong : Cong n ll bef := (HPR.out rfl : Pr n ll bef k 0) |> fun h => Pr.all (by rw [HML.out]; exact h)
              have HCG := Lib.hid hcong
              have hcn := HC2.out.inr
              have hx0 := HPN.out 0
              rw [← HX0E.out] at hx0 e0
              have hgt := fun p (h : p < n) => (ap_gt hcn h).1
              have hltn := fun p (h : p < n) => HC2.out.lt h
              have hcl := hcn.1
              have hstart : clP bef x0 0 = [] := rfl
              have hyes := fun p h => clP_yes (cl := bef) (x := x0) (p := p) h
              have hno := fun p h => clP_no (cl := bef) (x := x0) (p := p) h
              have hln := fun p => clP_len bef x0 p
              have hfin : clsN n bef x0 = clP bef x0 n := rfl
              have HPOST := Lib.hid (show ∀ e w', MI w.heap.size (tJ (clP bef x0 n)).length (tJ (clP bef x0 n)) w e w' → ∃ cl, Cls n ll pts cl ∧ Cong n ll cl ∧ Tog pts cl i ∧ MI w.heap.size (tJ (clsN n cl x0)).length (tJ (clsN n cl x0)) w e w' from fun e w' h => ⟨bef, HC2.out, hcong, HT2.out, h⟩)
              obtain ⟨i0, hi, hz0, hz1, hz2⟩ := info_parts infoI64
              obtain ⟨g9, rfl, _, hg9, hc9⟩ := own_src o5 (by omega)
              have hc9 : ∀ p, p < n → wv.cell? ⟨g9, p, none⟩ = some (.int .i64 ((ap bef p : Nat) : Int)) := fun p hp => by
                rw [hc9 p _ (ints_at (l := bef) (by rw [hcl]; exact hp)), hgt p hp]
              have bv := bel_call (bel_call hb0 bw1) bx
              have hbv : Below w.heap.size w (wv.drewN 0) := bv
              have e0 := (bx.cell (p := ⟨bp, op, none⟩) hbpw).trans e0
              have hbc : ∀ W, Below wv.heap.size wv W → Below w1.heap.size w1 W := fun W h => bel_call (bel_call bw1 bx) h
              have HC9 := Lib.hid hc9
              have HYES := Lib.hid hyes
              have HNO := Lib.hid hno
              have HLN := Lib.hid hln
              generalize clP bef x0 = cp at *
              have e5 := hc9 x0 hx0
              generalize hax : ap bef x0 = ax at *
              clear hcong hcn hgt hltn hcl hfin hyes hno hln hc9 hb7 hb8 hb HPR HLE o7x o7 HC2 HC HT HT2 hSM hax o5
              go_wp2_with (fail)
              refine hsa.mono ?_
              rintro e w8 ⟨rfl, q8, rfl⟩
              have hzb := bx.size
              have hoe := World.ownsRow_lit (base := (wv.drewN q8).heap.size) (e := 2) (size := 1) (wv.drewN q8) #[] 0 (Nat.le_refl _) (by simp [maxLen]) rfl
              have hbe : Below wv.heap.size wv ((wv.drewN q8).alloc (.cells #[] 2)) := (below_drewN (Below.refl _ _) q8).alloc (Nat.le_refl _) _
              go_wp2_with (fail)
              go_loopw [11, 12] (fun u11 u12 wr => ∃ p : Nat, p ≤ n ∧ u12 = .int .i64 p ∧ wr.ownsRow wv.heap.size 2 1 u11 (tJ (cp p)).length (ints (tJ (cp p))) ∧ Below wv.heap.size wv wr) (fun _ u12 _ => n - (intOf u12).toNat)
              case atStart => exact ⟨0, Nat.zero_le _, rfl, by rw [hstart]; exact hoe, hbe⟩
              case round =>
                clear hoe hbe
                obtain ⟨wy, rfl⟩ : ∃ wy : World, wy = wr := ⟨_, rfl⟩
                obtain ⟨p, hp, rfl, o11, hb11⟩ := hrel
                obtain ⟨A11, c11, rfl, _⟩ := own_slice' o11
                obtain ⟨d0, d1, _, _⟩ := hB1 _ (hbc _ hb11)
                have hsy := hb11.size
                by_cases hpt : p < n
                · have f0 := (hb11.cell (p := ⟨bp, op, none⟩) (by show bp < _; omega)).trans e0
                  have f1 := (hb11.cell (p := ⟨g9, p, none⟩) hg9).trans (HC9.out p hpt)
                  have f2 := (hb11.cell (p := ⟨g9, x0, none⟩) hg9).trans e5
                  have hyes := HYES.out p
                  have hno := HNO.out p
                  have hln := HLN.out p
                  generalize ap bef p = y at *
                  by_cases hyx : y = ax
                  · have ht : ((y : Int) == (ax : Int)) = true := by rw [beq_iff_eq]; omega
                    have HY := Lib.hid (hyes hyx)
                    generalize tJ (cp p) = tp at *
                    clear hyes hno hyx
                    generalize hT : tp.length = T at *
                    have HT := Lib.hid hT.symm
                    clear hT
                    go_wp2_with (fail)
                    go_quiet (fail)
                    go_wp2_with (at_builtin; refine wpList_append_src rfl (.tmp 87) (.tmp 89) 24 rfl wv.heap.size 2 i0 (.int .i64 0) 1 8 Tryz.underlying24 hi hz0 hz1 hz2 rfl (by omega) (.slice A11 T c11) T (ints tp) rfl (World.ownsRow.alloc o11 _) (some ⟨wy.heap.size, 0, none⟩) 1 1 [.int .i64 (p : Int)] rfl rfl (one_src_dr wy _ _ _) (by intro h; cases h) (by intro u hu; simp at hu; subst hu; rfl) (by simp only [maxLen]; omega) (by omega) (by simp; omega) ?_; intro v12 w12 hown12 hg12 hat12)
                    go_roundw
                    case rel => exact ⟨p + 1, by omega, by go_num, by rw [HY.out, ints_snoc, List.length_append, ← HT.out]; exact hown12, ((below_drewN hb11 _).alloc hsy _).grown hg12 (by simp; omega) (fun g hg => (o11.lt g hg).1)⟩
                    case measure => simp [intOf]; omega
                  · have ht : ((y : Int) == (ax : Int)) = false := by rw [beq_eq_false_iff_ne]; omega
                    have HY := Lib.hid (hno hyx)
                    clear hyes hno hyx
                    go_wp2_with (fail)
                    go_quiet (fail)
                    go_wp2_with (fail)
                    go_roundw
                    case rel => exact ⟨p + 1, by omega, by go_num, by rw [HY.out]; exact o11, below_drewN hb11 _⟩
                    case measure => simp [intOf]; omega
                · obtain rfl : p = n := by omega
                  go_wp2_with (fail)
                  go_ret
                  exact HPOST.out _ _ ⟨_, rfl, own_mono o11 (by omega), bv.trans (hb11.mono (by omega))⟩
            · rw [decide_eq_false he] at hsa
              have hlt := sm_lt HC2.out.inr HC.out.inr HLE.out (fun h => he h.symm)
              have h1 := sm_own o5 HC2.out.inr.1.symm n (Nat.le_refl _)
              have h2 := hSM.out
              clear he
              go_wp2_with (fail)
              refine hsa.mono ?_
              rintro e w8 ⟨rfl, q8, rfl⟩
              go_wp2_with (fail)
              go_roundw
              case rel => exact ⟨cl, o5, HC2, HT2, below_drewN (bel_call hb (bel_call hb7 hb8)) _⟩
              case measure => rw [sm_own (own_dr o5 q8) HC2.out.inr.1.symm n (Nat.le_refl _), h2]; exact hlt
end Go.Proofs.YtglijcdnnaekkaaGreat
