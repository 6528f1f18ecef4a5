/- Several parts of the proof in one text; each part says what it shows. Nothing is assumed. -/
import Derived.Test.YtglijcdnnaekkaaGreatA173
import Derived.Test.YtglijcdnnaekkaaGreatA174
import Derived.Test.YtglijcdnnaekkaaGreatA133
/- Groups of permutations of up to six points, as plain facts: each permutation is one-to-one, products and inverses lie in the group; a group without holes moves 0 to each point. -/
namespace Go.Proofs.YtglijcdnnaekkaaGreat
set_option linter.unusedVariables false
set_option linter.unusedSimpArgs false

def dsB : List Int → Bool
  | [] => true
  | x :: l => !(l.contains x) && dsB l
theorem ds_nd : ∀ {l : List Int}, dsB l = true → l.Nodup
  | [], _ => List.nodup_nil
  | x :: l, h => by
    unfold dsB at h
    rw [Bool.and_eq_true, Bool.not_eq_true'] at h
    refine List.nodup_cons.2 ⟨fun hm => ?_, ds_nd h.2⟩
    rw [List.contains_iff_mem.2 hm] at h
    exact absurd h.1 (by decide)
theorem gt_eq {l : List Int} {i : Nat} (h : i < l.length) : gt l i = l[i] := by simp [gt, List.getElem?_eq_getElem h]
theorem nd_inj {l : List Int} (h : l.Nodup) {i j : Nat} (hi : i < l.length) (hj : j < l.length) (e : gt l i = gt l j) : i = j := by
  rw [gt_eq hi, gt_eq hj] at e
  exact (List.getElem_inj h).1 e
theorem inj_nd {l : List Int} (h : ∀ i j, i < l.length → j < l.length → gt l i = gt l j → i = j) : l.Nodup := by
  unfold List.Nodup
  rw [List.pairwise_iff_getElem]
  intro i j hi hj hij e
  have := h i j hi hj (by rw [gt_eq hi, gt_eq hj]; exact e)
  omega
def allP (n : Nat) (q : List Int → Bool) : Nat → List Int → Bool
  | 0, a => q a
  | k + 1, a => (List.range n).all fun x => a.contains (x : Int) || allP n q k (a ++ [(x : Int)])
theorem allP_t {n : Nat} {q : List Int → Bool} : ∀ (k : Nat) (a b : List Int), allP n q k a = true → b.length = k → (∀ x ∈ b, 0 ≤ x ∧ x < (n : Int)) → (a ++ b).Nodup → q (a ++ b) = true
  | 0, a, b, h, hl, _, _ => by
    obtain rfl : b = [] := List.length_eq_zero_iff.1 hl
    simpa [allP] using h
  | k + 1, a, b, h, hl, hr, hd => by
    cases b with
    | nil => simp at hl
    | cons x b =>
      obtain ⟨h0, h1⟩ := hr x (by simp)
      unfold allP at h
      rw [List.all_eq_true] at h
      have h2 := h x.toNat (List.mem_range.2 (by omega))
      rw [Int.toNat_of_nonneg h0] at h2
      have hx : a.contains x = false := by
        rw [Bool.eq_false_iff]
        intro hc
        have hc : x ∈ a := List.contains_iff_mem.1 hc
        rw [List.nodup_append] at hd
        exact hd.2.2 x hc x (by simp) rfl
      rw [hx, Bool.false_or] at h2
      have h3 := allP_t k (a ++ [x]) b h2 (by simpa using hl) (fun y hy => hr y (by simp [hy])) (by simpa using hd)
      simpa using h3
def rkOk (n : Nat) (a : List Int) : Bool := Nat.blt (rk a) (fact n) && decide (wrL n (rk a) = a)
theorem rk_ok6 : ∀ n : Fin 7, allP n (rkOk n) n [] = true := by decide +kernel
theorem wr_ds6 : ∀ n : Fin 7, ((List.range (fact n)).all fun r => dsB (wrL n r) && Nat.beq (rk (wrL n r)) r) = true := by decide +kernel
theorem wr_one6 : ∀ n : Fin 7, wrL n 0 = idL n := by decide +kernel
theorem wr_rk {n : Nat} {a : List Int} (hn : n ≤ 6) (ha : InR n a) (hd : a.Nodup) : wrL n (rk a) = a ∧ rk a < fact n := by
  have h := allP_t (q := rkOk n) n [] a (rk_ok6 ⟨n, by omega⟩) ha.1 (fun x hx => by
    obtain ⟨k, hk, e⟩ := List.mem_iff_getElem.1 hx
    have := ha.2 k (by rw [← ha.1]; exact hk)
    rw [gt_eq hk, e] at this
    exact this) (by simpa using hd)
  rw [List.nil_append] at h
  unfold rkOk at h
  rw [Bool.and_eq_true] at h
  exact ⟨of_decide_eq_true h.2, by simpa using h.1⟩
theorem wr_nd {n r : Nat} (hn : n ≤ 6) (hr : r < fact n) : (wrL n r).Nodup ∧ rk (wrL n r) = r := by
  have h := wr_ds6 ⟨n, by omega⟩
  rw [List.all_eq_true] at h
  have h2 := h r (List.mem_range.2 hr)
  rw [Bool.and_eq_true] at h2
  exact ⟨ds_nd h2.1, Nat.eq_of_beq_eq_true h2.2⟩
theorem wr_one {n : Nat} (hn : n ≤ 6) : wrL n 0 = idL n := wr_one6 ⟨n, by omega⟩
theorem nodup_sub_len : ∀ {S T : List Int}, S.Nodup → (∀ x ∈ S, x ∈ T) → S.length ≤ T.length
  | [], _, _, _ => Nat.zero_le _
  | x :: S, T, hd, hs => by
    obtain ⟨h1, h2⟩ := List.nodup_cons.1 hd
    have hx := hs x (by simp)
    have h3 := nodup_sub_len (S := S) (T := T.erase x) h2 (fun y hy => (List.mem_erase_of_ne (fun e => h1 (by rw [← e]; exact hy))).2 (hs y (by simp [hy])))
    rw [List.length_erase_of_mem hx] at h3
    have h4 := List.length_pos_of_mem hx
    simp only [List.length_cons]
    omega
/-- Strictly rising lists of one length, one within the other. -/
theorem rise_sub_eq {S T : List Int} (hS : S.Nodup) (hT : T.Nodup) (hs : ∀ x ∈ S, x ∈ T) (hl : T.length ≤ S.length) : ∀ x ∈ T, x ∈ S := fun x hx => by
  apply Classical.byContradiction
  intro hn
  have := nodup_sub_len (S := x :: S) (T := T) (List.nodup_cons.2 ⟨hn, hS⟩) (fun y hy => by
    rcases List.mem_cons.1 hy with rfl | h
    · exact hx
    · exact hs y h)
  simp only [List.length_cons] at this
  omega
/-- Where a permutation takes a point. -/
def ap (a : List Int) (i : Nat) : Nat := (gt a i).toNat
theorem ap_gt {n : Nat} {a : List Int} (ha : InR n a) {i : Nat} (hi : i < n) : gt a i = (ap a i : Int) ∧ ap a i < n := by
  obtain ⟨h1, h2⟩ := ha.2 i hi
  unfold ap
  omega
theorem ap_prod {n : Nat} {a b : List Int} (hb : InR n b) {i : Nat} (hi : i < n) : ap (prodL a b) i = ap a (ap b i) := by
  unfold ap
  rw [gt_prod (by rw [hb.1]; exact hi)]
theorem ap_id {n i : Nat} (hi : i < n) : ap (idL n) i = i := by
  unfold ap idL
  rw [gt_eq (by simpa using hi)]
  simp
structure PG (n : Nat) (ms : List (List Int)) : Prop where
  inr : ∀ a ∈ ms, InR n a
  inj : ∀ a ∈ ms, ∀ i j, i < n → j < n → ap a i = ap a j → i = j
  one : ∃ e ∈ ms, ∀ i, i < n → ap e i = i
  mul : ∀ a ∈ ms, ∀ b ∈ ms, ∃ c ∈ ms, ∀ i, i < n → ap c i = ap a (ap b i)
  inv : ∀ a ∈ ms, ∃ b ∈ ms, ∀ i, i < n → ap b (ap a i) = i ∧ ap a (ap b i) = i
theorem PG.lt {n : Nat} {ms : List (List Int)} (h : PG n ms) {a : List Int} (ha : a ∈ ms) {i : Nat} (hi : i < n) : ap a i < n := (ap_gt (h.inr a ha) hi).2
theorem mem_memL {n : Nat} {l : List Int} {a : List Int} : a ∈ memL n l ↔ ∃ x ∈ l, wrL n x.toNat = a := by
  unfold memL
  rw [List.mem_map]
theorem inr_inj {n : Nat} {a : List Int} (ha : InR n a) (hd : a.Nodup) : ∀ i j, i < n → j < n → ap a i = ap a j → i = j := fun i j hi hj e => by
  refine nd_inj hd (by rw [ha.1]; exact hi) (by rw [ha.1]; exact hj) ?_
  rw [(ap_gt ha hi).1, (ap_gt ha hj).1, e]
theorem prod_nd {n : Nat} {a b : List Int} (ha : InR n a) (hb : InR n b) (da : a.Nodup) (db : b.Nodup) : (prodL a b).Nodup := by
  have hp := ha.prod hb
  refine inj_nd fun i j hi hj e => ?_
  rw [hp.1] at hi hj
  refine inr_inj hb db i j hi hj (inr_inj ha da _ _ (ap_gt hb hi).2 (ap_gt hb hj).2 ?_)
  rw [← ap_prod hb hi, ← ap_prod hb hj]
  unfold ap
  rw [e]
theorem pg_of {n : Nat} {l : List Int} (h : grpB n l = true) : PG n (memL n l) := by
  obtain ⟨n', hn, h1, h2, h3, h4, hk⟩ := grpB_t h
  obtain rfl : n = n' := by omega
  unfold grpB at h
  simp only [Bool.and_eq_true, decide_eq_true_eq] at h
  obtain ⟨_, _, g2, g3, g4⟩ := h
  rw [Int.toNat_natCast] at g3 g4
  have hpw := rise_pw (riseB_p g3)
  have hx : ∀ x ∈ l, ∃ r : Nat, x = r ∧ r < fact n := fun x hx => by
    obtain ⟨k, hk', e⟩ := List.mem_iff_getElem.1 hx
    have := hk k hk'
    rw [gt_eq hk', e] at this
    exact ⟨x.toNat, by omega, by omega⟩
  have hin : ∀ a ∈ memL n l, InR n a ∧ a.Nodup := fun a ha => by
    obtain ⟨x, hx', rfl⟩ := mem_memL.1 ha
    obtain ⟨r, rfl, hr⟩ := hx x hx'
    rw [Int.toNat_natCast]
    exact ⟨wrL_in hr, (wr_nd h2 hr).1⟩
  have hclo : ∀ a ∈ memL n l, ∀ b ∈ memL n l, ((rk (prodL a b) : Nat) : Int) ∈ l := fun a ha b hb => by
    unfold cloB at g4
    rw [List.all_eq_true] at g4
    have h6 := g4 a ha
    unfold cloR at h6
    rw [Bool.not_eq_true', List.any_eq_false] at h6
    have h7 := h6 b hb
    simpa using h7
  have hmul : ∀ a ∈ memL n l, ∀ b ∈ memL n l, prodL a b ∈ memL n l := fun a ha b hb => by
    refine mem_memL.2 ⟨_, hclo a ha b hb, ?_⟩
    rw [Int.toNat_natCast]
    exact (wr_rk h2 ((hin a ha).1.prod (hin b hb).1) (prod_nd (hin a ha).1 (hin b hb).1 (hin a ha).2 (hin b hb).2)).1
  have h0 : (0 : Int) ∈ l := by rw [← g2]; exact gt_mem h3
  have hone : idL n ∈ memL n l := mem_memL.2 ⟨0, h0, wr_one h2⟩
  have hinj : ∀ a ∈ memL n l, ∀ i j, i < n → j < n → ap a i = ap a j → i = j := fun a ha => inr_inj (hin a ha).1 (hin a ha).2
  refine ⟨fun a ha => (hin a ha).1, hinj, ⟨_, hone, fun i hi => ap_id hi⟩, fun a ha b hb => ⟨_, hmul a ha b hb, fun i hi => ap_prod (hin b hb).1 hi⟩, fun a ha => ?_⟩
  have hf : (l.map fun x => ((rk (prodL a (wrL n x.toNat)) : Nat) : Int)).Nodup := by
    unfold List.Nodup
    rw [List.pairwise_map]
    refine hpw.imp_of_mem fun {x y} hx1 hy1 hlt e => ?_
    obtain ⟨r, rfl, hr⟩ := hx x hx1
    obtain ⟨s, rfl, hs⟩ := hx y hy1
    rw [Int.toNat_natCast, Int.toNat_natCast] at e
    have e : rk (prodL a (wrL n r)) = rk (prodL a (wrL n s)) := by omega
    have p1 := wr_rk h2 ((hin a ha).1.prod (wrL_in hr)) (prod_nd (hin a ha).1 (wrL_in hr) (hin a ha).2 (wr_nd h2 hr).1)
    have p2 := wr_rk h2 ((hin a ha).1.prod (wrL_in hs)) (prod_nd (hin a ha).1 (wrL_in hs) (hin a ha).2 (wr_nd h2 hs).1)
    have e2 : prodL a (wrL n r) = prodL a (wrL n s) := by rw [← p1.1, ← p2.1, e]
    have e3 : wrL n r = wrL n s := by
      refine gt_ext (by rw [(wrL_in hr).1, (wrL_in hs).1]) fun i hi => ?_
      rw [(wrL_in hr).1] at hi
      have e4 : ap a (ap (wrL n r) i) = ap a (ap (wrL n s) i) := by rw [← ap_prod (wrL_in hr) hi, ← ap_prod (wrL_in hs) hi, e2]
      have e5 := hinj a ha _ _ (ap_gt (wrL_in hr) hi).2 (ap_gt (wrL_in hs) hi).2 e4
      rw [(ap_gt (wrL_in hr) hi).1, (ap_gt (wrL_in hs) hi).1, e5]
    have e6 : r = s := by rw [← (wr_nd h2 hr).2, ← (wr_nd h2 hs).2, e3]
    omega
  have hsub : ∀ y ∈ (l.map fun x => ((rk (prodL a (wrL n x.toNat)) : Nat) : Int)), y ∈ l := fun y hy => by
    obtain ⟨x, hx1, rfl⟩ := List.mem_map.1 hy
    exact hclo a ha _ (mem_memL.2 ⟨x, hx1, rfl⟩)
  have hall := rise_sub_eq hf (hpw.imp fun h => by omega) hsub (by simp)
  obtain ⟨x, hx1, e⟩ := List.mem_map.1 (hall 0 h0)
  obtain ⟨r, rfl, hr⟩ := hx x hx1
  rw [Int.toNat_natCast] at e
  have p1 := wr_rk h2 ((hin a ha).1.prod (wrL_in hr)) (prod_nd (hin a ha).1 (wrL_in hr) (hin a ha).2 (wr_nd h2 hr).1)
  have e0 : rk (prodL a (wrL n r)) = 0 := by omega
  rw [e0, wr_one h2] at p1
  have hri : ∀ i, i < n → ap a (ap (wrL n r) i) = i := fun i hi => by rw [← ap_prod (wrL_in hr) hi, ← p1.1, ap_id hi]
  refine ⟨_, mem_memL.2 ⟨(r : Int), hx1, by rw [Int.toNat_natCast]⟩, fun i hi => ⟨?_, hri i hi⟩⟩
  have hai := (ap_gt (hin a ha).1 hi).2
  exact hinj a ha _ _ (ap_gt (wrL_in hr) hai).2 hi (hri _ hai)
/-- A transitive group takes 0 to each point. -/
theorem orL_all {n : Nat} {l : List Int} (h1 : 1 ≤ n) (hk : InK n l) (ht : (orL n l 0).length = n) : ∀ j, j < n → ∃ a ∈ memL n l, ap a 0 = j := fun j hj => by
  have hor : (orL n l 0).Nodup ∧ ∀ x, x ∈ orL n l 0 ↔ x ∈ imL n l 0 := by
    obtain ⟨h3, h4⟩ := sorted_compact (imL n l 0)
    exact ⟨h3.imp fun h => by omega, h4⟩
  have hmem : ∀ a ∈ memL n l, InR n a := fun a ha => by
    obtain ⟨k, hk', e⟩ := mem_gl.1 ha
    rw [← e]
    exact mem_in hk k hk'
  have hs : ∀ x ∈ orL n l 0, x ∈ idL n := fun x hx => by
    have := (hor.2 x).1 hx
    unfold imL at this
    obtain ⟨a, ha, rfl⟩ := List.mem_map.1 this
    rw [(ap_gt (hmem a ha) (by omega : 0 < n)).1]
    exact List.mem_map.2 ⟨_, List.mem_range.2 (ap_gt (hmem a ha) (by omega : 0 < n)).2, rfl⟩
  have hid : (idL n).Nodup := by
    refine inj_nd fun i k hi hk e => ?_
    rw [idL_len] at hi hk
    rw [(ap_gt (idL_in n) hi).1, (ap_gt (idL_in n) hk).1, ap_id hi, ap_id hk] at e
    omega
  have h5 := rise_sub_eq hor.1 hid hs (by rw [idL_len, ht]; exact Nat.le_refl _) (j : Int) (List.mem_map.2 ⟨j, List.mem_range.2 hj, rfl⟩)
  have h6 := (hor.2 _).1 h5
  unfold imL at h6
  obtain ⟨a, ha, e⟩ := List.mem_map.1 h6
  exact ⟨a, ha, by unfold ap; rw [e]; simp⟩
end Go.Proofs.YtglijcdnnaekkaaGreat
/- Blocks of a group: the classes that joining leaves are a block, the smallest one with some points. -/
namespace Go.Proofs.YtglijcdnnaekkaaGreat
set_option linter.unusedVariables false
set_option linter.unusedSimpArgs false

/-- A permutation that takes a point of B into B takes all of B there. -/
def BlkP (ms : List (List Int)) (B : List Nat) : Prop := ∀ a ∈ ms, (∃ x ∈ B, ap a x ∈ B) → ∀ y ∈ B, ap a y ∈ B
def Rel (ms : List (List Int)) (B : List Nat) (p q : Nat) : Prop := ∃ a ∈ ms, ap a p ∈ B ∧ ap a q ∈ B
section
variable {n : Nat} {ms : List (List Int)} {B : List Nat}
theorem rel_symm {p q : Nat} : Rel ms B p q → Rel ms B q p := fun ⟨a, h1, h2, h3⟩ => ⟨a, h1, h3, h2⟩
theorem rel_trans (hG : PG n ms) (hB : BlkP ms B) {p q r : Nat} (hq : q < n) (hr : r < n) : Rel ms B p q → Rel ms B q r → Rel ms B p r := by
  rintro ⟨g, hg, g1, g2⟩ ⟨h, hh, h1, h2⟩
  obtain ⟨h', hh', hi⟩ := hG.inv h hh
  obtain ⟨k, hk, hke⟩ := hG.mul g hg h' hh'
  have e1 : ap k (ap h q) = ap g q := by rw [hke _ (hG.lt hh hq), (hi q hq).1]
  have h3 := hB k hk ⟨ap h q, h1, by rw [e1]; exact g2⟩ (ap h r) h2
  rw [hke _ (hG.lt hh hr), (hi r hr).1] at h3
  exact ⟨g, hg, g1, h3⟩
theorem rel_map (hG : PG n ms) {a : List Int} (ha : a ∈ ms) {p q : Nat} (hp : p < n) (hq : q < n) : Rel ms B p q → Rel ms B (ap a p) (ap a q) := by
  rintro ⟨g, hg, g1, g2⟩
  obtain ⟨a', ha', hi⟩ := hG.inv a ha
  obtain ⟨k, hk, hke⟩ := hG.mul g hg a' ha'
  exact ⟨k, hk, by rw [hke _ (hG.lt ha hp), (hi p hp).1]; exact g1, by rw [hke _ (hG.lt ha hq), (hi q hq).1]; exact g2⟩
theorem rel_refl (hG : PG n ms) (ht : ∀ j, j < n → ∃ a ∈ ms, ap a 0 = j) {x p : Nat} (hx : x ∈ B) (hxn : x < n) (hp : p < n) : Rel ms B p p := by
  obtain ⟨h, hh, eh⟩ := ht x hxn
  obtain ⟨g, hg, eg⟩ := ht p hp
  obtain ⟨g', hg', hi⟩ := hG.inv g hg
  obtain ⟨k, hk, hke⟩ := hG.mul h hh g' hg'
  have h0 : ap g' p = 0 := by rw [← eg]; exact (hi 0 (by omega)).1
  have e : ap k p = x := by rw [hke p hp, h0, eh]
  exact ⟨k, hk, by rw [e]; exact hx, by rw [e]; exact hx⟩
theorem rel_in (hG : PG n ms) (hB : BlkP ms B) {p x : Nat} (hx : x ∈ B) (hxn : x < n) (hp : p < n) : Rel ms B p x → p ∈ B := by
  rintro ⟨g, hg, g1, g2⟩
  obtain ⟨g', hg', hi⟩ := hG.inv g hg
  have h := hB g' hg' ⟨ap g x, g2, by rw [(hi x hxn).1]; exact hx⟩ (ap g p) g1
  rw [(hi p hp).1] at h
  exact h
end
/-- Classes that lie within those of each block with some points. -/
structure Cls (n : Nat) (ms : List (List Int)) (pts : List Nat) (c : List Int) : Prop where
  inr : InR n c
  le : ∀ p, p < n → ap c p ≤ p
  idem : ∀ p, p < n → ap c (ap c p) = ap c p
  low : ∀ B, BlkP ms B → (∀ x ∈ pts, x ∈ B) → ∀ p, p < n → Rel ms B p (ap c p)
def joinL (c : List Int) (a b : Nat) : List Int := c.map fun z => if z = max (gt c a) (gt c b) then min (gt c a) (gt c b) else z
theorem joinL_len (c : List Int) (a b : Nat) : (joinL c a b).length = c.length := by simp [joinL]
theorem gt_join {n : Nat} {c : List Int} (hc : InR n c) {a b p : Nat} (hp : p < n) : gt (joinL c a b) p = if gt c p = max (gt c a) (gt c b) then min (gt c a) (gt c b) else gt c p := by
  unfold joinL
  rw [gt_map (by rw [hc.1]; exact hp)]
theorem ap_join {n : Nat} {c : List Int} (hc : InR n c) {a b p : Nat} (ha : a < n) (hb : b < n) (hp : p < n) : ap (joinL c a b) p = if ap c p = max (ap c a) (ap c b) then min (ap c a) (ap c b) else ap c p := by
  have e := gt_join hc (a := a) (b := b) hp
  rw [(ap_gt hc hp).1, (ap_gt hc ha).1, (ap_gt hc hb).1] at e
  show (gt (joinL c a b) p).toNat = _
  rw [e]
  split <;> split <;> omega
theorem join_in {n : Nat} {c : List Int} (hc : InR n c) {a b : Nat} (ha : a < n) (hb : b < n) : InR n (joinL c a b) := by
  refine ⟨by rw [joinL_len, hc.1], fun k hk => ?_⟩
  rw [gt_join hc hk]
  have h1 := hc.2 a ha
  have h2 := hc.2 b hb
  have h3 := hc.2 k hk
  split <;> omega
theorem join_le {n : Nat} {c : List Int} (hc : InR n c) {a b p : Nat} (ha : a < n) (hb : b < n) (hp : p < n) : ap (joinL c a b) p ≤ ap c p := by
  rw [ap_join hc ha hb hp]
  split <;> omega
theorem join_tog {n : Nat} {c : List Int} (hc : InR n c) {a b p q : Nat} (ha : a < n) (hb : b < n) (hp : p < n) (hq : q < n) (e : ap c p = ap c q) : ap (joinL c a b) p = ap (joinL c a b) q := by
  rw [ap_join hc ha hb hp, ap_join hc ha hb hq, e]
theorem join_ab {n : Nat} {c : List Int} (hc : InR n c) {a b : Nat} (ha : a < n) (hb : b < n) : ap (joinL c a b) a = ap (joinL c a b) b := by
  rw [ap_join hc ha hb ha, ap_join hc ha hb hb]
  split <;> split <;> omega
theorem Cls.lt {n : Nat} {ms : List (List Int)} {pts : List Nat} {c : List Int} (h : Cls n ms pts c) {p : Nat} (hp : p < n) : ap c p < n := (ap_gt h.inr hp).2
theorem Cls.join {n : Nat} {ms : List (List Int)} {pts : List Nat} {c : List Int} (hG : PG n ms) (ht : ∀ j, j < n → ∃ a ∈ ms, ap a 0 = j) (h : Cls n ms pts c) {a b : Nat} (ha : a < n) (hb : b < n)
    (hab : ∀ B, BlkP ms B → (∀ x ∈ pts, x ∈ B) → Rel ms B a b) : Cls n ms pts (joinL c a b) := by
  have hca := h.lt ha
  have hcb := h.lt hb
  have ia := h.idem a ha
  have ib := h.idem b hb
  refine ⟨join_in h.inr ha hb, fun p hp => Nat.le_trans (join_le h.inr ha hb hp) (h.le p hp), fun p hp => ?_, fun B hB hpt p hp => ?_⟩
  · have hcp := h.lt hp
    have ip := h.idem p hp
    rw [ap_join h.inr ha hb hp]
    split
    · rename_i e
      rw [ap_join h.inr ha hb (by omega)]
      have : ap c (min (ap c a) (ap c b)) = min (ap c a) (ap c b) := by
        rcases Nat.le_total (ap c a) (ap c b) with h1 | h1
        · rw [Nat.min_eq_left h1, ia]
        · rw [Nat.min_eq_right h1, ib]
      rw [this]
      split <;> omega
    · rename_i e
      rw [ap_join h.inr ha hb hcp, ip, if_neg e]
  · have hcp := h.lt hp
    have r1 := h.low B hB hpt p hp
    rw [ap_join h.inr ha hb hp]
    split
    · rename_i e
      have ra := h.low B hB hpt a ha
      have rb := h.low B hB hpt b hb
      have rab := hab B hB hpt
      have r2 : Rel ms B (ap c a) (ap c b) := rel_trans hG hB hb hcb (rel_trans hG hB ha hb (rel_symm ra) rab) rb
      rcases Nat.le_total (ap c a) (ap c b) with h1 | h1
      · rw [Nat.min_eq_left h1]
        rw [Nat.max_eq_right h1] at e
        rw [e] at r1
        exact rel_trans hG hB hcb hca r1 (rel_symm r2)
      · rw [Nat.min_eq_right h1]
        rw [Nat.max_eq_left h1] at e
        rw [e] at r1
        exact rel_trans hG hB hca hcb r1 r2
    · exact r1
theorem join_fix {n : Nat} {ms : List (List Int)} {pts : List Nat} {c : List Int} (h : Cls n ms pts c) {a b : Nat} (ha : a < n) (hb : b < n) (e : joinL c a b = c) : ap c a = ap c b := by
  have hca := h.lt ha
  have hcb := h.lt hb
  have ia := h.idem a ha
  have ib := h.idem b hb
  rcases Nat.le_total (ap c a) (ap c b) with h1 | h1
  · have h2 := ap_join h.inr ha hb (p := ap c b) hcb
    rw [e, ib, Nat.max_eq_right h1, if_pos rfl, Nat.min_eq_left h1] at h2
    exact h2.symm
  · have h2 := ap_join h.inr ha hb (p := ap c a) hca
    rw [e, ia, Nat.max_eq_left h1, if_pos rfl, Nat.min_eq_right h1] at h2
    exact h2
theorem Cls.start (n : Nat) {ms : List (List Int)} {pts : List Nat} {x0 : Nat} (hG : PG n ms) (ht : ∀ j, j < n → ∃ a ∈ ms, ap a 0 = j) (hx : x0 ∈ pts) (hxn : x0 < n) : Cls n ms pts (idL n) := by
  refine ⟨idL_in n, fun p hp => by rw [ap_id hp]; exact Nat.le_refl _, fun p hp => by rw [ap_id hp, ap_id hp], fun B hB hpt p hp => ?_⟩
  rw [ap_id hp]
  exact rel_refl hG ht (hpt x0 hx) hxn hp
/-- No pair is left to be joined. -/
def Cong (n : Nat) (ms : List (List Int)) (c : List Int) : Prop := ∀ a ∈ ms, ∀ p, p < n → ap c (ap a p) = ap c (ap a (ap c p))
def smL (c : List Int) : Nat → Nat
  | 0 => 0
  | k + 1 => smL c k + ap c k
def LeC (n : Nat) (c d : List Int) : Prop := ∀ p, p < n → ap c p ≤ ap d p
theorem sm_le {n : Nat} {c d : List Int} (h : LeC n c d) : ∀ k, k ≤ n → smL c k ≤ smL d k
  | 0, _ => Nat.le_refl _
  | k + 1, hk => by
    have h1 := sm_le h k (by omega)
    have h2 := h k (by omega)
    unfold smL
    omega
theorem sm_eq {n : Nat} {c d : List Int} (h : LeC n c d) : ∀ k, k ≤ n → smL d k ≤ smL c k → ∀ p, p < k → ap c p = ap d p
  | 0, _, _, p, hp => by omega
  | k + 1, hk, he, p, hp => by
    have h1 := sm_le h k (by omega)
    have h2 := h k (by omega)
    unfold smL at he
    by_cases hpk : p = k
    · subst hpk; omega
    · exact sm_eq h k (by omega) (by omega) p (by omega)
theorem ap_ext {n : Nat} {c d : List Int} (hc : InR n c) (hd : InR n d) (h : ∀ p, p < n → ap c p = ap d p) : c = d := by
  refine gt_ext (by rw [hc.1, hd.1]) fun p hp => ?_
  rw [hc.1] at hp
  rw [(ap_gt hc hp).1, (ap_gt hd hp).1, h p hp]
theorem sm_lt {n : Nat} {c d : List Int} (hc : InR n c) (hd : InR n d) (h : LeC n c d) (hne : c ≠ d) : smL c n < smL d n := by
  have h1 := sm_le h n (Nat.le_refl _)
  by_cases h2 : smL c n < smL d n
  · exact h2
  · exact absurd (ap_ext hc hd (sm_eq h n (Nat.le_refl _) (by omega))) hne
theorem le_anti {n : Nat} {c d : List Int} (hc : InR n c) (hd : InR n d) (h1 : LeC n c d) (h2 : LeC n d c) : c = d := ap_ext hc hd fun p hp => by have := h1 p hp; have := h2 p hp; omega
/-- The class of a point. -/
def clsN (n : Nat) (c : List Int) (x : Nat) : List Nat := (List.range n).filter fun p => ap c p == ap c x
theorem mem_cls {n : Nat} {c : List Int} {x p : Nat} : p ∈ clsN n c x ↔ p < n ∧ ap c p = ap c x := by
  unfold clsN
  rw [List.mem_filter, List.mem_range, beq_iff_eq]
theorem cls_blk {n : Nat} {ms : List (List Int)} {pts : List Nat} {c : List Int} (hG : PG n ms) (h : Cls n ms pts c) (hc : Cong n ms c) (x : Nat) : BlkP ms (clsN n c x) := by
  rintro a ha ⟨z, hz, hz2⟩ y hy
  rw [mem_cls] at hz hz2 hy ⊢
  refine ⟨hG.lt ha hy.1, ?_⟩
  rw [hc a ha y hy.1, hy.2, ← hz.2, ← hc a ha z hz.1, hz2.2]
  exact hz.2.symm
theorem cls_low {n : Nat} {ms : List (List Int)} {pts : List Nat} {c : List Int} (hG : PG n ms) (h : Cls n ms pts c) {x : Nat} (hxn : x < n) {B : List Nat} (hB : BlkP ms B) (hx : x ∈ B) (hpt : ∀ y ∈ pts, y ∈ B) : ∀ p ∈ clsN n c x, p ∈ B := fun p hp => by
  obtain ⟨h1, h2⟩ := mem_cls.1 hp
  have r1 := h.low B hB hpt p h1
  have r2 := h.low B hB hpt x hxn
  rw [h2] at r1
  exact rel_in hG hB hx hxn h1 (rel_trans hG hB (h.lt hxn) hxn r1 (rel_symm r2))
theorem cls_rise (n : Nat) (c : List Int) (x : Nat) : (clsN n c x).Pairwise (· < ·) := List.pairwise_lt_range.sublist List.filter_sublist
/-- Points as numbers. -/
def tJ (hs : List Nat) : List Int := hs.map fun x : Nat => (x : Int)
theorem tJ_len (hs : List Nat) : (tJ hs).length = hs.length := by simp [tJ]
theorem mem_tJ {hs : List Nat} {x : Int} : x ∈ tJ hs ↔ ∃ k ∈ hs, (k : Int) = x := by unfold tJ; rw [List.mem_map]
theorem mem_tJ' {hs : List Nat} {k : Nat} : (k : Int) ∈ tJ hs ↔ k ∈ hs := by
  rw [mem_tJ]
  exact ⟨fun ⟨j, hj, e⟩ => by have : j = k := by omega
                              rw [← this]; exact hj, fun h => ⟨k, h, rfl⟩⟩
theorem tJ_rise {hs : List Nat} (h : hs.Pairwise (· < ·)) : (tJ hs).Pairwise (· < ·) := by
  unfold tJ
  rw [List.pairwise_map]
  exact h.imp fun h => by omega
/-- The points to which a permutation takes points, in order. -/
def imgL (a : List Int) (pts : List Int) : List Int := (pts.map fun x => gt a x.toNat).mergeSort fun x y => decide (x ≤ y)
def blkB (ms : List (List Int)) (pts : List Int) : Bool := !(ms.any fun a => !(decide (imgL a pts = pts)) && (imgL a pts).any fun x => decide (x ∈ pts))
theorem img_mem {a : List Int} {pts : List Int} {x : Int} : x ∈ imgL a pts ↔ ∃ y ∈ pts, gt a y.toNat = x := by
  unfold imgL
  rw [(List.mergeSort_perm _ _).mem_iff, List.mem_map]
theorem img_len (a : List Int) (pts : List Int) : (imgL a pts).length = pts.length := by
  unfold imgL
  rw [(List.mergeSort_perm _ _).length_eq, List.length_map]
theorem img_rise {n : Nat} {ms : List (List Int)} (hG : PG n ms) {a : List Int} (ha : a ∈ ms) {hs : List Nat} (hr : hs.Pairwise (· < ·)) (hn : ∀ x ∈ hs, x < n) : (imgL a (tJ hs)).Pairwise (· < ·) := by
  have h1 : ((tJ hs).map fun x => gt a x.toNat).Nodup := by
    unfold tJ
    rw [List.map_map]
    unfold List.Nodup
    rw [List.pairwise_map]
    refine hr.imp_of_mem fun {x y} hx hy hlt e => ?_
    have h2 := hG.inj a ha x y (hn x hx) (hn y hy) (by
      unfold ap
      have e : gt a (x : Int).toNat = gt a (y : Int).toNat := e
      rw [Int.toNat_natCast, Int.toNat_natCast] at e
      rw [e])
    omega
  have h3 : (imgL a (tJ hs)).Nodup := (List.mergeSort_perm _ _).nodup_iff.2 h1
  have h4 : (imgL a (tJ hs)).Pairwise fun x y => decide (x ≤ y) = true := List.pairwise_mergeSort (by intro a b c h1 h2; simp at *; omega) (by intro a b; simp; omega) _
  exact (h4.and h3).imp fun ⟨h1, h2⟩ => by have := of_decide_eq_true h1; omega
theorem blk_iff {n : Nat} {ms : List (List Int)} (hG : PG n ms) {hs : List Nat} (hr : hs.Pairwise (· < ·)) (hn : ∀ x ∈ hs, x < n) : blkB ms (tJ hs) = true ↔ BlkP ms hs := by
  have hge : ∀ a ∈ ms, ∀ x ∈ hs, gt a x = (ap a x : Int) := fun a ha x hx => (ap_gt (hG.inr a ha) (hn x hx)).1
  unfold blkB
  rw [Bool.not_eq_true', List.any_eq_false]
  constructor
  · rintro h a ha ⟨x, hx, hx2⟩ y hy
    have h1 := h a ha
    have h2 : ((imgL a (tJ hs)).any fun x => decide (x ∈ tJ hs)) = true := by
      rw [List.any_eq_true]
      exact ⟨(ap a x : Int), img_mem.2 ⟨(x : Int), mem_tJ'.2 hx, by rw [Int.toNat_natCast]; exact hge a ha x hx⟩, decide_eq_true (mem_tJ'.2 hx2)⟩
    rw [h2, Bool.and_true] at h1
    have h3 : imgL a (tJ hs) = tJ hs := by
      simpa using h1
    have h4 : (ap a y : Int) ∈ imgL a (tJ hs) := img_mem.2 ⟨(y : Int), mem_tJ'.2 hy, by rw [Int.toNat_natCast]; exact hge a ha y hy⟩
    rw [h3] at h4
    exact mem_tJ'.1 h4
  · intro h a ha hb
    rw [Bool.and_eq_true, List.any_eq_true, Bool.not_eq_true', decide_eq_false_iff_not] at hb
    obtain ⟨hne, x, hx, hx2⟩ := hb
    obtain ⟨y, hy, e⟩ := img_mem.1 hx
    obtain ⟨k, hk, rfl⟩ := mem_tJ.1 hy
    rw [Int.toNat_natCast] at e
    have h1 := h a ha ⟨k, hk, by
      have h2 := of_decide_eq_true hx2
      rw [← e, hge a ha k hk] at h2
      exact mem_tJ'.1 h2⟩
    refine hne (rise_eq (img_rise hG ha hr hn) (tJ_rise hr) fun z => ?_)
    have hsub : ∀ z ∈ imgL a (tJ hs), z ∈ tJ hs := fun z hz => by
      obtain ⟨y, hy, e⟩ := img_mem.1 hz
      obtain ⟨k, hk, rfl⟩ := mem_tJ.1 hy
      rw [Int.toNat_natCast] at e
      rw [← e, hge a ha k hk]
      exact mem_tJ'.2 (h1 k hk)
    exact ⟨hsub z, rise_sub_eq ((img_rise hG ha hr hn).imp fun h => by omega) ((tJ_rise hr).imp fun h => by omega) hsub (by rw [img_len]; exact Nat.le_refl _) z⟩
/-- All sets of points with some, in order. -/
def subF (n : Nat) : Nat → Nat → Nat → List (List Nat)
  | 0, c, _ => if c = 0 then [[]] else []
  | _ + 1, 0, _ => [[]]
  | d + 1, c + 1, f => if f + (c + 1) ≤ n then (subF n d c (f + 1)).map (f :: ·) ++ subF n d (c + 1) (f + 1) else []
def subL (n c f : Nat) : List (List Nat) := subF n (n + 1 - f) c f
theorem rise_room {n f : Nat} {pts : List Nat} (h2 : pts.Pairwise (· < ·)) (h3 : ∀ x ∈ pts, f ≤ x ∧ x < n) : pts.length ≤ n - f := by
  have h6 := nodup_sub_len (S := tJ pts) (T := (List.range (n - f)).map fun i : Nat => ((f + i : Nat) : Int)) ((tJ_rise h2).imp fun h => by omega) (fun x hx => by
    obtain ⟨j, hj, rfl⟩ := mem_tJ.1 hx
    have h8 := h3 j hj
    exact List.mem_map.2 ⟨j - f, List.mem_range.2 (by omega), by omega⟩)
  rw [tJ_len, List.length_map, List.length_range] at h6
  exact h6
theorem subF_mem {n : Nat} : ∀ (d c f : Nat) (pts : List Nat), f + d = n + 1 → (pts ∈ subF n d c f ↔ (pts.length = c ∧ pts.Pairwise (· < ·) ∧ ∀ x ∈ pts, f ≤ x ∧ x < n))
  | 0, c, f, pts, hd => by
    unfold subF
    split
    · rename_i h
      subst h
      rw [List.mem_singleton]
      exact ⟨fun h => by subst h; simp, fun h => List.length_eq_zero_iff.1 h.1⟩
    · rename_i h
      refine ⟨fun h => by simp at h, fun ⟨h1, h2, h3⟩ => ?_⟩
      have := rise_room h2 h3
      omega
  | d + 1, 0, f, pts, hd => by
    unfold subF
    rw [List.mem_singleton]
    exact ⟨fun h => by subst h; simp, fun h => List.length_eq_zero_iff.1 h.1⟩
  | d + 1, c + 1, f, pts, hd => by
    unfold subF
    split
    · rename_i hc
      rw [List.mem_append]
      constructor
      · rintro (h | h)
        · obtain ⟨r, hr, rfl⟩ := List.mem_map.1 h
          obtain ⟨h1, h2, h3⟩ := (subF_mem d c (f + 1) r (by omega)).1 hr
          refine ⟨by simp [h1], List.pairwise_cons.2 ⟨fun x hx => by have := h3 x hx; omega, h2⟩, fun x hx => ?_⟩
          rcases List.mem_cons.1 hx with rfl | hx
          · exact ⟨Nat.le_refl _, by omega⟩
          · have := h3 x hx; omega
        · obtain ⟨h1, h2, h3⟩ := (subF_mem d (c + 1) (f + 1) pts (by omega)).1 h
          exact ⟨h1, h2, fun x hx => by have := h3 x hx; omega⟩
      · rintro ⟨h1, h2, h3⟩
        cases pts with
        | nil => simp at h1
        | cons k r =>
          obtain ⟨h4, h5⟩ := List.pairwise_cons.1 h2
          have hk := h3 k (by simp)
          by_cases hkf : k = f
          · subst hkf
            exact .inl (List.mem_map.2 ⟨r, (subF_mem d c (k + 1) r (by omega)).2 ⟨by simpa using h1, h5, fun x hx => ⟨h4 x hx, (h3 x (by simp [hx])).2⟩⟩, rfl⟩)
          · refine .inr ((subF_mem d (c + 1) (f + 1) _ (by omega)).2 ⟨h1, h2, fun x hx => ?_⟩)
            have := h3 x hx
            rcases List.mem_cons.1 hx with rfl | hx
            · omega
            · have := h4 x hx; omega
    · rename_i hc
      refine ⟨fun h => by simp at h, fun ⟨h1, h2, h3⟩ => ?_⟩
      have := rise_room h2 h3
      omega
theorem sub_mem {n c f : Nat} (hf : f ≤ n) (pts : List Nat) : pts ∈ subL n c f ↔ (pts.length = c ∧ pts.Pairwise (· < ·) ∧ ∀ x ∈ pts, f ≤ x ∧ x < n) := subF_mem _ _ _ _ (by omega)
theorem sub_zero (n f : Nat) : subL n 0 f = [[]] := by
  unfold subL
  cases n + 1 - f <;> simp [subF]
theorem sub_step {n c f : Nat} (h : f + (c + 1) ≤ n) : subL n (c + 1) f = (subL n c (f + 1)).map (f :: ·) ++ subL n (c + 1) (f + 1) := by
  unfold subL
  obtain ⟨d, hd⟩ : ∃ d, n + 1 - f = d + 1 := ⟨n - f, by omega⟩
  have hd2 : n + 1 - (f + 1) = d := by omega
  rw [hd, hd2, subF, if_pos h]
theorem sub_end {n c f : Nat} (h : ¬ f + (c + 1) ≤ n) : subL n (c + 1) f = [] := by
  unfold subL
  cases n + 1 - f with
  | zero => simp [subF]
  | succ d => rw [subF, if_neg h]
theorem natrise_eq {S T : List Nat} (hS : S.Pairwise (· < ·)) (hT : T.Pairwise (· < ·)) (h : ∀ x, x ∈ S ↔ x ∈ T) : S = T := by
  have h1 : tJ S = tJ T := rise_eq (tJ_rise hS) (tJ_rise hT) fun x => by
    rw [mem_tJ, mem_tJ]
    exact ⟨fun ⟨k, hk, e⟩ => ⟨k, (h k).1 hk, e⟩, fun ⟨k, hk, e⟩ => ⟨k, (h k).2 hk, e⟩⟩
  have h2 := congrArg (fun l => l.map Int.toNat) h1
  simpa [tJ, List.map_map, Function.comp_def] using h2
theorem nat_sub_eq {S T : List Nat} (hS : S.Pairwise (· < ·)) (hT : T.Pairwise (· < ·)) (hs : ∀ x ∈ S, x ∈ T) (hl : T.length ≤ S.length) : S = T := by
  refine natrise_eq hS hT fun x => ⟨hs x, fun hx => ?_⟩
  have h1 := rise_sub_eq (S := tJ S) (T := tJ T) ((tJ_rise hS).imp fun h => by omega) ((tJ_rise hT).imp fun h => by omega) (fun y hy => by
    obtain ⟨k, hk, rfl⟩ := mem_tJ.1 hy
    exact mem_tJ'.2 (hs k hk)) (by rw [tJ_len, tJ_len]; exact hl) x (mem_tJ'.2 hx)
  exact mem_tJ'.1 h1
theorem nat_sub_len {S T : List Nat} (hS : S.Pairwise (· < ·)) (hs : ∀ x ∈ S, x ∈ T) : S.length ≤ T.length := by
  have h1 := nodup_sub_len (S := tJ S) (T := tJ T) ((tJ_rise hS).imp fun h => by omega) (fun y hy => by
    obtain ⟨k, hk, rfl⟩ := mem_tJ.1 hy
    exact mem_tJ'.2 (hs k hk))
  rw [tJ_len, tJ_len] at h1
  exact h1
/-- What the program's search meets: nothing smaller than the class, and the class alone at its size. -/
theorem find_cls {n : Nat} {ms : List (List Int)} {c : List Int} {a b : Nat} (hG : PG n ms) (h : Cls n ms [a, b] c) (hc : Cong n ms c) (ha : a < n) (hb : b < n) (hab : ap c a = ap c b) {pts : List Nat} {k : Nat} (hp : pts ∈ subL n k 0) :
    (k < (clsN n c a).length → ¬ (a ∈ pts ∧ b ∈ pts ∧ blkB ms (tJ pts) = true)) ∧ (k = (clsN n c a).length → (a ∈ pts ∧ b ∈ pts ∧ blkB ms (tJ pts) = true) → pts = clsN n c a) := by
  obtain ⟨h1, h2, h3⟩ := (sub_mem (Nat.zero_le _) pts).1 hp
  have key : (a ∈ pts ∧ b ∈ pts ∧ blkB ms (tJ pts) = true) → ∀ x ∈ clsN n c a, x ∈ pts := fun ⟨g1, g2, g3⟩ =>
    cls_low hG h ha ((blk_iff hG h2 (fun x hx => (h3 x hx).2)).1 g3) g1 (fun y hy => by
      rcases List.mem_cons.1 hy with e | e
      · rw [e]; exact g1
      · rw [List.mem_singleton.1 e]; exact g2)
  refine ⟨fun hk hall => ?_, fun hk hall => ?_⟩
  · have := nat_sub_len (cls_rise n c a) (key hall)
    omega
  · exact (nat_sub_eq (cls_rise n c a) h2 (key hall) (by omega)).symm
theorem cls_found {n : Nat} {ms : List (List Int)} {c : List Int} {a b : Nat} (hG : PG n ms) (h : Cls n ms [a, b] c) (hc : Cong n ms c) (ha : a < n) (hb : b < n) (hab : ap c a = ap c b) :
    clsN n c a ∈ subL n (clsN n c a).length 0 ∧ a ∈ clsN n c a ∧ b ∈ clsN n c a ∧ blkB ms (tJ (clsN n c a)) = true := by
  have hin : ∀ x ∈ clsN n c a, x < n := fun x hx => (mem_cls.1 hx).1
  exact ⟨(sub_mem (Nat.zero_le _) _).2 ⟨rfl, cls_rise n c a, fun x hx => ⟨Nat.zero_le _, hin x hx⟩⟩, mem_cls.2 ⟨ha, rfl⟩, mem_cls.2 ⟨hb, hab.symm⟩, (blk_iff hG (cls_rise n c a) hin).2 (cls_blk hG h hc a)⟩
end Go.Proofs.YtglijcdnnaekkaaGreat
