/- Groups of permutations of up to six points, as plain facts: each permutation is one-to-one, products and inverses lie in the group; a group without holes moves 0 to each point. -/
import Derived.Test.YtglijcdnnaekkaaGreatA173
import Derived.Test.YtglijcdnnaekkaaGreatA174
import Derived.Test.YtglijcdnnaekkaaGreatA133
namespace Go.Proofs.YtglijcdnnaekkaaGreat
set_option linter.unusedVariables false
set_option linter.unusedSimpArgs false

def dsB : List Int → Bool
  | [] => true
  | x :: l => !(l.contains x) && dsB l
theorem ds_nd : ∀ {l : List Int}, dsB l = true → l.Nodup
  | [], _ => List.nodup_nil
  | x :: l, h => by
    unfold dsB at h
    rw [Bool.and_eq_true, Bool.not_eq_true'] at h
    refine List.nodup_cons.2 ⟨fun hm => ?_, ds_nd h.2⟩
    rw [List.contains_iff_mem.2 hm] at h
    exact absurd h.1 (by decide)
theorem gt_eq {l : List Int} {i : Nat} (h : i < l.length) : gt l i = l[i] := by simp [gt, List.getElem?_eq_getElem h]
theorem nd_inj {l : List Int} (h : l.Nodup) {i j : Nat} (hi : i < l.length) (hj : j < l.length) (e : gt l i = gt l j) : i = j := by
  rw [gt_eq hi, gt_eq hj] at e
  exact (List.getElem_inj h).1 e
theorem inj_nd {l : List Int} (h : ∀ i j, i < l.length → j < l.length → gt l i = gt l j → i = j) : l.Nodup := by
  unfold List.Nodup
  rw [List.pairwise_iff_getElem]
  intro i j hi hj hij e
  have := h i j hi hj (by rw [gt_eq hi, gt_eq hj]; exact e)
  omega
def allP (n : Nat) (q : List Int → Bool) : Nat → List Int → Bool
  | 0, a => q a
  | k + 1, a => (List.range n).all fun x => a.contains (x : Int) || allP n q k (a ++ [(x : Int)])
theorem allP_t {n : Nat} {q : List Int → Bool} : ∀ (k : Nat) (a b : List Int), allP n q k a = true → b.length = k → (∀ x ∈ b, 0 ≤ x ∧ x < (n : Int)) → (a ++ b).Nodup → q (a ++ b) = true
  | 0, a, b, h, hl, _, _ => by
    obtain rfl : b = [] := List.length_eq_zero_iff.1 hl
    simpa [allP] using h
  | k + 1, a, b, h, hl, hr, hd => by
    cases b with
    | nil => simp at hl
    | cons x b =>
      obtain ⟨h0, h1⟩ := hr x (by simp)
      unfold allP at h
      rw [List.all_eq_true] at h
      have h2 := h x.toNat (List.mem_range.2 (by omega))
      rw [Int.toNat_of_nonneg h0] at h2
      have hx : a.contains x = false := by
        rw [Bool.eq_false_iff]
        intro hc
        have hc : x ∈ a := List.contains_iff_mem.1 hc
        rw [List.nodup_append] at hd
        exact hd.2.2 x hc x (by simp) rfl
      rw [hx, Bool.false_or] at h2
      have h3 := allP_t k (a ++ [x]) b h2 (by simpa using hl) (fun y hy => hr y (by simp [hy])) (by simpa using hd)
      simpa using h3
def rkOk (n : Nat) (a : List Int) : Bool := Nat.blt (rk a) (fact n) && decide (wrL n (rk a) = a)
theorem rk_ok6 : ∀ n : Fin 7, allP n (rkOk n) n [] = true := by decide +kernel
theorem wr_ds6 : ∀ n : Fin 7, ((List.range (fact n)).all fun r => dsB (wrL n r) && Nat.beq (rk (wrL n r)) r) = true := by decide +kernel
theorem wr_one6 : ∀ n : Fin 7, wrL n 0 = idL n := by decide +kernel
theorem wr_rk {n : Nat} {a : List Int} (hn : n ≤ 6) (ha : InR n a) (hd : a.Nodup) : wrL n (rk a) = a ∧ rk a < fact n := by
  have h := allP_t (q := rkOk n) n [] a (rk_ok6 ⟨n, by omega⟩) ha.1 (fun x hx => by
    obtain ⟨k, hk, e⟩ := List.mem_iff_getElem.1 hx
    have := ha.2 k (by rw [← ha.1]; exact hk)
    rw [gt_eq hk, e] at this
    exact this) (by simpa using hd)
  rw [List.nil_append] at h
  unfold rkOk at h
  rw [Bool.and_eq_true] at h
  exact ⟨of_decide_eq_true h.2, by simpa using h.1⟩
theorem wr_nd {n r : Nat} (hn : n ≤ 6) (hr : r < fact n) : (wrL n r).Nodup ∧ rk (wrL n r) = r := by
  have h := wr_ds6 ⟨n, by omega⟩
  rw [List.all_eq_true] at h
  have h2 := h r (List.mem_range.2 hr)
  rw [Bool.and_eq_true] at h2
  exact ⟨ds_nd h2.1, Nat.eq_of_beq_eq_true h2.2⟩
theorem wr_one {n : Nat} (hn : n ≤ 6) : wrL n 0 = idL n := wr_one6 ⟨n, by omega⟩
theorem nodup_sub_len : ∀ {S T : List Int}, S.Nodup → (∀ x ∈ S, x ∈ T) → S.length ≤ T.length
  | [], _, _, _ => Nat.zero_le _
  | x :: S, T, hd, hs => by
    obtain ⟨h1, h2⟩ := List.nodup_cons.1 hd
    have hx := hs x (by simp)
    have h3 := nodup_sub_len (S := S) (T := T.erase x) h2 (fun y hy => (List.mem_erase_of_ne (fun e => h1 (by rw [← e]; exact hy))).2 (hs y (by simp [hy])))
    rw [List.length_erase_of_mem hx] at h3
    have h4 := List.length_pos_of_mem hx
    simp only [List.length_cons]
    omega
/-- Strictly rising lists of one length, one within the other. -/
theorem rise_sub_eq {S T : List Int} (hS : S.Nodup) (hT : T.Nodup) (hs : ∀ x ∈ S, x ∈ T) (hl : T.length ≤ S.length) : ∀ x ∈ T, x ∈ S := fun x hx => by
  apply Classical.byContradiction
  intro hn
  have := nodup_sub_len (S := x :: S) (T := T) (List.nodup_cons.2 ⟨hn, hS⟩) (fun y hy => by
    rcases List.mem_cons.1 hy with rfl | h
    · exact hx
    · exact hs y h)
  simp only [List.length_cons] at this
  omega
/-- Where a permutation takes a point. -/
def ap (a : List Int) (i : Nat) : Nat := (gt a i).toNat
theorem ap_gt {n : Nat} {a : List Int} (ha : InR n a) {i : Nat} (hi : i < n) : gt a i = (ap a i : Int) ∧ ap a i < n := by
  obtain ⟨h1, h2⟩ := ha.2 i hi
  unfold ap
  omega
theorem ap_prod {n : Nat} {a b : List Int} (hb : InR n b) {i : Nat} (hi : i < n) : ap (prodL a b) i = ap a (ap b i) := by
  unfold ap
  rw [gt_prod (by rw [hb.1]; exact hi)]
theorem ap_id {n i : Nat} (hi : i < n) : ap (idL n) i = i := by
  unfold ap idL
  rw [gt_eq (by simpa using hi)]
  simp
structure PG (n : Nat) (ms : List (List Int)) : Prop where
  inr : ∀ a ∈ ms, InR n a
  inj : ∀ a ∈ ms, ∀ i j, i < n → j < n → ap a i = ap a j → i = j
  one : ∃ e ∈ ms, ∀ i, i < n → ap e i = i
  mul : ∀ a ∈ ms, ∀ b ∈ ms, ∃ c ∈ ms, ∀ i, i < n → ap c i = ap a (ap b i)
  inv : ∀ a ∈ ms, ∃ b ∈ ms, ∀ i, i < n → ap b (ap a i) = i ∧ ap a (ap b i) = i
theorem PG.lt {n : Nat} {ms : List (List Int)} (h : PG n ms) {a : List Int} (ha : a ∈ ms) {i : Nat} (hi : i < n) : ap a i < n := (ap_gt (h.inr a ha) hi).2
theorem mem_memL {n : Nat} {l : List Int} {a : List Int} : a ∈ memL n l ↔ ∃ x ∈ l, wrL n x.toNat = a := by
  unfold memL
  rw [List.mem_map]
theorem inr_inj {n : Nat} {a : List Int} (ha : InR n a) (hd : a.Nodup) : ∀ i j, i < n → j < n → ap a i = ap a j → i = j := fun i j hi hj e => by
  refine nd_inj hd (by rw [ha.1]; exact hi) (by rw [ha.1]; exact hj) ?_
  rw [(ap_gt ha hi).1, (ap_gt ha hj).1, e]
theorem prod_nd {n : Nat} {a b : List Int} (ha : InR n a) (hb : InR n b) (da : a.Nodup) (db : b.Nodup) : (prodL a b).Nodup := by
  have hp := ha.prod hb
  refine inj_nd fun i j hi hj e => ?_
  rw [hp.1] at hi hj
  refine inr_inj hb db i j hi hj (inr_inj ha da _ _ (ap_gt hb hi).2 (ap_gt hb hj).2 ?_)
  rw [← ap_prod hb hi, ← ap_prod hb hj]
  unfold ap
  rw [e]
theorem pg_of {n : Nat} {l : List Int} (h : grpB n l = true) : PG n (memL n l) := by
  obtain ⟨n', hn, h1, h2, h3, h4, hk⟩ := grpB_t h
  obtain rfl : n = n' := by omega
  unfold grpB at h
  simp only [Bool.and_eq_true, decide_eq_true_eq] at h
  obtain ⟨_, _, g2, g3, g4⟩ := h
  rw [Int.toNat_natCast] at g3 g4
  have hpw := rise_pw (riseB_p g3)
  have hx : ∀ x ∈ l, ∃ r : Nat, x = r ∧ r < fact n := fun x hx => by
    obtain ⟨k, hk', e⟩ := List.mem_iff_getElem.1 hx
    have := hk k hk'
    rw [gt_eq hk', e] at this
    exact ⟨x.toNat, by omega, by omega⟩
  have hin : ∀ a ∈ memL n l, InR n a ∧ a.Nodup := fun a ha => by
    obtain ⟨x, hx', rfl⟩ := mem_memL.1 ha
    obtain ⟨r, rfl, hr⟩ := hx x hx'
    rw [Int.toNat_natCast]
    exact ⟨wrL_in hr, (wr_nd h2 hr).1⟩
  have hclo : ∀ a ∈ memL n l, ∀ b ∈ memL n l, ((rk (prodL a b) : Nat) : Int) ∈ l := fun a ha b hb => by
    unfold cloB at g4
    rw [List.all_eq_true] at g4
    have h6 := g4 a ha
    unfold cloR at h6
    rw [Bool.not_eq_true', List.any_eq_false] at h6
    have h7 := h6 b hb
    simpa using h7
  have hmul : ∀ a ∈ memL n l, ∀ b ∈ memL n l, prodL a b ∈ memL n l := fun a ha b hb => by
    refine mem_memL.2 ⟨_, hclo a ha b hb, ?_⟩
    rw [Int.toNat_natCast]
    exact (wr_rk h2 ((hin a ha).1.prod (hin b hb).1) (prod_nd (hin a ha).1 (hin b hb).1 (hin a ha).2 (hin b hb).2)).1
  have h0 : (0 : Int) ∈ l := by rw [← g2]; exact gt_mem h3
  have hone : idL n ∈ memL n l := mem_memL.2 ⟨0, h0, wr_one h2⟩
  have hinj : ∀ a ∈ memL n l, ∀ i j, i < n → j < n → ap a i = ap a j → i = j := fun a ha => inr_inj (hin a ha).1 (hin a ha).2
  refine ⟨fun a ha => (hin a ha).1, hinj, ⟨_, hone, fun i hi => ap_id hi⟩, fun a ha b hb => ⟨_, hmul a ha b hb, fun i hi => ap_prod (hin b hb).1 hi⟩, fun a ha => ?_⟩
  have hf : (l.map fun x => ((rk (prodL a (wrL n x.toNat)) : Nat) : Int)).Nodup := by
    unfold List.Nodup
    rw [List.pairwise_map]
    refine hpw.imp_of_mem fun {x y} hx1 hy1 hlt e => ?_
    obtain ⟨r, rfl, hr⟩ := hx x hx1
    obtain ⟨s, rfl, hs⟩ := hx y hy1
    rw [Int.toNat_natCast, Int.toNat_natCast] at e
    have e : rk (prodL a (wrL n r)) = rk (prodL a (wrL n s)) := by omega
    have p1 := wr_rk h2 ((hin a ha).1.prod (wrL_in hr)) (prod_nd (hin a ha).1 (wrL_in hr) (hin a ha).2 (wr_nd h2 hr).1)
    have p2 := wr_rk h2 ((hin a ha).1.prod (wrL_in hs)) (prod_nd (hin a ha).1 (wrL_in hs) (hin a ha).2 (wr_nd h2 hs).1)
    have e2 : prodL a (wrL n r) = prodL a (wrL n s) := by rw [← p1.1, ← p2.1, e]
    have e3 : wrL n r = wrL n s := by
      refine gt_ext (by rw [(wrL_in hr).1, (wrL_in hs).1]) fun i hi => ?_
      rw [(wrL_in hr).1] at hi
      have e4 : ap a (ap (wrL n r) i) = ap a (ap (wrL n s) i) := by rw [← ap_prod (wrL_in hr) hi, ← ap_prod (wrL_in hs) hi, e2]
      have e5 := hinj a ha _ _ (ap_gt (wrL_in hr) hi).2 (ap_gt (wrL_in hs) hi).2 e4
      rw [(ap_gt (wrL_in hr) hi).1, (ap_gt (wrL_in hs) hi).1, e5]
    have e6 : r = s := by rw [← (wr_nd h2 hr).2, ← (wr_nd h2 hs).2, e3]
    omega
  have hsub : ∀ y ∈ (l.map fun x => ((rk (prodL a (wrL n x.toNat)) : Nat) : Int)), y ∈ l := fun y hy => by
    obtain ⟨x, hx1, rfl⟩ := List.mem_map.1 hy
    exact hclo a ha _ (mem_memL.2 ⟨x, hx1, rfl⟩)
  have hall := rise_sub_eq hf (hpw.imp fun h => by omega) hsub (by simp)
  obtain ⟨x, hx1, e⟩ := List.mem_map.1 (hall 0 h0)
  obtain ⟨r, rfl, hr⟩ := hx x hx1
  rw [Int.toNat_natCast] at e
  have p1 := wr_rk h2 ((hin a ha).1.prod (wrL_in hr)) (prod_nd (hin a ha).1 (wrL_in hr) (hin a ha).2 (wr_nd h2 hr).1)
  have e0 : rk (prodL a (wrL n r)) = 0 := by omega
  rw [e0, wr_one h2] at p1
  have hri : ∀ i, i < n → ap a (ap (wrL n r) i) = i := fun i hi => by rw [← ap_prod (wrL_in hr) hi, ← p1.1, ap_id hi]
  refine ⟨_, mem_memL.2 ⟨(r : Int), hx1, by rw [Int.toNat_natCast]⟩, fun i hi => ⟨?_, hri i hi⟩⟩
  have hai := (ap_gt (hin a ha).1 hi).2
  exact hinj a ha _ _ (ap_gt (wrL_in hr) hai).2 hi (hri _ hai)
/-- A transitive group takes 0 to each point. -/
theorem orL_all {n : Nat} {l : List Int} (h1 : 1 ≤ n) (hk : InK n l) (ht : (orL n l 0).length = n) : ∀ j, j < n → ∃ a ∈ memL n l, ap a 0 = j := fun j hj => by
  have hor : (orL n l 0).Nodup ∧ ∀ x, x ∈ orL n l 0 ↔ x ∈ imL n l 0 := by
    obtain ⟨h3, h4⟩ := sorted_compact (imL n l 0)
    exact ⟨h3.imp fun h => by omega, h4⟩
  have hmem : ∀ a ∈ memL n l, InR n a := fun a ha => by
    obtain ⟨k, hk', e⟩ := mem_gl.1 ha
    rw [← e]
    exact mem_in hk k hk'
  have hs : ∀ x ∈ orL n l 0, x ∈ idL n := fun x hx => by
    have := (hor.2 x).1 hx
    unfold imL at this
    obtain ⟨a, ha, rfl⟩ := List.mem_map.1 this
    rw [(ap_gt (hmem a ha) (by omega : 0 < n)).1]
    exact List.mem_map.2 ⟨_, List.mem_range.2 (ap_gt (hmem a ha) (by omega : 0 < n)).2, rfl⟩
  have hid : (idL n).Nodup := by
    refine inj_nd fun i k hi hk e => ?_
    rw [idL_len] at hi hk
    rw [(ap_gt (idL_in n) hi).1, (ap_gt (idL_in n) hk).1, ap_id hi, ap_id hk] at e
    omega
  have h5 := rise_sub_eq hor.1 hid hs (by rw [idL_len, ht]; exact Nat.le_refl _) (j : Int) (List.mem_map.2 ⟨j, List.mem_range.2 hj, rfl⟩)
  have h6 := (hor.2 _).1 h5
  unfold imL at h6
  obtain ⟨a, ha, e⟩ := List.mem_map.1 h6
  exact ⟨a, ha, by unfold ap; rw [e]; simp⟩
end Go.Proofs.YtglijcdnnaekkaaGreat
