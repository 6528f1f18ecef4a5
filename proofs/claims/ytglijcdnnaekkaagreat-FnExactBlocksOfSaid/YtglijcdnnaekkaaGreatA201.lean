/- Blocks of a group: the classes that joining leaves are a block, the smallest one with some points. -/
import Derived.Test.YtglijcdnnaekkaaGreatA200
namespace Go.Proofs.YtglijcdnnaekkaaGreat
set_option linter.unusedVariables false
set_option linter.unusedSimpArgs false

/-- A permutation that takes a point of B into B takes all of B there. -/
def BlkP (ms : List (List Int)) (B : List Nat) : Prop := ∀ a ∈ ms, (∃ x ∈ B, ap a x ∈ B) → ∀ y ∈ B, ap a y ∈ B
def Rel (ms : List (List Int)) (B : List Nat) (p q : Nat) : Prop := ∃ a ∈ ms, ap a p ∈ B ∧ ap a q ∈ B
section
variable {n : Nat} {ms : List (List Int)} {B : List Nat}
theorem rel_symm {p q : Nat} : Rel ms B p q → Rel ms B q p := fun ⟨a, h1, h2, h3⟩ => ⟨a, h1, h3, h2⟩
theorem rel_trans (hG : PG n ms) (hB : BlkP ms B) {p q r : Nat} (hq : q < n) (hr : r < n) : Rel ms B p q → Rel ms B q r → Rel ms B p r := by
  rintro ⟨g, hg, g1, g2⟩ ⟨h, hh, h1, h2⟩
  obtain ⟨h', hh', hi⟩ := hG.inv h hh
  obtain ⟨k, hk, hke⟩ := hG.mul g hg h' hh'
  have e1 : ap k (ap h q) = ap g q := by rw [hke _ (hG.lt hh hq), (hi q hq).1]
  have h3 := hB k hk ⟨ap h q, h1, by rw [e1]; exact g2⟩ (ap h r) h2
  rw [hke _ (hG.lt hh hr), (hi r hr).1] at h3
  exact ⟨g, hg, g1, h3⟩
theorem rel_map (hG : PG n ms) {a : List Int} (ha : a ∈ ms) {p q : Nat} (hp : p < n) (hq : q < n) : Rel ms B p q → Rel ms B (ap a p) (ap a q) := by
  rintro ⟨g, hg, g1, g2⟩
  obtain ⟨a', ha', hi⟩ := hG.inv a ha
  obtain ⟨k, hk, hke⟩ := hG.mul g hg a' ha'
  exact ⟨k, hk, by rw [hke _ (hG.lt ha hp), (hi p hp).1]; exact g1, by rw [hke _ (hG.lt ha hq), (hi q hq).1]; exact g2⟩
theorem rel_refl (hG : PG n ms) (ht : ∀ j, j < n → ∃ a ∈ ms, ap a 0 = j) {x p : Nat} (hx : x ∈ B) (hxn : x < n) (hp : p < n) : Rel ms B p p := by
  obtain ⟨h, hh, eh⟩ := ht x hxn
  obtain ⟨g, hg, eg⟩ := ht p hp
  obtain ⟨g', hg', hi⟩ := hG.inv g hg
  obtain ⟨k, hk, hke⟩ := hG.mul h hh g' hg'
  have h0 : ap g' p = 0 := by rw [← eg]; exact (hi 0 (by omega)).1
  have e : ap k p = x := by rw [hke p hp, h0, eh]
  exact ⟨k, hk, by rw [e]; exact hx, by rw [e]; exact hx⟩
theorem rel_in (hG : PG n ms) (hB : BlkP ms B) {p x : Nat} (hx : x ∈ B) (hxn : x < n) (hp : p < n) : Rel ms B p x → p ∈ B := by
  rintro ⟨g, hg, g1, g2⟩
  obtain ⟨g', hg', hi⟩ := hG.inv g hg
  have h := hB g' hg' ⟨ap g x, g2, by rw [(hi x hxn).1]; exact hx⟩ (ap g p) g1
  rw [(hi p hp).1] at h
  exact h
end
/-- Classes that lie within those of each block with some points. -/
structure Cls (n : Nat) (ms : List (List Int)) (pts : List Nat) (c : List Int) : Prop where
  inr : InR n c
  le : ∀ p, p < n → ap c p ≤ p
  idem : ∀ p, p < n → ap c (ap c p) = ap c p
  low : ∀ B, BlkP ms B → (∀ x ∈ pts, x ∈ B) → ∀ p, p < n → Rel ms B p (ap c p)
def joinL (c : List Int) (a b : Nat) : List Int := c.map fun z => if z = max (gt c a) (gt c b) then min (gt c a) (gt c b) else z
theorem joinL_len (c : List Int) (a b : Nat) : (joinL c a b).length = c.length := by simp [joinL]
theorem gt_join {n : Nat} {c : List Int} (hc : InR n c) {a b p : Nat} (hp : p < n) : gt (joinL c a b) p = if gt c p = max (gt c a) (gt c b) then min (gt c a) (gt c b) else gt c p := by
  unfold joinL
  rw [gt_map (by rw [hc.1]; exact hp)]
theorem ap_join {n : Nat} {c : List Int} (hc : InR n c) {a b p : Nat} (ha : a < n) (hb : b < n) (hp : p < n) : ap (joinL c a b) p = if ap c p = max (ap c a) (ap c b) then min (ap c a) (ap c b) else ap c p := by
  have e := gt_join hc (a := a) (b := b) hp
  rw [(ap_gt hc hp).1, (ap_gt hc ha).1, (ap_gt hc hb).1] at e
  show (gt (joinL c a b) p).toNat = _
  rw [e]
  split <;> split <;> omega
theorem join_in {n : Nat} {c : List Int} (hc : InR n c) {a b : Nat} (ha : a < n) (hb : b < n) : InR n (joinL c a b) := by
  refine ⟨by rw [joinL_len, hc.1], fun k hk => ?_⟩
  rw [gt_join hc hk]
  have h1 := hc.2 a ha
  have h2 := hc.2 b hb
  have h3 := hc.2 k hk
  split <;> omega
theorem join_le {n : Nat} {c : List Int} (hc : InR n c) {a b p : Nat} (ha : a < n) (hb : b < n) (hp : p < n) : ap (joinL c a b) p ≤ ap c p := by
  rw [ap_join hc ha hb hp]
  split <;> omega
theorem join_tog {n : Nat} {c : List Int} (hc : InR n c) {a b p q : Nat} (ha : a < n) (hb : b < n) (hp : p < n) (hq : q < n) (e : ap c p = ap c q) : ap (joinL c a b) p = ap (joinL c a b) q := by
  rw [ap_join hc ha hb hp, ap_join hc ha hb hq, e]
theorem join_ab {n : Nat} {c : List Int} (hc : InR n c) {a b : Nat} (ha : a < n) (hb : b < n) : ap (joinL c a b) a = ap (joinL c a b) b := by
  rw [ap_join hc ha hb ha, ap_join hc ha hb hb]
  split <;> split <;> omega
theorem Cls.lt {n : Nat} {ms : List (List Int)} {pts : List Nat} {c : List Int} (h : Cls n ms pts c) {p : Nat} (hp : p < n) : ap c p < n := (ap_gt h.inr hp).2
theorem Cls.join {n : Nat} {ms : List (List Int)} {pts : List Nat} {c : List Int} (hG : PG n ms) (ht : ∀ j, j < n → ∃ a ∈ ms, ap a 0 = j) (h : Cls n ms pts c) {a b : Nat} (ha : a < n) (hb : b < n)
    (hab : ∀ B, BlkP ms B → (∀ x ∈ pts, x ∈ B) → Rel ms B a b) : Cls n ms pts (joinL c a b) := by
  have hca := h.lt ha
  have hcb := h.lt hb
  have ia := h.idem a ha
  have ib := h.idem b hb
  refine ⟨join_in h.inr ha hb, fun p hp => Nat.le_trans (join_le h.inr ha hb hp) (h.le p hp), fun p hp => ?_, fun B hB hpt p hp => ?_⟩
  · have hcp := h.lt hp
    have ip := h.idem p hp
    rw [ap_join h.inr ha hb hp]
    split
    · rename_i e
      rw [ap_join h.inr ha hb (by omega)]
      have : ap c (min (ap c a) (ap c b)) = min (ap c a) (ap c b) := by
        rcases Nat.le_total (ap c a) (ap c b) with h1 | h1
        · rw [Nat.min_eq_left h1, ia]
        · rw [Nat.min_eq_right h1, ib]
      rw [this]
      split <;> omega
    · rename_i e
      rw [ap_join h.inr ha hb hcp, ip, if_neg e]
  · have hcp := h.lt hp
    have r1 := h.low B hB hpt p hp
    rw [ap_join h.inr ha hb hp]
    split
    · rename_i e
      have ra := h.low B hB hpt a ha
      have rb := h.low B hB hpt b hb
      have rab := hab B hB hpt
      have r2 : Rel ms B (ap c a) (ap c b) := rel_trans hG hB hb hcb (rel_trans hG hB ha hb (rel_symm ra) rab) rb
      rcases Nat.le_total (ap c a) (ap c b) with h1 | h1
      · rw [Nat.min_eq_left h1]
        rw [Nat.max_eq_right h1] at e
        rw [e] at r1
        exact rel_trans hG hB hcb hca r1 (rel_symm r2)
      · rw [Nat.min_eq_right h1]
        rw [Nat.max_eq_left h1] at e
        rw [e] at r1
        exact rel_trans hG hB hca hcb r1 r2
    · exact r1
theorem join_fix {n : Nat} {ms : List (List Int)} {pts : List Nat} {c : List Int} (h : Cls n ms pts c) {a b : Nat} (ha : a < n) (hb : b < n) (e : joinL c a b = c) : ap c a = ap c b := by
  have hca := h.lt ha
  have hcb := h.lt hb
  have ia := h.idem a ha
  have ib := h.idem b hb
  rcases Nat.le_total (ap c a) (ap c b) with h1 | h1
  · have h2 := ap_join h.inr ha hb (p := ap c b) hcb
    rw [e, ib, Nat.max_eq_right h1, if_pos rfl, Nat.min_eq_left h1] at h2
    exact h2.symm
  · have h2 := ap_join h.inr ha hb (p := ap c a) hca
    rw [e, ia, Nat.max_eq_left h1, if_pos rfl, Nat.min_eq_right h1] at h2
    exact h2
theorem Cls.start (n : Nat) {ms : List (List Int)} {pts : List Nat} {x0 : Nat} (hG : PG n ms) (ht : ∀ j, j < n → ∃ a ∈ ms, ap a 0 = j) (hx : x0 ∈ pts) (hxn : x0 < n) : Cls n ms pts (idL n) := by
  refine ⟨idL_in n, fun p hp => by rw [ap_id hp]; exact Nat.le_refl _, fun p hp => by rw [ap_id hp, ap_id hp], fun B hB hpt p hp => ?_⟩
  rw [ap_id hp]
  exact rel_refl hG ht (hpt x0 hx) hxn hp
/-- No pair is left to be joined. -/
def Cong (n : Nat) (ms : List (List Int)) (c : List Int) : Prop := ∀ a ∈ ms, ∀ p, p < n → ap c (ap a p) = ap c (ap a (ap c p))
def smL (c : List Int) : Nat → Nat
  | 0 => 0
  | k + 1 => smL c k + ap c k
def LeC (n : Nat) (c d : List Int) : Prop := ∀ p, p < n → ap c p ≤ ap d p
theorem sm_le {n : Nat} {c d : List Int} (h : LeC n c d) : ∀ k, k ≤ n → smL c k ≤ smL d k
  | 0, _ => Nat.le_refl _
  | k + 1, hk => by
    have h1 := sm_le h k (by omega)
    have h2 := h k (by omega)
    unfold smL
    omega
theorem sm_eq {n : Nat} {c d : List Int} (h : LeC n c d) : ∀ k, k ≤ n → smL d k ≤ smL c k → ∀ p, p < k → ap c p = ap d p
  | 0, _, _, p, hp => by omega
  | k + 1, hk, he, p, hp => by
    have h1 := sm_le h k (by omega)
    have h2 := h k (by omega)
    unfold smL at he
    by_cases hpk : p = k
    · subst hpk; omega
    · exact sm_eq h k (by omega) (by omega) p (by omega)
theorem ap_ext {n : Nat} {c d : List Int} (hc : InR n c) (hd : InR n d) (h : ∀ p, p < n → ap c p = ap d p) : c = d := by
  refine gt_ext (by rw [hc.1, hd.1]) fun p hp => ?_
  rw [hc.1] at hp
  rw [(ap_gt hc hp).1, (ap_gt hd hp).1, h p hp]
theorem sm_lt {n : Nat} {c d : List Int} (hc : InR n c) (hd : InR n d) (h : LeC n c d) (hne : c ≠ d) : smL c n < smL d n := by
  have h1 := sm_le h n (Nat.le_refl _)
  by_cases h2 : smL c n < smL d n
  · exact h2
  · exact absurd (ap_ext hc hd (sm_eq h n (Nat.le_refl _) (by omega))) hne
theorem le_anti {n : Nat} {c d : List Int} (hc : InR n c) (hd : InR n d) (h1 : LeC n c d) (h2 : LeC n d c) : c = d := ap_ext hc hd fun p hp => by have := h1 p hp; have := h2 p hp; omega
/-- The class of a point. -/
def clsN (n : Nat) (c : List Int) (x : Nat) : List Nat := (List.range n).filter fun p => ap c p == ap c x
theorem mem_cls {n : Nat} {c : List Int} {x p : Nat} : p ∈ clsN n c x ↔ p < n ∧ ap c p = ap c x := by
  unfold clsN
  rw [List.mem_filter, List.mem_range, beq_iff_eq]
theorem cls_blk {n : Nat} {ms : List (List Int)} {pts : List Nat} {c : List Int} (hG : PG n ms) (h : Cls n ms pts c) (hc : Cong n ms c) (x : Nat) : BlkP ms (clsN n c x) := by
  rintro a ha ⟨z, hz, hz2⟩ y hy
  rw [mem_cls] at hz hz2 hy ⊢
  refine ⟨hG.lt ha hy.1, ?_⟩
  rw [hc a ha y hy.1, hy.2, ← hz.2, ← hc a ha z hz.1, hz2.2]
  exact hz.2.symm
theorem cls_low {n : Nat} {ms : List (List Int)} {pts : List Nat} {c : List Int} (hG : PG n ms) (h : Cls n ms pts c) {x : Nat} (hxn : x < n) {B : List Nat} (hB : BlkP ms B) (hx : x ∈ B) (hpt : ∀ y ∈ pts, y ∈ B) : ∀ p ∈ clsN n c x, p ∈ B := fun p hp => by
  obtain ⟨h1, h2⟩ := mem_cls.1 hp
  have r1 := h.low B hB hpt p h1
  have r2 := h.low B hB hpt x hxn
  rw [h2] at r1
  exact rel_in hG hB hx hxn h1 (rel_trans hG hB (h.lt hxn) hxn r1 (rel_symm r2))
theorem cls_rise (n : Nat) (c : List Int) (x : Nat) : (clsN n c x).Pairwise (· < ·) := List.pairwise_lt_range.sublist List.filter_sublist
/-- Points as numbers. -/
def tJ (hs : List Nat) : List Int := hs.map fun x : Nat => (x : Int)
theorem tJ_len (hs : List Nat) : (tJ hs).length = hs.length := by simp [tJ]
theorem mem_tJ {hs : List Nat} {x : Int} : x ∈ tJ hs ↔ ∃ k ∈ hs, (k : Int) = x := by unfold tJ; rw [List.mem_map]
theorem mem_tJ' {hs : List Nat} {k : Nat} : (k : Int) ∈ tJ hs ↔ k ∈ hs := by
  rw [mem_tJ]
  exact ⟨fun ⟨j, hj, e⟩ => by have : j = k := by omega
                              rw [← this]; exact hj, fun h => ⟨k, h, rfl⟩⟩
theorem tJ_rise {hs : List Nat} (h : hs.Pairwise (· < ·)) : (tJ hs).Pairwise (· < ·) := by
  unfold tJ
  rw [List.pairwise_map]
  exact h.imp fun h => by omega
/-- The points to which a permutation takes points, in order. -/
def imgL (a : List Int) (pts : List Int) : List Int := (pts.map fun x => gt a x.toNat).mergeSort fun x y => decide (x ≤ y)
def blkB (ms : List (List Int)) (pts : List Int) : Bool := !(ms.any fun a => !(decide (imgL a pts = pts)) && (imgL a pts).any fun x => decide (x ∈ pts))
theorem img_mem {a : List Int} {pts : List Int} {x : Int} : x ∈ imgL a pts ↔ ∃ y ∈ pts, gt a y.toNat = x := by
  unfold imgL
  rw [(List.mergeSort_perm _ _).mem_iff, List.mem_map]
theorem img_len (a : List Int) (pts : List Int) : (imgL a pts).length = pts.length := by
  unfold imgL
  rw [(List.mergeSort_perm _ _).length_eq, List.length_map]
theorem img_rise {n : Nat} {ms : List (List Int)} (hG : PG n ms) {a : List Int} (ha : a ∈ ms) {hs : List Nat} (hr : hs.Pairwise (· < ·)) (hn : ∀ x ∈ hs, x < n) : (imgL a (tJ hs)).Pairwise (· < ·) := by
  have h1 : ((tJ hs).map fun x => gt a x.toNat).Nodup := by
    unfold tJ
    rw [List.map_map]
    unfold List.Nodup
    rw [List.pairwise_map]
    refine hr.imp_of_mem fun {x y} hx hy hlt e => ?_
    have h2 := hG.inj a ha x y (hn x hx) (hn y hy) (by
      unfold ap
      have e : gt a (x : Int).toNat = gt a (y : Int).toNat := e
      rw [Int.toNat_natCast, Int.toNat_natCast] at e
      rw [e])
    omega
  have h3 : (imgL a (tJ hs)).Nodup := (List.mergeSort_perm _ _).nodup_iff.2 h1
  have h4 : (imgL a (tJ hs)).Pairwise fun x y => decide (x ≤ y) = true := List.pairwise_mergeSort (by intro a b c h1 h2; simp at *; omega) (by intro a b; simp; omega) _
  exact (h4.and h3).imp fun ⟨h1, h2⟩ => by have := of_decide_eq_true h1; omega
theorem blk_iff {n : Nat} {ms : List (List Int)} (hG : PG n ms) {hs : List Nat} (hr : hs.Pairwise (· < ·)) (hn : ∀ x ∈ hs, x < n) : blkB ms (tJ hs) = true ↔ BlkP ms hs := by
  have hge : ∀ a ∈ ms, ∀ x ∈ hs, gt a x = (ap a x : Int) := fun a ha x hx => (ap_gt (hG.inr a ha) (hn x hx)).1
  unfold blkB
  rw [Bool.not_eq_true', List.any_eq_false]
  constructor
  · rintro h a ha ⟨x, hx, hx2⟩ y hy
    have h1 := h a ha
    have h2 : ((imgL a (tJ hs)).any fun x => decide (x ∈ tJ hs)) = true := by
      rw [List.any_eq_true]
      exact ⟨(ap a x : Int), img_mem.2 ⟨(x : Int), mem_tJ'.2 hx, by rw [Int.toNat_natCast]; exact hge a ha x hx⟩, decide_eq_true (mem_tJ'.2 hx2)⟩
    rw [h2, Bool.and_true] at h1
    have h3 : imgL a (tJ hs) = tJ hs := by
      simpa using h1
    have h4 : (ap a y : Int) ∈ imgL a (tJ hs) := img_mem.2 ⟨(y : Int), mem_tJ'.2 hy, by rw [Int.toNat_natCast]; exact hge a ha y hy⟩
    rw [h3] at h4
    exact mem_tJ'.1 h4
  · intro h a ha hb
    rw [Bool.and_eq_true, List.any_eq_true, Bool.not_eq_true', decide_eq_false_iff_not] at hb
    obtain ⟨hne, x, hx, hx2⟩ := hb
    obtain ⟨y, hy, e⟩ := img_mem.1 hx
    obtain ⟨k, hk, rfl⟩ := mem_tJ.1 hy
    rw [Int.toNat_natCast] at e
    have h1 := h a ha ⟨k, hk, by
      have h2 := of_decide_eq_true hx2
      rw [← e, hge a ha k hk] at h2
      exact mem_tJ'.1 h2⟩
    refine hne (rise_eq (img_rise hG ha hr hn) (tJ_rise hr) fun z => ?_)
    have hsub : ∀ z ∈ imgL a (tJ hs), z ∈ tJ hs := fun z hz => by
      obtain ⟨y, hy, e⟩ := img_mem.1 hz
      obtain ⟨k, hk, rfl⟩ := mem_tJ.1 hy
      rw [Int.toNat_natCast] at e
      rw [← e, hge a ha k hk]
      exact mem_tJ'.2 (h1 k hk)
    exact ⟨hsub z, rise_sub_eq ((img_rise hG ha hr hn).imp fun h => by omega) ((tJ_rise hr).imp fun h => by omega) hsub (by rw [img_len]; exact Nat.le_refl _) z⟩
/-- All sets of points with some, in order. -/
def subF (n : Nat) : Nat → Nat → Nat → List (List Nat)
  | 0, c, _ => if c = 0 then [[]] else []
  | _ + 1, 0, _ => [[]]
  | d + 1, c + 1, f => if f + (c + 1) ≤ n then (subF n d c (f + 1)).map (f :: ·) ++ subF n d (c + 1) (f + 1) else []
def subL (n c f : Nat) : List (List Nat) := subF n (n + 1 - f) c f
theorem rise_room {n f : Nat} {pts : List Nat} (h2 : pts.Pairwise (· < ·)) (h3 : ∀ x ∈ pts, f ≤ x ∧ x < n) : pts.length ≤ n - f := by
  have h6 := nodup_sub_len (S := tJ pts) (T := (List.range (n - f)).map fun i : Nat => ((f + i : Nat) : Int)) ((tJ_rise h2).imp fun h => by omega) (fun x hx => by
    obtain ⟨j, hj, rfl⟩ := mem_tJ.1 hx
    have h8 := h3 j hj
    exact List.mem_map.2 ⟨j - f, List.mem_range.2 (by omega), by omega⟩)
  rw [tJ_len, List.length_map, List.length_range] at h6
  exact h6
theorem subF_mem {n : Nat} : ∀ (d c f : Nat) (pts : List Nat), f + d = n + 1 → (pts ∈ subF n d c f ↔ (pts.length = c ∧ pts.Pairwise (· < ·) ∧ ∀ x ∈ pts, f ≤ x ∧ x < n))
  | 0, c, f, pts, hd => by
    unfold subF
    split
    · rename_i h
      subst h
      rw [List.mem_singleton]
      exact ⟨fun h => by subst h; simp, fun h => List.length_eq_zero_iff.1 h.1⟩
    · rename_i h
      refine ⟨fun h => by simp at h, fun ⟨h1, h2, h3⟩ => ?_⟩
      have := rise_room h2 h3
      omega
  | d + 1, 0, f, pts, hd => by
    unfold subF
    rw [List.mem_singleton]
    exact ⟨fun h => by subst h; simp, fun h => List.length_eq_zero_iff.1 h.1⟩
  | d + 1, c + 1, f, pts, hd => by
    unfold subF
    split
    · rename_i hc
      rw [List.mem_append]
      constructor
      · rintro (h | h)
        · obtain ⟨r, hr, rfl⟩ := List.mem_map.1 h
          obtain ⟨h1, h2, h3⟩ := (subF_mem d c (f + 1) r (by omega)).1 hr
          refine ⟨by simp [h1], List.pairwise_cons.2 ⟨fun x hx => by have := h3 x hx; omega, h2⟩, fun x hx => ?_⟩
          rcases List.mem_cons.1 hx with rfl | hx
          · exact ⟨Nat.le_refl _, by omega⟩
          · have := h3 x hx; omega
        · obtain ⟨h1, h2, h3⟩ := (subF_mem d (c + 1) (f + 1) pts (by omega)).1 h
          exact ⟨h1, h2, fun x hx => by have := h3 x hx; omega⟩
      · rintro ⟨h1, h2, h3⟩
        cases pts with
        | nil => simp at h1
        | cons k r =>
          obtain ⟨h4, h5⟩ := List.pairwise_cons.1 h2
          have hk := h3 k (by simp)
          by_cases hkf : k = f
          · subst hkf
            exact .inl (List.mem_map.2 ⟨r, (subF_mem d c (k + 1) r (by omega)).2 ⟨by simpa using h1, h5, fun x hx => ⟨h4 x hx, (h3 x (by simp [hx])).2⟩⟩, rfl⟩)
          · refine .inr ((subF_mem d (c + 1) (f + 1) _ (by omega)).2 ⟨h1, h2, fun x hx => ?_⟩)
            have := h3 x hx
            rcases List.mem_cons.1 hx with rfl | hx
            · omega
            · have := h4 x hx; omega
    · rename_i hc
      refine ⟨fun h => by simp at h, fun ⟨h1, h2, h3⟩ => ?_⟩
      have := rise_room h2 h3
      omega
theorem sub_mem {n c f : Nat} (hf : f ≤ n) (pts : List Nat) : pts ∈ subL n c f ↔ (pts.length = c ∧ pts.Pairwise (· < ·) ∧ ∀ x ∈ pts, f ≤ x ∧ x < n) := subF_mem _ _ _ _ (by omega)
theorem sub_zero (n f : Nat) : subL n 0 f = [[]] := by
  unfold subL
  cases n + 1 - f <;> simp [subF]
theorem sub_step {n c f : Nat} (h : f + (c + 1) ≤ n) : subL n (c + 1) f = (subL n c (f + 1)).map (f :: ·) ++ subL n (c + 1) (f + 1) := by
  unfold subL
  obtain ⟨d, hd⟩ : ∃ d, n + 1 - f = d + 1 := ⟨n - f, by omega⟩
  have hd2 : n + 1 - (f + 1) = d := by omega
  rw [hd, hd2, subF, if_pos h]
theorem sub_end {n c f : Nat} (h : ¬ f + (c + 1) ≤ n) : subL n (c + 1) f = [] := by
  unfold subL
  cases n + 1 - f with
  | zero => simp [subF]
  | succ d => rw [subF, if_neg h]
theorem natrise_eq {S T : List Nat} (hS : S.Pairwise (· < ·)) (hT : T.Pairwise (· < ·)) (h : ∀ x, x ∈ S ↔ x ∈ T) : S = T := by
  have h1 : tJ S = tJ T := rise_eq (tJ_rise hS) (tJ_rise hT) fun x => by
    rw [mem_tJ, mem_tJ]
    exact ⟨fun ⟨k, hk, e⟩ => ⟨k, (h k).1 hk, e⟩, fun ⟨k, hk, e⟩ => ⟨k, (h k).2 hk, e⟩⟩
  have h2 := congrArg (fun l => l.map Int.toNat) h1
  simpa [tJ, List.map_map, Function.comp_def] using h2
theorem nat_sub_eq {S T : List Nat} (hS : S.Pairwise (· < ·)) (hT : T.Pairwise (· < ·)) (hs : ∀ x ∈ S, x ∈ T) (hl : T.length ≤ S.length) : S = T := by
  refine natrise_eq hS hT fun x => ⟨hs x, fun hx => ?_⟩
  have h1 := rise_sub_eq (S := tJ S) (T := tJ T) ((tJ_rise hS).imp fun h => by omega) ((tJ_rise hT).imp fun h => by omega) (fun y hy => by
    obtain ⟨k, hk, rfl⟩ := mem_tJ.1 hy
    exact mem_tJ'.2 (hs k hk)) (by rw [tJ_len, tJ_len]; exact hl) x (mem_tJ'.2 hx)
  exact mem_tJ'.1 h1
theorem nat_sub_len {S T : List Nat} (hS : S.Pairwise (· < ·)) (hs : ∀ x ∈ S, x ∈ T) : S.length ≤ T.length := by
  have h1 := nodup_sub_len (S := tJ S) (T := tJ T) ((tJ_rise hS).imp fun h => by omega) (fun y hy => by
    obtain ⟨k, hk, rfl⟩ := mem_tJ.1 hy
    exact mem_tJ'.2 (hs k hk))
  rw [tJ_len, tJ_len] at h1
  exact h1
/-- What the program's search meets: nothing smaller than the class, and the class alone at its size. -/
theorem find_cls {n : Nat} {ms : List (List Int)} {c : List Int} {a b : Nat} (hG : PG n ms) (h : Cls n ms [a, b] c) (hc : Cong n ms c) (ha : a < n) (hb : b < n) (hab : ap c a = ap c b) {pts : List Nat} {k : Nat} (hp : pts ∈ subL n k 0) :
    (k < (clsN n c a).length → ¬ (a ∈ pts ∧ b ∈ pts ∧ blkB ms (tJ pts) = true)) ∧ (k = (clsN n c a).length → (a ∈ pts ∧ b ∈ pts ∧ blkB ms (tJ pts) = true) → pts = clsN n c a) := by
  obtain ⟨h1, h2, h3⟩ := (sub_mem (Nat.zero_le _) pts).1 hp
  have key : (a ∈ pts ∧ b ∈ pts ∧ blkB ms (tJ pts) = true) → ∀ x ∈ clsN n c a, x ∈ pts := fun ⟨g1, g2, g3⟩ =>
    cls_low hG h ha ((blk_iff hG h2 (fun x hx => (h3 x hx).2)).1 g3) g1 (fun y hy => by
      rcases List.mem_cons.1 hy with e | e
      · rw [e]; exact g1
      · rw [List.mem_singleton.1 e]; exact g2)
  refine ⟨fun hk hall => ?_, fun hk hall => ?_⟩
  · have := nat_sub_len (cls_rise n c a) (key hall)
    omega
  · exact (nat_sub_eq (cls_rise n c a) h2 (key hall) (by omega)).symm
theorem cls_found {n : Nat} {ms : List (List Int)} {c : List Int} {a b : Nat} (hG : PG n ms) (h : Cls n ms [a, b] c) (hc : Cong n ms c) (ha : a < n) (hb : b < n) (hab : ap c a = ap c b) :
    clsN n c a ∈ subL n (clsN n c a).length 0 ∧ a ∈ clsN n c a ∧ b ∈ clsN n c a ∧ blkB ms (tJ (clsN n c a)) = true := by
  have hin : ∀ x ∈ clsN n c a, x < n := fun x hx => (mem_cls.1 hx).1
  exact ⟨(sub_mem (Nat.zero_le _) _).2 ⟨rfl, cls_rise n c a, fun x hx => ⟨Nat.zero_le _, hin x hx⟩⟩, mem_cls.2 ⟨ha, rfl⟩, mem_cls.2 ⟨hb, hab.symm⟩, (blk_iff hG (cls_rise n c a) hin).2 (cls_blk hG h hc a)⟩
end Go.Proofs.YtglijcdnnaekkaaGreat
