/- Several parts of the proof in one text; each part says what it shows. Nothing is assumed. -/
import Derived.Test.YtglijcdnnaekkaaGreatA201
import Derived.Test.YtglijcdnnaekkaaGreatA174
/- Plain laws: an orbit's size times a stabilizer's is the group's; the count of orbits by fixed points. -/
namespace Go.Proofs.YtglijcdnnaekkaaGreat
set_option linter.unusedVariables false
set_option linter.unusedSimpArgs false

def lsum {α : Type} (l : List α) (f : α → Nat) : Nat := (l.map f).sum
theorem lsum_cons {α : Type} (x : α) (l : List α) (f : α → Nat) : lsum (x :: l) f = f x + lsum l f := by simp [lsum]
theorem lsum_congr {α : Type} : ∀ {l : List α} {f g : α → Nat}, (∀ x ∈ l, f x = g x) → lsum l f = lsum l g
  | [], _, _, _ => rfl
  | x :: l, f, g, h => by
    rw [lsum_cons, lsum_cons, h x (by simp), lsum_congr fun y hy => h y (by simp [hy])]
theorem lsum_add {α : Type} : ∀ (l : List α) (f g : α → Nat), lsum l (fun x => f x + g x) = lsum l f + lsum l g
  | [], _, _ => rfl
  | x :: l, f, g => by
    rw [lsum_cons, lsum_cons, lsum_cons, lsum_add l f g]
    omega
theorem lsum_zero {α : Type} : ∀ (l : List α), lsum l (fun _ => 0) = 0
  | [] => rfl
  | x :: l => by rw [lsum_cons, lsum_zero l]
theorem lsum_swap {α β : Type} : ∀ (l : List α) (m : List β) (F : α → β → Nat), lsum l (fun x => lsum m (F x)) = lsum m (fun y => lsum l (fun x => F x y))
  | [], m, F => (lsum_zero m).symm
  | x :: l, m, F => by
    rw [lsum_cons, lsum_swap l m F, ← lsum_add]
    exact lsum_congr fun y _ => (lsum_cons x l fun x => F x y).symm
theorem lsum_filter {α : Type} (P : α → Bool) (c : Nat) : ∀ (l : List α), lsum l (fun x => if P x then c else 0) = (l.filter P).length * c
  | [] => by simp [lsum]
  | x :: l => by
    rw [lsum_cons, lsum_filter P c l]
    cases h : P x
    · simp [List.filter_cons, h]
    · simp only [List.filter_cons, h, if_true, List.length_cons, Nat.add_mul, Nat.one_mul]
      omega
theorem lsum_len {α : Type} (l : List α) : lsum l (fun _ => 1) = l.length := by
  have := lsum_filter (fun _ => true) 1 l
  rw [List.filter_eq_self.2 (fun _ _ => rfl), Nat.mul_one] at this
  exact this
theorem lsum_one (n k : Nat) (hk : k < n) (c : Nat → Nat) : lsum (List.range n) (fun q => if k = q then c q else 0) = c k := by
  induction n with
  | zero => omega
  | succ n ih =>
    have e : lsum (List.range (n + 1)) (fun q => if k = q then c q else 0) = lsum (List.range n) (fun q => if k = q then c q else 0) + (if k = n then c n else 0) := by
      simp [lsum, List.range_succ]
    rw [e]
    by_cases h : k = n
    · subst h
      rw [if_pos rfl]
      have h0 : lsum (List.range k) (fun q => if k = q then c q else 0) = 0 := by
        refine Eq.trans (lsum_congr fun x hx => ?_) (lsum_zero (List.range k))
        have hxk := List.mem_range.1 hx
        exact if_neg (fun e => by omega)
      omega
    · rw [if_neg h, ih (by omega)]
      omega
theorem sub_len {α : Type} [DecidableEq α] : ∀ {S T : List α}, S.Nodup → (∀ x ∈ S, x ∈ T) → S.length ≤ T.length
  | [], T, _, _ => Nat.zero_le _
  | x :: S, T, hd, hs => by
    have hx := hs x (by simp)
    rw [List.nodup_cons] at hd
    have h := sub_len (S := S) (T := T.erase x) hd.2 fun y hy => by
      have hne : y ≠ x := fun e => hd.1 (by rw [← e]; exact hy)
      exact (List.mem_erase_of_ne hne).2 (hs y (by simp [hy]))
    have h2 := List.length_erase_of_mem hx
    have h3 := List.length_pos_of_mem hx
    simp only [List.length_cons]
    omega
theorem inj_len {α : Type} [DecidableEq α] {S T : List α} (f : α → α) (hd : S.Nodup) (hs : ∀ x ∈ S, f x ∈ T) (hi : ∀ x ∈ S, ∀ y ∈ S, f x = f y → x = y) : S.length ≤ T.length := by
  have h1 : (S.map f).Nodup := by
    unfold List.Nodup
    rw [List.pairwise_map]
    exact hd.imp_of_mem fun {x y} hx hy hne e => hne (hi x hx y hy e)
  have h2 := sub_len (S := S.map f) (T := T) h1 fun y hy => by
    obtain ⟨x, hx, rfl⟩ := List.mem_map.1 hy
    exact hs x hx
  rwa [List.length_map] at h2
/-- A group as a list of permutations, each once. -/
structure PGN (n : Nat) (ms : List (List Int)) : Prop where
  pg : PG n ms
  nd : ms.Nodup
  prod : ∀ a ∈ ms, ∀ b ∈ ms, prodL a b ∈ ms
def stL (ms : List (List Int)) (p q : Nat) : List (List Int) := ms.filter fun a => ap a p == q
theorem mem_st {ms : List (List Int)} {p q : Nat} {a : List Int} : a ∈ stL ms p q ↔ a ∈ ms ∧ ap a p = q := by simp [stL]
theorem prod_inj {n : Nat} {b a a' : List Int} (hb : InR n b) (hi : ∀ i j, i < n → j < n → ap b i = ap b j → i = j) (ha : InR n a) (ha' : InR n a') (e : prodL b a = prodL b a') : a = a' := by
  refine gt_ext (by rw [ha.1, ha'.1]) fun i hi' => ?_
  rw [ha.1] at hi'
  have e4 : ap b (ap a i) = ap b (ap a' i) := by rw [← ap_prod ha hi', ← ap_prod ha' hi', e]
  have e5 := hi _ _ (ap_gt ha hi').2 (ap_gt ha' hi').2 e4
  rw [(ap_gt ha hi').1, (ap_gt ha' hi').1, e5]
theorem st_le {n : Nat} {ms : List (List Int)} (h : PGN n ms) {p q r : Nat} (hp : p < n) {b : List Int} (hb : b ∈ ms) (hq : ap b q = r) : (stL ms p q).length ≤ (stL ms p r).length := by
  refine inj_len (prodL b) (h.nd.filter _) (fun a ha => ?_) (fun a ha a' ha' e => ?_)
  · obtain ⟨h1, h2⟩ := mem_st.1 ha
    exact mem_st.2 ⟨h.prod b hb a h1, by rw [ap_prod (h.pg.inr a h1) hp, h2, hq]⟩
  · exact prod_inj (h.pg.inr b hb) (h.pg.inj b hb) (h.pg.inr a (mem_st.1 ha).1) (h.pg.inr a' (mem_st.1 ha').1) e
theorem st_eq {n : Nat} {ms : List (List Int)} (h : PGN n ms) {p q : Nat} (hp : p < n) {b : List Int} (hb : b ∈ ms) (hq : ap b p = q) : (stL ms p q).length = (stL ms p p).length := by
  obtain ⟨b', hb', hinv⟩ := h.pg.inv b hb
  have e : ap b' q = p := by rw [← hq]; exact (hinv p hp).1
  have h1 := st_le h hp hb' e
  have h2 := st_le h hp hb hq
  omega
def orbL (n : Nat) (ms : List (List Int)) (p : Nat) : List Nat := (List.range n).filter fun q => ms.any fun a => ap a p == q
theorem mem_orb {n : Nat} {ms : List (List Int)} {p q : Nat} : q ∈ orbL n ms p ↔ q < n ∧ ∃ a ∈ ms, ap a p = q := by
  unfold orbL
  rw [List.mem_filter, List.mem_range, List.any_eq_true]
  simp
theorem st_sum {n : Nat} {ms : List (List Int)} (h : PGN n ms) {p : Nat} (hp : p < n) : lsum (List.range n) (fun q => (stL ms p q).length) = ms.length := by
  have e1 : lsum (List.range n) (fun q => (stL ms p q).length) = lsum (List.range n) (fun q => lsum ms (fun a => if ap a p == q then 1 else 0)) :=
    lsum_congr fun q _ => by rw [lsum_filter, Nat.mul_one]; rfl
  rw [e1, lsum_swap, ← lsum_len ms]
  refine lsum_congr fun a ha => ?_
  refine Eq.trans (lsum_congr fun q _ => ?_) (lsum_one n (ap a p) (h.pg.lt ha hp) (fun _ => 1))
  simp
/-- An orbit's size times its stabilizer's. -/
theorem orb_st {n : Nat} {ms : List (List Int)} (h : PGN n ms) {p : Nat} (hp : p < n) : (orbL n ms p).length * (stL ms p p).length = ms.length := by
  rw [← st_sum h hp]
  unfold orbL
  rw [← lsum_filter]
  refine lsum_congr fun q hq => ?_
  cases hx : (ms.any fun a => ap a p == q)
  · rw [List.any_eq_false] at hx
    have : stL ms p q = [] := List.filter_eq_nil_iff.2 hx
    rw [this]; rfl
  · rw [List.any_eq_true] at hx
    obtain ⟨b, hb, e⟩ := hx
    have e : ap b p = q := by simpa using e
    rw [if_pos rfl, st_eq h hp hb e]
theorem orb_self {n : Nat} {ms : List (List Int)} (h : PGN n ms) {p : Nat} (hp : p < n) : p ∈ orbL n ms p := by
  obtain ⟨e, he, h1⟩ := h.pg.one
  exact mem_orb.2 ⟨hp, e, he, h1 p hp⟩
theorem orb_sym {n : Nat} {ms : List (List Int)} (h : PGN n ms) {p q : Nat} (hp : p < n) (hq : q ∈ orbL n ms p) : p ∈ orbL n ms q := by
  obtain ⟨h1, a, ha, e⟩ := mem_orb.1 hq
  obtain ⟨b, hb, hi⟩ := h.pg.inv a ha
  exact mem_orb.2 ⟨hp, b, hb, by rw [← e]; exact (hi p hp).1⟩
theorem orb_trans {n : Nat} {ms : List (List Int)} (h : PGN n ms) {p q r : Nat} (hp : p < n) (hq : q ∈ orbL n ms p) (hr : r ∈ orbL n ms q) : r ∈ orbL n ms p := by
  obtain ⟨h1, a, ha, e⟩ := mem_orb.1 hq
  obtain ⟨h2, b, hb, e'⟩ := mem_orb.1 hr
  exact mem_orb.2 ⟨h2, _, h.prod b hb a ha, by rw [ap_prod (h.pg.inr a ha) hp, e, e']⟩
theorem orb_eq {n : Nat} {ms : List (List Int)} (h : PGN n ms) {p q : Nat} (hp : p < n) (hq : q ∈ orbL n ms p) : orbL n ms q = orbL n ms p := by
  have hqn := (mem_orb.1 hq).1
  refine List.filter_congr fun r hr => ?_
  have hrn := List.mem_range.1 hr
  have h1 : r ∈ orbL n ms q ↔ r ∈ orbL n ms p := ⟨orb_trans h hp hq, orb_trans h hqn (orb_sym h hp hq)⟩
  rw [mem_orb, mem_orb] at h1
  rw [Bool.eq_iff_iff, List.any_eq_true, List.any_eq_true]
  simpa [hrn] using h1
def mnB (n : Nat) (ms : List (List Int)) (p : Nat) : Bool := (orbL n ms p).all fun q => decide (p ≤ q)
theorem least : ∀ (l : List Nat), l ≠ [] → ∃ r ∈ l, ∀ q ∈ l, r ≤ q
  | [], h => absurd rfl h
  | x :: l, _ => by
    by_cases hl : l = []
    · subst hl; exact ⟨x, by simp, fun q hq => by simp at hq; omega⟩
    · obtain ⟨r, hr, h2⟩ := least l hl
      by_cases hx : x ≤ r
      · refine ⟨x, by simp, fun q hq => ?_⟩
        rcases List.mem_cons.1 hq with rfl | hq
        · omega
        · have := h2 q hq; omega
      · refine ⟨r, by simp [hr], fun q hq => ?_⟩
        rcases List.mem_cons.1 hq with rfl | hq
        · omega
        · exact h2 q hq
/-- Each point lies in one orbit, told by its least point. -/
theorem mn_one {n : Nat} {ms : List (List Int)} (h : PGN n ms) {p : Nat} (hp : p < n) : ∃ r, r < n ∧ ∀ q, q < n → ((mnB n ms q && decide (p ∈ orbL n ms q)) = true ↔ r = q) := by
  have hne : orbL n ms p ≠ [] := List.ne_nil_of_mem (orb_self h hp)
  obtain ⟨r, hr, hmin⟩ := least _ hne
  have hrn := (mem_orb.1 hr).1
  refine ⟨r, hrn, fun q hq => ?_⟩
  rw [Bool.and_eq_true, decide_eq_true_eq]
  unfold mnB
  rw [List.all_eq_true]
  constructor
  · rintro ⟨h1, h2⟩
    have e := orb_eq h hq h2
    have e2 : r ∈ orbL n ms q := by rw [← e]; exact hr
    have h3 := h1 r e2
    have h4 := hmin q (by rw [e]; exact orb_self h hq)
    have h3 : q ≤ r := by simpa using h3
    omega
  · rintro rfl
    have e := orb_eq h hp hr
    exact ⟨fun x hx => by rw [e] at hx; simpa using hmin x hx, orb_sym h hp hr⟩
/-- The sum of all stabilizers' sizes. -/
theorem burn {n : Nat} {ms : List (List Int)} (h : PGN n ms) : lsum (List.range n) (fun p => (stL ms p p).length) = ((List.range n).filter (mnB n ms)).length * ms.length := by
  have e1 : lsum (List.range n) (fun p => (stL ms p p).length) = lsum (List.range n) (fun p => lsum (List.range n) (fun r => if (mnB n ms r && decide (p ∈ orbL n ms r)) = true then (stL ms p p).length else 0)) := by
    refine lsum_congr fun p hp => ?_
    have hp := List.mem_range.1 hp
    obtain ⟨r, hr, hiff⟩ := mn_one h hp
    refine (lsum_one n r hr (fun _ => (stL ms p p).length)).symm.trans ?_
    refine lsum_congr fun q hq => ?_
    have := hiff q (List.mem_range.1 hq)
    by_cases hx : r = q
    · rw [if_pos hx, if_pos (this.2 hx)]
    · rw [if_neg hx, if_neg (fun h => hx (this.1 h))]
  rw [e1, lsum_swap, ← lsum_filter]
  refine lsum_congr fun r hr => ?_
  have hr := List.mem_range.1 hr
  cases hm : mnB n ms r
  · refine Eq.trans ?_ (lsum_zero (List.range n))
    exact lsum_congr fun p _ => by simp
  · rw [if_pos rfl, ← orb_st h hr]
    have e2 : (orbL n ms r).length * (stL ms r r).length = ((List.range n).filter fun p => decide (p ∈ orbL n ms r)).length * (stL ms r r).length := by
      congr 2
      unfold orbL
      refine List.filter_congr fun q hq => ?_
      have hqn := List.mem_range.1 hq
      rw [Bool.eq_iff_iff, decide_eq_true_eq, List.mem_filter]
      simp [hqn]
    rw [e2, ← lsum_filter]
    refine lsum_congr fun p hp => ?_
    have hpn := List.mem_range.1 hp
    rw [Bool.true_and]
    by_cases hx : p ∈ orbL n ms r
    · rw [if_pos (by simpa using hx), if_pos (by simpa using hx)]
      have e := orb_eq h hr hx
      have h1 := orb_st h hr
      have h2 := orb_st h hpn
      rw [e] at h2
      have h3 : 0 < (orbL n ms r).length := List.length_pos_of_mem hx
      exact Nat.eq_of_mul_eq_mul_left h3 (by omega)
    · rw [if_neg (by simpa using hx), if_neg (by simpa using hx)]
/-- How many points a permutation leaves. -/
def fxN (n : Nat) (a : List Int) : Nat := ((List.range n).filter fun p => ap a p == p).length
theorem fx_le (n : Nat) (a : List Int) : fxN n a ≤ n := by
  have := List.length_filter_le (fun p => ap a p == p) (List.range n)
  rwa [List.length_range] at this
theorem fx_sum {n : Nat} {ms : List (List Int)} (h : PGN n ms) : lsum (List.range (n + 1)) (fun i => i * (ms.filter fun a => fxN n a == i).length) = ((List.range n).filter (mnB n ms)).length * ms.length := by
  rw [← burn h]
  have e1 : lsum (List.range (n + 1)) (fun i => i * (ms.filter fun a => fxN n a == i).length) = lsum (List.range (n + 1)) (fun i => lsum ms (fun a => if (fxN n a == i) = true then i else 0)) :=
    lsum_congr fun i _ => by rw [lsum_filter, Nat.mul_comm]
  have e2 : lsum (List.range n) (fun p => (stL ms p p).length) = lsum (List.range n) (fun p => lsum ms (fun a => if (ap a p == p) = true then 1 else 0)) :=
    lsum_congr fun i _ => by rw [lsum_filter, Nat.mul_one]; rfl
  rw [e1, e2, lsum_swap, lsum_swap (List.range n)]
  refine lsum_congr fun a _ => ?_
  have h1 := lsum_one (n + 1) (fxN n a) (by have := fx_le n a; omega) (fun i => i)
  rw [lsum_filter, Nat.mul_one]
  have h2 : lsum (List.range (n + 1)) (fun i => if (fxN n a == i) = true then i else 0) = fxN n a := by
    refine Eq.trans (lsum_congr fun i _ => ?_) h1
    simp
  rw [h2]; rfl
theorem fx_all {n : Nat} (ms : List (List Int)) : lsum (List.range (n + 1)) (fun i => (ms.filter fun a => fxN n a == i).length) = ms.length := by
  have e1 : lsum (List.range (n + 1)) (fun i => (ms.filter fun a => fxN n a == i).length) = lsum (List.range (n + 1)) (fun i => lsum ms (fun a => if (fxN n a == i) = true then 1 else 0)) :=
    lsum_congr fun i _ => by rw [lsum_filter, Nat.mul_one]
  rw [e1, lsum_swap, ← lsum_len ms]
  refine lsum_congr fun a _ => ?_
  have h1 := lsum_one (n + 1) (fxN n a) (by have := fx_le n a; omega) (fun _ => 1)
  refine Eq.trans (lsum_congr fun i _ => ?_) h1
  simp
end Go.Proofs.YtglijcdnnaekkaaGreat
/- Plain laws for orbits, stabilizers and fixed points of a group. -/
namespace Go.Proofs.YtglijcdnnaekkaaGreat
set_option linter.unusedVariables false
set_option linter.unusedSimpArgs false

theorem grp_x {n : Nat} {l : List Int} (hk : InK n l) : ∀ x ∈ l, ∃ r : Nat, x = r ∧ r < fact n := fun x hx => by
  obtain ⟨k, hk', e⟩ := List.mem_iff_getElem.1 hx
  have := hk k hk'
  rw [gt_eq hk', e] at this
  exact ⟨x.toNat, by omega, by omega⟩
theorem grp_rise {n : Nat} {l : List Int} (h : grpB n l = true) : l.Pairwise (· < ·) := by
  unfold grpB at h
  simp only [Bool.and_eq_true, decide_eq_true_eq] at h
  obtain ⟨_, _, g2, g3, g4⟩ := h
  rw [Int.toNat_natCast] at g3
  exact rise_pw (riseB_p g3)
theorem memL_inr {n : Nat} {l : List Int} (h2 : n ≤ 6) (hk : InK n l) : ∀ a ∈ memL n l, InR n a ∧ a.Nodup := fun a ha => by
  obtain ⟨x, hx', rfl⟩ := mem_memL.1 ha
  obtain ⟨r, rfl, hr⟩ := grp_x hk x hx'
  rw [Int.toNat_natCast]
  exact ⟨wrL_in hr, (wr_nd h2 hr).1⟩
theorem pgn_of {n : Nat} {l : List Int} (h : grpB n l = true) : PGN n (memL n l) := by
  have hpw := grp_rise h
  have hpg := pg_of h
  obtain ⟨n', hn, h1, h2, h3, h4, hk⟩ := grpB_t h
  obtain rfl : n = n' := by omega
  have hx := grp_x hk
  have hin := memL_inr h2 hk
  refine ⟨hpg, ?_, fun a ha b hb => ?_⟩
  · unfold List.Nodup memL
    rw [List.pairwise_map]
    refine hpw.imp_of_mem fun {x y} hx1 hy1 hlt e => ?_
    obtain ⟨r, rfl, hr⟩ := hx x hx1
    obtain ⟨s, rfl, hs⟩ := hx y hy1
    rw [Int.toNat_natCast, Int.toNat_natCast] at e
    have e6 : r = s := by rw [← (wr_nd h2 hr).2, ← (wr_nd h2 hs).2, e]
    omega
  · unfold grpB at h
    simp only [Bool.and_eq_true, decide_eq_true_eq] at h
    obtain ⟨_, _, g2, g3, g4⟩ := h
    rw [Int.toNat_natCast] at g4
    have hclo : ((rk (prodL a b) : Nat) : Int) ∈ l := by
      unfold cloB at g4
      rw [List.all_eq_true] at g4
      have h6 := g4 a ha
      unfold cloR at h6
      rw [Bool.not_eq_true', List.any_eq_false] at h6
      have h7 := h6 b hb
      simpa using h7
    refine mem_memL.2 ⟨_, hclo, ?_⟩
    rw [Int.toNat_natCast]
    exact (wr_rk h2 ((hin a ha).1.prod (hin b hb).1) (prod_nd (hin a ha).1 (hin b hb).1 (hin a ha).2 (hin b hb).2)).1
theorem orL_orb {n : Nat} {l : List Int} (h2 : n ≤ 6) (hk : InK n l) {p : Nat} (hp : p < n) : orL n l p = (orbL n (memL n l) p).map fun q : Nat => (q : Int) := by
  obtain ⟨h3, h4⟩ := sorted_compact (imL n l p)
  refine rise_eq h3 ?_ fun x => ?_
  · rw [List.pairwise_map]
    exact (List.pairwise_lt_range.filter _).imp fun h => by omega
  · have hm := memL_inr h2 hk
    refine (h4 x).trans ?_
    unfold imL
    rw [List.mem_map, List.mem_map]
    constructor
    · rintro ⟨a, ha, rfl⟩
      have e := ap_gt (hm a ha).1 hp
      exact ⟨ap a p, mem_orb.2 ⟨e.2, a, ha, rfl⟩, e.1.symm⟩
    · rintro ⟨q, hq, rfl⟩
      obtain ⟨_, a, ha, rfl⟩ := mem_orb.1 hq
      exact ⟨a, ha, (ap_gt (hm a ha).1 hp).1⟩
theorem orL_sz {n : Nat} {l : List Int} (h2 : n ≤ 6) (hk : InK n l) {p : Nat} (hp : p < n) : (orL n l p).length = (orbL n (memL n l) p).length := by rw [orL_orb h2 hk hp, List.length_map]
theorem mn_first {n : Nat} {l : List Int} (h : grpB n l = true) {p : Nat} (hp : p < n) : (gt (orL n l p) 0 == (p : Int)) = mnB n (memL n l) p := by
  have hG := pgn_of h
  obtain ⟨n', hn, h1, h2, h3, h4, hk⟩ := grpB_t h
  obtain rfl : n = n' := by omega
  rw [orL_orb h2 hk hp]
  have hs := orb_self hG hp
  have hpw : (orbL n (memL n l) p).Pairwise (· < ·) := List.pairwise_lt_range.filter _
  unfold mnB
  cases hl : orbL n (memL n l) p with
  | nil => rw [hl] at hs; exact absurd hs (by simp)
  | cons x xs =>
    rw [hl] at hs hpw
    rw [List.pairwise_cons] at hpw
    have e : gt ((x :: xs).map fun q : Nat => (q : Int)) 0 = (x : Int) := by simp [gt]
    rw [e, Bool.eq_iff_iff, beq_iff_eq, List.all_eq_true]
    constructor
    · intro h q hq
      obtain rfl : x = p := by omega
      rcases List.mem_cons.1 hq with rfl | hq
      · simp
      · have := hpw.1 q hq
        rw [decide_eq_true_eq]; omega
    · intro h
      have h5 := h x (by simp)
      rw [decide_eq_true_eq] at h5
      rcases List.mem_cons.1 hs with rfl | hq
      · rfl
      · have := hpw.1 p hq
        omega
theorem obL_sz {n : Nat} {l : List Int} (h : grpB n l = true) : (obL n l n).length = ((List.range n).filter (mnB n (memL n l))).length := by
  unfold obL
  rw [List.length_map]
  congr 1
  exact List.filter_congr fun p hp => mn_first h (List.mem_range.1 hp)
/-- The ranks of a stabilizer. -/
def sbL (n : Nat) (l : List Int) (p : Nat) : List Int := l.filter fun x => gt (wrL n x.toNat) p == (p : Int)
theorem sb_st {n : Nat} {l : List Int} (h2 : n ≤ 6) (hk : InK n l) {p : Nat} (hp : p < n) : memL n (sbL n l p) = stL (memL n l) p p := by
  unfold memL sbL stL
  rw [List.filter_map]
  congr 1
  refine List.filter_congr fun x hx => ?_
  have e := ap_gt (memL_inr h2 hk _ (mem_memL.2 ⟨x, hx, rfl⟩)).1 hp
  rw [Function.comp, e.1, Bool.eq_iff_iff, beq_iff_eq, beq_iff_eq]
  omega
theorem sb_sz {n : Nat} {l : List Int} (h2 : n ≤ 6) (hk : InK n l) {p : Nat} (hp : p < n) : (sbL n l p).length = (stL (memL n l) p p).length := by
  rw [← sb_st h2 hk hp, memL_len]
theorem orb_stab {n : Nat} {l : List Int} (h : grpB n l = true) {p : Nat} (hp : p < n) : (orL n l p).length * (sbL n l p).length = l.length := by
  have hG := pgn_of h
  obtain ⟨n', hn, h1, h2, h3, h4, hk⟩ := grpB_t h
  obtain rfl : n = n' := by omega
  rw [orL_sz h2 hk hp, sb_sz h2 hk hp, orb_st hG hp, memL_len]
theorem sb_rk {n : Nat} {l : List Int} (h : grpB n l = true) {p : Nat} (hp : p < n) : rkC (stL (memL n l) p p) = sbL n l p := by
  have hpw := grp_rise h
  obtain ⟨n', hn, h1, h2, h3, h4, hk⟩ := grpB_t h
  obtain rfl : n = n' := by omega
  have e : rksL (stL (memL n l) p p) = sbL n l p := by
    rw [← sb_st h2 hk hp]
    unfold rksL memL
    rw [List.map_map]
    have : ∀ x ∈ sbL n l p, ((fun a => ((rk a : Nat) : Int)) ∘ fun x : Int => wrL n x.toNat) x = x := fun x hx => by
      obtain ⟨r, rfl, hr⟩ := grp_x hk x (List.mem_filter.1 hx).1
      simp [(wr_nd h2 hr).2]
    rw [List.map_congr_left this, List.map_id']
  unfold rkC
  rw [e]
  obtain ⟨h5, h6⟩ := sorted_compact (sbL n l p)
  exact rise_eq h5 (hpw.filter _) h6
theorem orL_mem {n : Nat} {l : List Int} (h : grpB n l = true) {p : Nat} (hp : p < n) : (p : Int) ∈ orL n l p := by
  have hG := pgn_of h
  obtain ⟨n', hn, h1, h2, h3, h4, hk⟩ := grpB_t h
  obtain rfl : n = n' := by omega
  rw [orL_orb h2 hk hp]
  exact List.mem_map.2 ⟨p, orb_self hG hp, rfl⟩
/-- How many permutations leave each number of points. -/
def fpS (n : Nat) (ms : List (List Int)) : List Int := (List.range (n + 1)).map fun i => (((ms.filter fun a => fxN n a == i).length : Nat) : Int)
theorem fpS_len (n : Nat) (ms : List (List Int)) : (fpS n ms).length = n + 1 := by simp [fpS]
theorem fpS_gt {n i : Nat} (ms : List (List Int)) (hi : i < n + 1) : gt (fpS n ms) i = (((ms.filter fun a => fxN n a == i).length : Nat) : Int) := by
  rw [gt_eq (by rw [fpS_len]; exact hi)]
  simp [fpS]
theorem fpS_nil (n : Nat) : fpS n [] = List.replicate (n + 1) 0 := by
  refine gt_ext (by simp [fpS]) fun i hi => ?_
  rw [fpS_len] at hi
  rw [fpS_gt _ hi, gt_eq (by simpa using hi)]
  simp
theorem fpS_set {n k : Nat} {ms : List (List Int)} (hk : k < ms.length) : fpS n (ms.take (k + 1)) = (fpS n (ms.take k)).set (fxN n (gl ms k)) (gt (fpS n (ms.take k)) (fxN n (gl ms k)) + 1) := by
  have hf := fx_le n (gl ms k)
  have e : ms.take (k + 1) = ms.take k ++ [gl ms k] := by
    rw [List.take_succ_eq_append_getElem hk]
    simp [gl, List.getElem?_eq_getElem hk]
  refine gt_ext (by simp [fpS]) fun i hi => ?_
  rw [fpS_len] at hi
  rw [fpS_gt _ hi, fpS_gt _ (by omega), e]
  by_cases h : fxN n (gl ms k) = i
  · subst h
    rw [gt_eq (by rw [List.length_set, fpS_len]; exact hi), List.getElem_set_self]
    simp
  · rw [gt_eq (by rw [List.length_set, fpS_len]; exact hi), List.getElem_set_ne h, ← gt_eq (by rw [fpS_len]; exact hi), fpS_gt _ hi]
    simp [h]
theorem fpS_bd {n i : Nat} (ms : List (List Int)) (hi : i < n + 1) : 0 ≤ gt (fpS n ms) i ∧ gt (fpS n ms) i ≤ (ms.length : Int) := by
  rw [fpS_gt ms hi]
  have := List.length_filter_le (fun a => fxN n a == i) ms
  omega
/-- Sums over a list's first elements. -/
def sm1 (l : List Int) : Nat → Int
  | 0 => 0
  | k + 1 => sm1 l k + gt l k
def sm2 (l : List Int) : Nat → Int
  | 0 => 0
  | k + 1 => sm2 l k + (k : Int) * gt l k
theorem sm1_fp (n : Nat) (ms : List (List Int)) : ∀ k, k ≤ n + 1 → sm1 (fpS n ms) k = (lsum (List.range k) (fun i => (ms.filter fun a => fxN n a == i).length) : Nat)
  | 0, _ => rfl
  | k + 1, h => by
    show sm1 (fpS n ms) k + gt (fpS n ms) k = _
    rw [sm1_fp n ms k (by omega), fpS_gt ms (by omega)]
    simp [lsum, List.range_succ]
theorem sm2_fp (n : Nat) (ms : List (List Int)) : ∀ k, k ≤ n + 1 → sm2 (fpS n ms) k = (lsum (List.range k) (fun i => i * (ms.filter fun a => fxN n a == i).length) : Nat)
  | 0, _ => rfl
  | k + 1, h => by
    show sm2 (fpS n ms) k + (k : Int) * gt (fpS n ms) k = _
    rw [sm2_fp n ms k (by omega), fpS_gt ms (by omega)]
    simp [lsum, List.range_succ]
theorem fp_sum {n : Nat} {l : List Int} : sm1 (fpS n (memL n l)) (n + 1) = (l.length : Int) := by
  rw [sm1_fp n _ _ (Nat.le_refl _), fx_all, memL_len]
theorem fp_burn {n : Nat} {l : List Int} (h : grpB n l = true) : sm2 (fpS n (memL n l)) (n + 1) = ((obL n l n).length : Int) * (l.length : Int) := by
  rw [sm2_fp n _ _ (Nat.le_refl _), fx_sum (pgn_of h), memL_len, ← obL_sz h, Int.natCast_mul]
theorem sm_bd {l : List Int} {b : Int} : ∀ k, (∀ i, i < k → 0 ≤ gt l i ∧ gt l i ≤ b) → 0 ≤ b → (0 ≤ sm1 l k ∧ sm1 l k ≤ k * b) ∧ (0 ≤ sm2 l k ∧ sm2 l k ≤ k * (k * b))
  | 0, _, _ => by simp [sm1, sm2]
  | k + 1, h, hb => by
    obtain ⟨⟨h1, h2⟩, h3, h4⟩ := sm_bd k (fun i hi => h i (by omega)) hb
    obtain ⟨g1, g2⟩ := h k (by omega)
    have p1 : 0 ≤ (k : Int) * gt l k := Int.mul_nonneg (by omega) g1
    have p2 : (k : Int) * gt l k ≤ k * b := Int.mul_le_mul_of_nonneg_left g2 (by omega)
    have p3 : (k : Int) * (k * b) ≤ k * ((k + 1 : Nat) * b) := Int.mul_le_mul_of_nonneg_left (Int.mul_le_mul_of_nonneg_right (by omega) hb) (by omega)
    have e1 : ((k + 1 : Nat) : Int) * b = k * b + b := by rw [Int.natCast_add, Int.add_mul]; simp
    have e2 : ((k + 1 : Nat) : Int) * (((k + 1 : Nat) : Int) * b) = k * (((k + 1 : Nat) : Int) * b) + ((k + 1 : Nat) : Int) * b := by rw [Int.natCast_add, Int.add_mul]; simp
    show (0 ≤ sm1 l k + gt l k ∧ sm1 l k + gt l k ≤ _) ∧ (0 ≤ sm2 l k + (k : Int) * gt l k ∧ sm2 l k + (k : Int) * gt l k ≤ _)
    exact ⟨⟨by omega, by omega⟩, by omega, by omega⟩
end Go.Proofs.YtglijcdnnaekkaaGreat
