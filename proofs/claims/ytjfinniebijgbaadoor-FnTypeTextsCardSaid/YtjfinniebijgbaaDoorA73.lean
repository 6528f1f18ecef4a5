/- Several parts of the proof in one text; each part says what it shows. Nothing is assumed. -/
import Derived.Test.YtjfinniebijgbaaDoorA8
import Derived.Test.YtjfinniebijgbaaDoorA16
import Derived.Test.YtjfinniebijgbaaDoorA20
import Derived.Lib.SlicesCompact
/- Plain laws of permutations: products, ranks, what generators reach. -/
namespace Go.Proofs.YtjfinniebijgbaaDoor
set_option linter.unusedVariables false
set_option linter.unusedSimpArgs false
open Go.RowKit

/-- The first j elements of b, each taken through a. -/
def prodL (a b : List Int) : List Int := b.map fun x => gt a x.toNat
theorem prodL_len (a b : List Int) : (prodL a b).length = b.length := by simp [prodL]
theorem prodL_take_succ {a b : List Int} {k : Nat} (h : k < b.length) : prodL a (b.take (k + 1)) = prodL a (b.take k) ++ [gt a (gt b k).toNat] := by
  simp only [prodL]
  rw [List.take_succ_eq_append_getElem h, List.map_append]
  simp [gt, List.getElem?_eq_getElem h]
def idL (n : Nat) : List Int := (List.range n).map fun k : Nat => (k : Int)
theorem idL_len (n : Nat) : (idL n).length = n := by simp [idL]
theorem idL_succ (n : Nat) : idL (n + 1) = idL n ++ [(n : Int)] := by simp [idL, List.range_succ]
/-- All elements are points below n, and there are n of them. -/
def InR (n : Nat) (a : List Int) : Prop := a.length = n ∧ ∀ k, k < n → 0 ≤ gt a k ∧ gt a k < (n : Int)
theorem gt_map {f : Int → Int} {l : List Int} {k : Nat} (h : k < l.length) : gt (l.map f) k = f (gt l k) := by
  simp [gt, List.getElem?_eq_getElem h]
theorem InR.prod {n : Nat} {a b : List Int} (ha : InR n a) (hb : InR n b) : InR n (prodL a b) := by
  refine ⟨by rw [prodL_len]; exact hb.1, fun k hk => ?_⟩
  obtain ⟨h1, h2⟩ := hb.2 k hk
  unfold prodL
  rw [gt_map (by rw [hb.1]; exact hk)]
  exact ha.2 _ (by omega)
theorem idL_in (n : Nat) : InR n (idL n) := by
  refine ⟨idL_len n, fun k hk => ?_⟩
  have : gt (idL n) k = (k : Int) := by simp [gt, idL, hk]
  rw [this]
  omega
/-- How many of the m elements from s on are less than x. -/
def cntL (a : List Int) (x : Int) (s : Nat) : Nat → Nat
  | 0 => 0
  | j + 1 => cntL a x s j + if gt a (s + j) < x then 1 else 0
theorem cntL_le (a : List Int) (x : Int) (s : Nat) : ∀ j, cntL a x s j ≤ j
  | 0 => Nat.le_refl _
  | j + 1 => by
    have := cntL_le a x s j
    unfold cntL
    split <;> omega
theorem cntL_yes {a : List Int} {x : Int} {s j : Nat} (h : gt a (s + j) < x) : cntL a x s (j + 1) = cntL a x s j + 1 := by rw [cntL, if_pos h]
theorem cntL_no {a : List Int} {x : Int} {s j : Nat} (h : ¬ gt a (s + j) < x) : cntL a x s (j + 1) = cntL a x s j := by rw [cntL, if_neg h]; rfl
def rkL (a : List Int) : Nat → Nat
  | 0 => 0
  | k + 1 => rkL a k * (a.length - k) + cntL a (gt a k) (k + 1) (a.length - (k + 1))
theorem rkL_succ (a : List Int) (k : Nat) : rkL a (k + 1) = rkL a k * (a.length - k) + cntL a (gt a k) (k + 1) (a.length - (k + 1)) := rfl
def rk (a : List Int) : Nat := rkL a a.length
theorem rkL_bd (a : List Int) : ∀ k, k ≤ a.length → (rkL a k + 1) * fact (a.length - k) ≤ fact a.length
  | 0, _ => by simp [rkL]
  | k + 1, h => by
    have ih := rkL_bd a k (by omega)
    have hc := cntL_le a (gt a k) (k + 1) (a.length - (k + 1))
    obtain ⟨m, hm⟩ : ∃ m, a.length - k = m + 1 := ⟨a.length - k - 1, by omega⟩
    have hm' : a.length - (k + 1) = m := by omega
    rw [hm'] at hc ⊢
    rw [hm] at ih
    have e : fact (m + 1) = (m + 1) * fact m := by first | rfl | simp [fact, Nat.mul_comm]
    rw [e, ← Nat.mul_assoc] at ih
    refine Nat.le_trans (Nat.mul_le_mul_right _ ?_) ih
    rw [rkL_succ, hm, hm', Nat.add_mul, Nat.one_mul]
    omega
theorem rk_lt (a : List Int) : rk a < fact a.length := by
  have h := rkL_bd a a.length (Nat.le_refl _)
  rw [Nat.sub_self] at h
  have : fact 0 = 1 := rfl
  rw [this, Nat.mul_one] at h
  exact h
theorem rkL_le {a : List Int} {k : Nat} (h : k ≤ a.length) : rkL a k < fact a.length := by
  have h1 := rkL_bd a k h
  have h2 : 1 ≤ fact (a.length - k) := fact_pos _
  have h3 : (rkL a k + 1) * 1 ≤ (rkL a k + 1) * fact (a.length - k) := Nat.mul_le_mul_left _ h2
  omega
theorem gt_id {n k : Nat} (h : k < n) : gt (idL n) k = (k : Int) := by simp [gt, idL, h]
theorem rkL_id (n : Nat) : ∀ k, k ≤ n → rkL (idL n) k = 0
  | 0, _ => rfl
  | k + 1, h => by
    have hc : ∀ j, k + 1 + j ≤ n → cntL (idL n) (gt (idL n) k) (k + 1) j = 0 := by
      intro j
      induction j with
      | zero => intro _; rfl
      | succ j ih =>
        intro hj
        rw [cntL_no, ih (by omega)]
        rw [gt_id (by omega), gt_id (by omega)]
        omega
    rw [rkL_succ, rkL_id n k (by omega), idL_len, hc _ (by omega)]
    simp
theorem rk_id (n : Nat) : rk (idL n) = 0 := by
  unfold rk
  rw [idL_len]
  exact rkL_id n n (Nat.le_refl _)
/-- One member met with all generators. -/
def stepG (m : List Int) : List (List Int) → List (List Int) → List Bool → List (List Int) × List Bool
  | [], ms, sn => (ms, sn)
  | g :: gs, ms, sn => if sn.getD (rk (prodL g m)) false then stepG m gs ms sn else stepG m gs (ms ++ [prodL g m]) (sn.set (rk (prodL g m)) true)
def bfs (gens : List (List Int)) : Nat → Nat → List (List Int) → List Bool → List (List Int) × List Bool
  | 0, _, ms, sn => (ms, sn)
  | f + 1, k, ms, sn => if k < ms.length then bfs gens f (k + 1) (stepG (gl ms k) gens ms sn).1 (stepG (gl ms k) gens ms sn).2 else (ms, sn)
/-- How many are true. -/
def trues (sn : List Bool) : Nat := sn.countP (fun b => b)
theorem trues_set : ∀ (sn : List Bool) (r : Nat), r < sn.length → sn.getD r false = false → trues (sn.set r true) = trues sn + 1
  | [], r, h, _ => by simp at h
  | b :: sn, 0, _, h => by
    simp at h; subst h
    simp [trues]
  | b :: sn, r + 1, h, h' => by
    simp at h h'
    have := trues_set sn r h (by simpa using h')
    simp only [List.set_cons_succ, trues, List.countP_cons] at this ⊢
    omega
theorem trues_le (sn : List Bool) : trues sn ≤ sn.length := List.countP_le_length
/-- What holds of the members and of what was seen. -/
def GI (n : Nat) (ms : List (List Int)) (sn : List Bool) : Prop :=
  sn.length = fact n ∧ ms.length = trues sn ∧ (∀ k, k < ms.length → InR n (gl ms k)) ∧ (∀ r, sn.getD r false = true ↔ ∃ k, k < ms.length ∧ rk (gl ms k) = r)
theorem getD_set_self {sn : List Bool} {r : Nat} (h : r < sn.length) : (sn.set r true).getD r false = true := by simp [h]
theorem getD_set_ne {sn : List Bool} {r q : Nat} (h : r ≠ q) : (sn.set r true).getD q false = sn.getD q false := by simp [List.getElem?_set_ne h]
theorem GI.le {n : Nat} {ms : List (List Int)} {sn : List Bool} (h : GI n ms sn) : ms.length ≤ fact n := by
  have := trues_le sn
  rw [h.2.1, ← h.1]; exact this
theorem GI.more {n : Nat} {ms : List (List Int)} {sn : List Bool} {b : List Int} (h : GI n ms sn) (hb : InR n b) (h0 : sn.getD (rk b) false = false) : GI n (ms ++ [b]) (sn.set (rk b) true) := by
  obtain ⟨h1, h2, h3, h4⟩ := h
  have hr : rk b < sn.length := by rw [h1, ← hb.1]; exact rk_lt b
  refine ⟨by simp [h1], ?_, fun k hk => ?_, fun r => ?_⟩
  · rw [trues_set _ _ hr h0]; simp [h2]
  · simp at hk
    rcases Nat.lt_or_ge k ms.length with hlt | hge
    · rw [gl_snoc_lt hlt]; exact h3 k hlt
    · obtain rfl : k = ms.length := by omega
      rw [gl_snoc]; exact hb
  · by_cases hrb : rk b = r
    · subst hrb
      rw [getD_set_self hr]
      simp only [true_iff]
      exact ⟨ms.length, by simp, by rw [gl_snoc]⟩
    · rw [getD_set_ne hrb, h4 r]
      constructor
      · rintro ⟨k, hk, e⟩
        exact ⟨k, by simp; omega, by rw [gl_snoc_lt hk]; exact e⟩
      · rintro ⟨k, hk, e⟩
        simp at hk
        rcases Nat.lt_or_ge k ms.length with hlt | hge
        · rw [gl_snoc_lt hlt] at e; exact ⟨k, hlt, e⟩
        · obtain rfl : k = ms.length := by omega
          rw [gl_snoc] at e; exact absurd e hrb
theorem GI.start {n : Nat} (h : 0 < fact n) : GI n [idL n] ((List.replicate (fact n) false).set 0 true) := by
  have hid : rk (idL n) = 0 := rk_id n
  have hr : ∀ r, (List.replicate (fact n) false).getD r false = false := by
    intro r; simp [List.getElem?_replicate]; split <;> rfl
  have ht : trues (List.replicate (fact n) false) = 0 := by simp [trues, List.countP_replicate]
  refine ⟨by simp, ?_, fun k hk => ?_, fun r => ?_⟩
  · rw [trues_set _ _ (by simp; exact h) (hr 0), ht]; rfl
  · simp at hk; subst hk; exact idL_in n
  · by_cases h0 : 0 = r
    · subst h0
      rw [getD_set_self (by simp; exact h)]
      simp only [true_iff]
      exact ⟨0, by simp, by simpa [gl] using hid⟩
    · rw [getD_set_ne h0, hr]
      simp only [Bool.false_eq_true, false_iff]
      rintro ⟨k, hk, e⟩
      simp at hk; subst hk
      have : gl [idL n] 0 = idL n := rfl
      rw [this, hid] at e
      exact h0 e
end Go.Proofs.YtjfinniebijgbaaDoor
/- Plain laws: what sorting and compacting leave is the list of what was seen. -/
namespace Go.Proofs.YtjfinniebijgbaaDoor
set_option linter.unusedVariables false
set_option linter.unusedSimpArgs false
open Go.RowKit

/-- Rising lists with the same members are the same. -/
theorem rise_eq : ∀ {a b : List Int}, a.Pairwise (· < ·) → b.Pairwise (· < ·) → (∀ x, x ∈ a ↔ x ∈ b) → a = b
  | [], [], _, _, _ => rfl
  | [], y :: b, _, _, h => by have := (h y).2 (by simp); simp at this
  | x :: a, [], _, _, h => by have := (h x).1 (by simp); simp at this
  | x :: a, y :: b, ha, hb, h => by
    obtain ⟨ha1, ha2⟩ := List.pairwise_cons.1 ha
    obtain ⟨hb1, hb2⟩ := List.pairwise_cons.1 hb
    have hxy : x = y := by
      have h1 := (h x).1 (by simp)
      have h2 := (h y).2 (by simp)
      simp at h1 h2
      rcases h1 with h1 | h1
      · exact h1
      · rcases h2 with h2 | h2
        · exact h2.symm
        · have := hb1 x h1
          have := ha1 y h2
          omega
    subst hxy
    congr 1
    refine rise_eq ha2 hb2 fun z => ⟨fun hz => ?_, fun hz => ?_⟩
    · have h1 := (h z).1 (by simp [hz])
      simp at h1
      rcases h1 with h1 | h1
      · have := ha1 z hz; omega
      · exact h1
    · have h1 := (h z).2 (by simp [hz])
      simp at h1
      rcases h1 with h1 | h1
      · have := hb1 z hz; omega
      · exact h1
/-- The numbers that are told by flags. -/
def lsL (sn : List Bool) : List Int := ((List.range sn.length).filter fun r => sn.getD r false).map fun r : Nat => (r : Int)
theorem lsL_mem {sn : List Bool} {x : Int} : x ∈ lsL sn ↔ ∃ r : Nat, x = (r : Int) ∧ r < sn.length ∧ sn.getD r false = true := by
  simp only [lsL, List.mem_map, List.mem_filter, List.mem_range]
  constructor
  · rintro ⟨r, ⟨h1, h2⟩, rfl⟩; exact ⟨r, rfl, h1, h2⟩
  · rintro ⟨r, rfl, h1, h2⟩; exact ⟨r, ⟨h1, h2⟩, rfl⟩
theorem lsL_rise (sn : List Bool) : (lsL sn).Pairwise (· < ·) := by
  unfold lsL
  rw [List.pairwise_map]
  refine List.Pairwise.imp (R := fun (a b : Nat) => a < b) (fun h => by omega) ?_
  exact List.Pairwise.filter _ List.pairwise_lt_range
theorem lsL_len (sn : List Bool) : (lsL sn).length ≤ sn.length := by
  unfold lsL
  rw [List.length_map]
  exact Nat.le_trans (List.length_filter_le _ _) (by simp)
open Go.Lib in
theorem compact_up {zs : List Int} (h : ∀ j, j + 1 < zs.length → zs.toArray[j]! ≤ zs.toArray[j + 1]!) : ∀ m, m ≤ zs.length →
    (compactUpTo zs.toArray m).Pairwise (· < ·) ∧ (∀ x, x ∈ compactUpTo zs.toArray m ↔ ∃ j, j < m ∧ zs.toArray[j]! = x) ∧ (∀ x ∈ compactUpTo zs.toArray m, ∀ j, j + 1 = m → x ≤ zs.toArray[j]!) := by
  intro m
  induction m with
  | zero => intro _; simp [compactUpTo]
  | succ m ih =>
    intro hm
    obtain ⟨i1, i2, i3⟩ := ih (by omega)
    rw [compactUpTo_succ]
    cases m with
    | zero =>
      have hk : keeps zs.toArray 0 = true := by simp [keeps]
      rw [hk, if_pos rfl]
      simp [compactUpTo]
      exact fun x => eq_comm
    | succ m =>
      have hle := h m (by omega)
      by_cases he : zs.toArray[m + 1]! = zs.toArray[m]!
      · have hk : keeps zs.toArray (m + 1) = false := by simp [keeps, he]
        rw [hk, if_neg (by simp), List.append_nil]
        refine ⟨i1, fun x => ?_, fun x hx j hj => ?_⟩
        · rw [i2 x]
          constructor
          · rintro ⟨j, hj, e⟩; exact ⟨j, by omega, e⟩
          · rintro ⟨j, hj, e⟩
            rcases Nat.lt_or_ge j (m + 1) with hlt | hge
            · exact ⟨j, hlt, e⟩
            · obtain rfl : j = m + 1 := by omega
              exact ⟨m, by omega, by rw [← he]; exact e⟩
        · obtain rfl : j = m + 1 := by omega
          rw [he]
          exact i3 x hx m rfl
      · have hk : keeps zs.toArray (m + 1) = true := by
          unfold keeps
          simp only [Nat.add_sub_cancel]
          first | (rw [decide_eq_true_iff]; exact .inr he) | (simp only [Bool.or_eq_true, bne_iff_ne, decide_eq_true_iff]; exact .inr he) | (simp at he ⊢; exact he)
        rw [hk, if_pos rfl]
        refine ⟨?_, fun x => ?_, fun x hx j hj => ?_⟩
        · rw [List.pairwise_append]
          refine ⟨i1, by simp, fun a ha b hb => ?_⟩
          simp at hb
          have := i3 a ha m rfl
          have hb' : b = zs.toArray[m + 1]! := by simpa using hb
          omega
        · rw [List.mem_append, i2 x]
          simp only [List.mem_singleton]
          constructor
          · rintro (⟨j, hj, e⟩ | e)
            · exact ⟨j, by omega, e⟩
            · exact ⟨m + 1, by omega, e.symm⟩
          · rintro ⟨j, hj, e⟩
            rcases Nat.lt_or_ge j (m + 1) with hlt | hge
            · exact .inl ⟨j, hlt, e⟩
            · obtain rfl : j = m + 1 := by omega
              exact .inr e.symm
        · obtain rfl : j = m + 1 := by omega
          rw [List.mem_append] at hx
          rcases hx with hx | hx
          · have := i3 x hx m rfl; omega
          · simp only [List.mem_singleton] at hx
            omega
/-- What sorting and compacting leave of numbers: they rise, and the members are the same. -/
theorem sorted_compact (rs : List Int) : (Lib.compact (rs.mergeSort fun x y => decide (x ≤ y))).Pairwise (· < ·) ∧ ∀ x, x ∈ Lib.compact (rs.mergeSort fun x y => decide (x ≤ y)) ↔ x ∈ rs := by
  have hs : (rs.mergeSort fun x y => decide (x ≤ y)).Pairwise fun x y => decide (x ≤ y) = true :=
    List.pairwise_mergeSort (le := fun x y => decide (x ≤ y)) (fun a b c h1 h2 => by simp at *; omega) (fun a b => by simp; omega) rs
  generalize hz : (rs.mergeSort fun x y => decide (x ≤ y)) = zs at hs
  have hmem : ∀ x, x ∈ zs ↔ x ∈ rs := fun x => by rw [← hz]; exact List.mem_mergeSort
  have hle : ∀ j, j + 1 < zs.length → zs.toArray[j]! ≤ zs.toArray[j + 1]! := by
    intro j hj
    have h1 := (List.pairwise_iff_getElem.1 hs) j (j + 1) (by omega) hj (by omega)
    simp at h1
    rw [getElem!_pos zs.toArray j (by simp; omega), getElem!_pos zs.toArray (j + 1) (by simp; omega)]
    simpa using h1
  obtain ⟨h1, h2, _⟩ := compact_up hle zs.length (Nat.le_refl _)
  refine ⟨h1, fun x => ?_⟩
  unfold Lib.compact
  rw [h2 x, ← hmem x, List.mem_iff_getElem]
  constructor
  · rintro ⟨j, hj, e⟩
    rw [getElem!_pos zs.toArray j (by simpa using hj)] at e
    exact ⟨j, hj, by simpa using e⟩
  · rintro ⟨j, hj, e⟩
    exact ⟨j, hj, by rw [getElem!_pos zs.toArray j (by simpa using hj)]; simpa using e⟩
def rksL (ms : List (List Int)) : List Int := ms.map fun a => ((rk a : Nat) : Int)
theorem mem_gl {ll : List (List Int)} {a : List Int} : a ∈ ll ↔ ∃ k, k < ll.length ∧ gl ll k = a := by
  rw [List.mem_iff_getElem]
  constructor
  · rintro ⟨k, hk, e⟩; exact ⟨k, hk, by simp [gl, List.getElem?_eq_getElem hk, e]⟩
  · rintro ⟨k, hk, e⟩; exact ⟨k, hk, by simpa [gl, List.getElem?_eq_getElem hk] using e⟩
/-- The ranks of some permutations, sorted and compacted, are the listed ones of their flags. -/
theorem ranks_listed {ms : List (List Int)} {sn : List Bool} (h : ∀ r, sn.getD r false = true ↔ ∃ k, k < ms.length ∧ rk (gl ms k) = r) :
    Lib.compact ((rksL ms).mergeSort fun x y => decide (x ≤ y)) = lsL sn := by
  obtain ⟨h1, h2⟩ := sorted_compact (rksL ms)
  refine rise_eq h1 (lsL_rise sn) fun x => ?_
  rw [h2 x, lsL_mem]
  simp only [rksL, List.mem_map]
  constructor
  · rintro ⟨a, ha, rfl⟩
    obtain ⟨k, hk, rfl⟩ := mem_gl.1 ha
    have ht := (h (rk (gl ms k))).2 ⟨k, hk, rfl⟩
    refine ⟨_, rfl, ?_, ht⟩
    rcases Nat.lt_or_ge (rk (gl ms k)) sn.length with hlt | hge
    · exact hlt
    · simp [List.getElem?_eq_none hge] at ht
  · rintro ⟨r, rfl, _, hr⟩
    obtain ⟨k, hk, rfl⟩ := (h r).1 hr
    exact ⟨gl ms k, gl_mem hk, rfl⟩
end Go.Proofs.YtjfinniebijgbaaDoor
/- append of one element to a slice that begins in the midst of a block of the call's own: a queue. -/
namespace Go.Proofs.YtjfinniebijgbaaDoor
set_option linter.unusedVariables false
set_option linter.unusedSimpArgs false
open Go.RowKit

/-- v is a slice of one-cell elements in a block of the call's own, from some place on; it holds xs. -/
def QRow (w : World) (base : Nat) (e : TypeId) (v : Value) (n : Nat) (xs : List Value) : Prop :=
  xs.length = n ∧ ∃ g off cap cur, v = .slice (some ⟨g, off, none⟩) n cap ∧ base ≤ g ∧ w.heap[g]? = some (.cells cur e (0, 0)) ∧ n ≤ cap ∧ cap ≤ maxLen ∧ off + cap ≤ cur.size ∧ (cur.toList.drop off).take n = xs
theorem QRow.lt {w : World} {base n : Nat} {e : TypeId} {v : Value} {xs : List Value} (h : QRow w base e v n xs) : ∀ g, v.ownBlock = some g → base ≤ g ∧ g < w.heap.size := by
  obtain ⟨_, g, off, cap, cur, rfl, hb, hg, _⟩ := h
  intro g' hg'
  have : g = g' := by simpa [Value.ownBlock] using hg'
  subst this
  refine ⟨hb, ?_⟩
  rcases Nat.lt_or_ge g w.heap.size with h | h
  · exact h
  · rw [Array.getElem?_eq_none h] at hg; cases hg
theorem QRow.of_own {w : World} {base n cap : Nat} {e : TypeId} {A : Addr} {xs : List Value} (h : w.ownsRow base e 1 (.slice (some A) n cap) n xs) : QRow w base e (.slice (some A) n cap) n xs := by
  obtain ⟨h1, h2⟩ := h
  rcases h2 with ⟨h0, _⟩ | ⟨g, cap', cur, hv, hb, hg, hn, hc, hsz, ht⟩
  · cases h0
  · cases hv
    exact ⟨by omega, g, 0, cap, cur, rfl, hb, hg, hn, hc, by omega, by simpa using ht⟩
theorem QRow.kept {w w' : World} {base n : Nat} {e : TypeId} {v : Value} {xs : List Value} {row : Option Nat} (h : QRow w base e v n xs) (hg : w.grownBy w' row) (hne : v.ownBlock = none ∨ v.ownBlock ≠ row) : QRow w' base e v n xs := by
  have hlt := h.lt
  obtain ⟨h1, g, off, cap, cur, rfl, hb, hh, r⟩ := h
  have hl := hlt g rfl
  refine ⟨h1, g, off, cap, cur, rfl, hb, ?_, r⟩
  rw [hg.block g hl.2 (fun e => ?_)]
  · exact hh
  · rcases hne with h0 | h0
    · simp [Value.ownBlock] at h0
    · exact h0 (by simp [Value.ownBlock, e])
theorem QRow.below {w w' : World} {base n : Nat} {e : TypeId} {v : Value} {xs : List Value} (h : QRow w base e v n xs) (hb : Below w.heap.size w w') : QRow w' base e v n xs :=
  h.kept (grown_of_below hb) (by cases v.ownBlock <;> simp)
theorem QRow.drewN {w : World} {base n : Nat} {e : TypeId} {v : Value} {xs : List Value} (h : QRow w base e v n xs) (k : Nat) : QRow (w.drewN k) base e v n xs := h
theorem QRow.cells {w : World} {base n g off cap : Nat} {e : TypeId} {xs : List Value} (h : QRow w base e (.slice (some ⟨g, off, none⟩) n cap) n xs) : ∀ j u, xs[j]? = some u → w.cell? ⟨g, off + j, none⟩ = some u := by
  obtain ⟨h1, g', off', cap', cur, hv, hb, hg, hn, hc, hsz, ht⟩ := h
  cases hv
  intro j u hj
  have hjn : j < n := by
    rw [← h1]
    rcases Nat.lt_or_ge j xs.length with h | h
    · exact h
    · rw [List.getElem?_eq_none h] at hj; cases hj
  rw [← ht, List.getElem?_take, if_pos hjn, List.getElem?_drop] at hj
  rw [World.cell?, hg]
  simpa using hj
/-- The first is taken away. -/
theorem QRow.tail {w : World} {base n g off cap : Nat} {e : TypeId} {x : Value} {xs : List Value} (h : QRow w base e (.slice (some ⟨g, off, none⟩) (n + 1) cap) (n + 1) (x :: xs)) (hc : cap ≠ 1) :
    QRow w base e (.slice (some ⟨g, off + 1, none⟩) n (cap - 1)) n xs := by
  obtain ⟨h1, g', off', cap', cur, hv, hb, hg, hn, hcm, hsz, ht⟩ := h
  cases hv
  refine ⟨by simpa using h1, g, off + 1, cap - 1, cur, rfl, hb, hg, by omega, by omega, by omega, ?_⟩
  have : (cur.toList.drop (off + 1)) = (cur.toList.drop off).tail := by simp
  rw [this]
  cases hd : cur.toList.drop off with
  | nil => rw [hd] at ht; simp at ht
  | cons y ys => rw [hd, List.take_succ_cons] at ht; injection ht
theorem QRow.tail0 {w : World} {base g off : Nat} {e : TypeId} {x : Value} {xs : List Value} (h : QRow w base e (.slice (some ⟨g, off, none⟩) 1 1) 1 (x :: xs)) :
    QRow w base e (.slice (some ⟨g, off, none⟩) 0 0) 0 xs := by
  obtain ⟨h1, g', off', cap', cur, hv, hb, hg, hn, hcm, hsz, ht⟩ := h
  cases hv
  have hx : xs = [] := List.eq_nil_of_length_eq_zero (by simpa using h1)
  subst hx
  exact ⟨rfl, g, off, 0, cur, rfl, hb, hg, by omega, by omega, by omega, by simp⟩
theorem run_append_mid {P : Program} {w : World} (base : Nat) (t ty e : TypeId) (i : TypeInfo) (z : Value) (bytes : Nat) (ht : P.underlying t = some (.slice e)) (hi : P.info? e = some i) (hz : i.zero = some z)
    (hsize : i.size = 1) (hby : i.bytes = bytes) (hzs : z.cells.size = 1)
    (v : Value) (n : Nat) (xs : List Value) (hown : QRow w base e v n xs)
    (a : Addr) (c : Nat) (x : Value) (hnews : ∀ j u, [x][j]? = some u → w.cell? (a.add j) = some u) (h1 : x.oneCell' = true)
    (h63 : n + 1 ≤ maxLen) (hbytes : (n + 1) * bytes ≤ 140737488355328) (hbase : base ≤ w.heap.size) :
    ∃ v' w', (Builtin.append_ #[t, t] ty #[v, .slice (some a) 1 c]).run P w = .ok v' w' ∧ QRow w' base e v' (n + 1) (xs ++ [x]) ∧ w.grownBy w' v.ownBlock ∧ (v'.ownBlock = v.ownBlock ∨ v'.ownBlock = some w.heap.size) := by
  subst hby
  have hcell := fun g off cap (hv : v = .slice (some ⟨g, off, none⟩) n cap) => QRow.cells (g := g) (off := off) (cap := cap) (hv ▸ hown)
  obtain ⟨hlen, g, off, cap, cur, rfl, hbg, hg, hnc, hcm, hcs, htake⟩ := hown
  have hcell := hcell g off cap rfl
  have hl1 : ∀ u ∈ [x], u.oneCell' = true := by simpa using h1
  by_cases hroom : n + 1 ≤ cap
  · have hf := run_firstCells_some (P := P) w i.size 1 a 1 c [x] (by simp [hsize]) hnews
    rw [hsize] at hf
    have hst := run_storeCells_at P g (off + n) e [x] 0 cur w hg (by simp; omega) hl1
    simp only [Nat.add_zero] at hst
    refine ⟨.slice (some ⟨g, off, none⟩) (n + 1) cap, w.setRow g (cur.toList.take (off + n) ++ [x] ++ cur.toList.drop (off + n + 1)).toArray, ?_, ⟨by simp [hlen], g, off, cap, (cur.toList.take (off + n) ++ [x] ++ cur.toList.drop (off + n + 1)).toArray, rfl, hbg, setRow_heap w g cur _ e _ hg, hroom, hcm, ?_, ?_⟩, ⟨rfl, rfl, rfl, by simp, fun k _ hk => setRow_other w g k _ (fun e => hk (by simp [Value.ownBlock, e]))⟩, .inl rfl⟩
    · simp [Builtin.append_, run_underlying ht, sizeOf, typeInfo, hi, Builtin.lenOf, hroom, hf, hsize, Addr.add_mid] at hst ⊢
      rw [hst]
      rfl
    · simp only [List.size_toArray, List.length_append, List.length_take, List.length_drop, Array.length_toList]
      simp; omega
    · have e1 : off + n ≤ cur.toList.length := by simp; omega
      simp only [List.append_assoc]
      rw [List.drop_append_of_le_length (by simp; omega), List.drop_take]
      rw [show off + n - off = n by omega, htake]
      rw [show n + 1 = (xs ++ [x]).length by simp [hlen], ← List.append_assoc]
      exact List.take_left
  · have hr := run_append_grow (P := P) w t ty e i z ht hi hz ⟨g, off, none⟩ n cap xs (by rw [hlen, hsize, Nat.mul_one]) (fun j u hj => by rw [Addr.add_mid]; exact hcell j u hj) a 1 c [x] (by simp [hsize]) hnews (by omega) (by simp only [maxLen] at h63; omega) (growslice_fits (by omega) hbytes)
    have hge := grownCap_ge w (n + 1) cap e
    have hcm' : grownCap w (n + 1) cap e ≤ maxLen := grownCap_le_maxLen w (n + 1) cap e h63
    refine ⟨_, _, hr, ⟨by simp [hlen], w.heap.size, 0, _, _, rfl, hbase, heap_alloc_new w.drew _, hge, hcm', ?_, ?_⟩, ⟨rfl, rfl, rfl, by simp, fun k hk _ => heap_alloc_old w.drew _ hk⟩, .inr rfl⟩
    · simp only [Array.size_append, List.size_toArray, size_zeroCells, hzs, hlen]
      simp; omega
    · simp only [Array.toList_append, List.append_assoc, List.drop_zero]
      rw [← List.append_assoc, show n + 1 = (xs ++ [x]).length by simp [hlen]]
      exact List.take_left
theorem wpList_append_mid {P : Program} {w : World} {ops : Array Oper} {rest : List Oper} {o : Oper} {a : Act} {Q : Exit → Act → World → Prop} (hgd : o.guard = none) (s x : Operand) (t : TypeId)
    (ho : o.op = .call { callee := .builtin .append, args := #[s, x], argTypes := #[t, t] })
    (base : Nat) (e : TypeId) (i : TypeInfo) (z : Value) (bytes : Nat) (ht : P.underlying t = some (.slice e)) (hi : P.info? e = some i) (hz : i.zero = some z)
    (hsize : i.size = 1) (hby : i.bytes = bytes) (hzs : z.cells.size = 1)
    (v : Value) (n : Nat) (xs : List Value) (hs : a.eval s = v) (hown : QRow w base e v n xs)
    (ad : Addr) (c : Nat) (u : Value) (hx : a.eval x = .slice (some ad) 1 c) (hnews : ∀ j y, [u][j]? = some y → w.cell? (ad.add j) = some y) (h1 : u.oneCell' = true)
    (h63 : n + 1 ≤ maxLen) (hbytes : (n + 1) * bytes ≤ 140737488355328) (hbase : base ≤ w.heap.size)
    (h : ∀ v' w', QRow w' base e v' (n + 1) (xs ++ [u]) → w.grownBy w' v.ownBlock → (v'.ownBlock = v.ownBlock ∨ v'.ownBlock = some w.heap.size) → wpList P ops Q rest (a.put o.dst v') w') : wpList P ops Q (o :: rest) a w := by
  refine wpList_plain hgd fun K hK => ?_
  obtain ⟨v', w', hrun, h2, h3, h4⟩ := run_append_mid (P := P) (w := w) base t o.type e i z bytes ht hi hz hsize hby hzs v n xs hown ad c u hnews h1 h63 hbytes hbase
  unfold Oper.wp execOp
  simp only [ho, resolve, invoke, builtin, Sem.run_bind, Sem.run_pure, Result.andThen_ok, List.map_toArray, List.map_cons, List.map_nil, hs, hx, hrun]
  exact hK _ _ (h v' w' h2 h3 h4)
end Go.Proofs.YtjfinniebijgbaaDoor
/- Contracts: products, the identity, ranks. -/
namespace Go.Proofs.YtjfinniebijgbaaDoor
set_option linter.unusedVariables false
set_option linter.unusedSimpArgs false
open Go.RowKit

def MI (base : Nat) (n : Nat) (l : List Int) (w : World) (e : Ending) (w' : World) : Prop := ∃ v, e = .returned v ∧ w'.ownsRow base 2 1 v n (ints l) ∧ Below w.heap.size w w'
theorem ints_snoc (l : List Int) (x : Int) : ints (l ++ [x]) = ints l ++ [Value.int .i64 x] := by simp [ints]
set_option maxHeartbeats 1000000 in
theorem s_one (n : Nat) (w : World) (hl : n ≤ 1048576) :
    Calls Tryd.prog 68 #[.int .i64 n] w (MI w.heap.size n (idL n) w) := by
  obtain ⟨i0, hi, hz0, hz1, hz2⟩ := info_parts infoI64
  go_enter Tryd.func68, Tryd.ntmps68
  go_wp2_with (fail)
  go_loopw [3, 4] (fun u5 u6 wr => ∃ k : Nat, k ≤ n ∧ u6 = .int .i64 k ∧ wr.ownsRow w.heap.size 2 1 u5 k (ints (idL k)) ∧ Below w.heap.size w wr) (fun _ u6 _ => n - (intOf u6).toNat)
  case atStart => exact ⟨0, Nat.zero_le _, rfl, World.ownsRow_lit w #[] 0 (Nat.le_refl _) (by simp [maxLen]) rfl, (Below.refl _ _).alloc (Nat.le_refl _) _⟩
  case round =>
    obtain ⟨ws, rfl⟩ : ∃ ws : World, ws = wr := ⟨_, rfl⟩
    obtain ⟨k, hk, rfl, hown, hbw⟩ := hrel
    obtain ⟨A1, c1, rfl, _⟩ := own_slice' hown
    by_cases hlt : k < n
    · have hsz := hbw.size
      go_wp2_with (first
        | (at_builtin; refine wpList_append_src rfl (.tmp 11) (.tmp 13) 22 rfl w.heap.size 2 i0 (.int .i64 0) 1 8 Tryd.underlying22 hi hz0 hz1 hz2 rfl (by omega) (.slice A1 k c1) k (ints (idL k)) rfl (World.ownsRow.alloc hown _) (some ⟨ws.heap.size, 0, none⟩) 1 1 [.int .i64 (k : Int)] rfl rfl (one_src ws _ _) (by intro h; cases h) (by intro u hu; simp at hu; subst hu; rfl) (by simp only [maxLen]; omega) (by omega) (by simp; omega) ?_; intro v1 w1 hown1 hg1 hat1))
      go_roundw
      case rel => exact ⟨k + 1, by omega, by go_num, by rw [idL_succ, ints_snoc]; exact hown1, (hbw.alloc hsz _).grown hg1 (by simp; omega) (fun g hg => (hown.lt g hg).1)⟩
      case measure => simp [intOf]; omega
    · obtain rfl : k = n := by omega
      have HO := Lib.hid hown
      clear hown
      go_wp2_with (fail)
      go_ret
      exact ⟨_, rfl, HO.out, hbw⟩
end Go.Proofs.YtjfinniebijgbaaDoor
