/- RationalRoots: insertion from the right, over pairs. -/
import Derived.Test.YtglijcdnnaekkaaA289
namespace Go.Proofs.Ytglijcdnnaekkaa
set_option linter.unusedVariables false
set_option linter.unusedSimpArgs false

def gPr (l : List (Int × Int)) (k : Nat) : Int × Int := l.getD k (0, 0)
def befQ (a b : Int × Int) : Bool := decide (a.1 * b.2 < b.1 * a.2)
/-- Where x comes to stand: after all of the first k that it is not before. -/
def atQ (x : Int × Int) (l : List (Int × Int)) : Nat → Nat
  | 0 => 0
  | k + 1 => if befQ x (gPr l k) = true then atQ x l k else k + 1
theorem atQ_le (x : Int × Int) (l : List (Int × Int)) : ∀ k, atQ x l k ≤ k
  | 0 => Nat.le_refl _
  | k + 1 => by
    rw [atQ]
    split
    · exact Nat.le_succ_of_le (atQ_le x l k)
    · exact Nat.le_refl _
theorem atQ_yes {x : Int × Int} {l : List (Int × Int)} {k : Nat} (h : befQ x (gPr l k) = true) : atQ x l (k + 1) = atQ x l k := by rw [atQ, if_pos h]
theorem atQ_no {x : Int × Int} {l : List (Int × Int)} {k : Nat} (h : befQ x (gPr l k) = false) : atQ x l (k + 1) = k + 1 := by rw [atQ, if_neg (by rw [h]; decide)]
def insQ (x : Int × Int) (l : List (Int × Int)) : List (Int × Int) := l.take (atQ x l l.length) ++ x :: l.drop (atQ x l l.length)
def srtQ (l : List (Int × Int)) : List (Int × Int) := l.foldl (fun a x => insQ x a) []
theorem srtQ_snoc (l : List (Int × Int)) (x : Int × Int) : srtQ (l ++ [x]) = insQ x (srtQ l) := by simp [srtQ]
theorem insQ_len (x : Int × Int) (l : List (Int × Int)) : (insQ x l).length = l.length + 1 := by
  have := atQ_le x l l.length
  simp [insQ]
  omega
theorem gPr_take {l : List (Int × Int)} {i : Nat} (h : i < l.length) : l.take (i + 1) = l.take i ++ [gPr l i] := by
  rw [List.take_succ_eq_append_getElem h]
  simp [gPr, List.getElem?_eq_getElem h]
theorem gPr_drop {l : List (Int × Int)} {i : Nat} (h : i < l.length) : l.drop i = gPr l i :: l.drop (i + 1) := by
  rw [List.drop_eq_getElem_cons h]
  simp [gPr, List.getElem?_eq_getElem h]
theorem srtQ_len (l : List (Int × Int)) : (srtQ l).length = l.length := by
  have h : ∀ k, k ≤ l.length → (srtQ (l.take k)).length = k := fun k => by
    induction k with
    | zero => intro _; simp [srtQ]
    | succ k ih => intro hk; rw [gPr_take (by omega), srtQ_snoc, insQ_len, ih (by omega)]
  have := h _ (Nat.le_refl _)
  rwa [List.take_length] at this
theorem insQ_mem {x a : Int × Int} {l : List (Int × Int)} (h : a ∈ insQ x l) : a = x ∨ a ∈ l := by
  unfold insQ at h
  rw [List.mem_append, List.mem_cons] at h
  rcases h with h | h | h
  · exact .inr (List.mem_of_mem_take h)
  · exact .inl h
  · exact .inr (List.mem_of_mem_drop h)
theorem srtQ_mem (l : List (Int × Int)) : ∀ k, k ≤ l.length → ∀ a ∈ srtQ (l.take k), a ∈ l
  | 0, _, a, h => by simp [srtQ] at h
  | k + 1, hk, a, h => by
    rw [gPr_take (by omega), srtQ_snoc] at h
    rcases insQ_mem h with h | h
    · subst h
      simp [gPr, List.getElem?_eq_getElem (show k < l.length by omega)]
    · exact srtQ_mem l k (by omega) a h
/-- The row while the i-th sinks to place j. -/
def midQ (l : List (Int × Int)) (i j : Nat) : List (Int × Int) := (srtQ (l.take i)).take j ++ gPr l i :: ((srtQ (l.take i)).drop j ++ l.drop (i + 1))
theorem srtQ_tlen {l : List (Int × Int)} {i : Nat} (h : i ≤ l.length) : (srtQ (l.take i)).length = i := by rw [srtQ_len, List.length_take]; omega
theorem midQ_start {l : List (Int × Int)} {i : Nat} (h : i < l.length) : midQ l i i = srtQ (l.take i) ++ l.drop i := by
  have := srtQ_tlen (Nat.le_of_lt h)
  unfold midQ
  rw [List.take_of_length_le (by omega), List.drop_of_length_le (by omega), List.nil_append, ← gPr_drop h]
theorem midQ_end {l : List (Int × Int)} {i : Nat} (h : i < l.length) : midQ l i (atQ (gPr l i) (srtQ (l.take i)) i) = srtQ (l.take (i + 1)) ++ l.drop (i + 1) := by
  have e := srtQ_tlen (Nat.le_of_lt h)
  rw [gPr_take h, srtQ_snoc]
  unfold insQ midQ
  rw [e, List.append_assoc, List.cons_append]
theorem midQ_len {l : List (Int × Int)} {i j : Nat} (h : i < l.length) (hj : j ≤ i) : (midQ l i j).length = l.length := by
  have e := srtQ_tlen (Nat.le_of_lt h)
  simp [midQ]
  omega
theorem swap_mid (P R : List (Int × Int)) (x y : Int × Int) : ((P ++ y :: x :: R).set (P.length + 1) y).set P.length x = P ++ x :: y :: R := by
  rw [List.set_append_right _ _ (by omega), List.set_append_right _ _ (by omega)]
  simp
theorem midQ_step {l : List (Int × Int)} {i j : Nat} (h : i < l.length) (h0 : 0 < j) (hj : j ≤ i) : gPr (midQ l i j) j = gPr l i ∧ gPr (midQ l i j) (j - 1) = gPr (srtQ (l.take i)) (j - 1) ∧ midQ l i (j - 1) = ((midQ l i j).set j (gPr (srtQ (l.take i)) (j - 1))).set (j - 1) (gPr l i) := by
  have e := srtQ_tlen (Nat.le_of_lt h)
  obtain ⟨k, rfl⟩ : ∃ k, j = k + 1 := ⟨j - 1, by omega⟩
  have hk : k < (srtQ (l.take i)).length := by omega
  have e1 : midQ l i (k + 1) = (srtQ (l.take i)).take k ++ gPr (srtQ (l.take i)) k :: gPr l i :: ((srtQ (l.take i)).drop (k + 1) ++ l.drop (i + 1)) := by
    unfold midQ
    rw [gPr_take hk, List.append_assoc]
    rfl
  have e2 : midQ l i k = (srtQ (l.take i)).take k ++ gPr l i :: gPr (srtQ (l.take i)) k :: ((srtQ (l.take i)).drop (k + 1) ++ l.drop (i + 1)) := by
    unfold midQ
    rw [gPr_drop hk]
    rfl
  have e3 : ((srtQ (l.take i)).take k).length = k := by rw [List.length_take]; omega
  rw [show k + 1 - 1 = k from rfl, e1, e2]
  refine ⟨?_, ?_, ?_⟩
  · simp [gPr, List.getElem?_append, e3]
  · simp [gPr, List.getElem?_append, e3]
  · have := swap_mid ((srtQ (l.take i)).take k) ((srtQ (l.take i)).drop (k + 1) ++ l.drop (i + 1)) (gPr l i) (gPr (srtQ (l.take i)) k)
    rw [e3] at this
    exact this.symm
end Go.Proofs.Ytglijcdnnaekkaa
