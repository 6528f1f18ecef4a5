/- Several parts of the proof in one text; each part says what it shows. Nothing is assumed. -/
import Derived.Test.YtifaccppbhbfhaaA20
import Derived.Test.YtifaccppbhbfhaaA30
import Derived.Test.YtifaccppbhbfhaaA16
/- Depressed polynomials, plain part. -/
namespace Go.Proofs.Ytifaccppbhbfhaa
set_option linter.unusedVariables false
set_option linter.unusedSimpArgs false
open Go.RowKit

theorem gt_big {xs : List Int} {k : Nat} (h : xs.length ≤ k) : gt xs k = 0 := by simp [gt, h]
theorem gt_setI {xs : List Int} {i : Nat} {v : Int} (j : Nat) (h : i < xs.length) : gt (xs.set i v) j = if i = j then v else gt xs j := by
  unfold gt
  rw [List.getD_eq_getElem?_getD, List.getD_eq_getElem?_getD, List.getElem?_set]
  split
  · subst_vars; simp [h]
  · rfl
theorem gt_take {xs : List Int} {n : Nat} (j : Nat) : gt (xs.take n) j = if j < n then gt xs j else 0 := by
  unfold gt
  rw [List.getD_eq_getElem?_getD, List.getD_eq_getElem?_getD, List.getElem?_take]
  split <;> rfl
/-- How many numbers are left when the zeros at the end are gone. -/
def trimN (f : List Int) : Nat → Nat
  | 0 => 0
  | n + 1 => if gt f n = 0 then trimN f n else n + 1
theorem trimN_le (f : List Int) : ∀ n, trimN f n ≤ n
  | 0 => Nat.le_refl _
  | n + 1 => by
    have := trimN_le f n
    rw [trimN]; split <;> omega
theorem trimN_zero (f : List Int) : ∀ n j, trimN f n ≤ j → j < n → gt f j = 0
  | 0, j, _, h => by omega
  | n + 1, j, h1, h2 => by
    rw [trimN] at h1
    split at h1
    · rename_i h0
      by_cases hj : j = n
      · rw [hj]; exact h0
      · exact trimN_zero f n j h1 (by omega)
    · omega
theorem trimN_last (f : List Int) : ∀ n, 0 < trimN f n → gt f (trimN f n - 1) ≠ 0
  | 0, h => by simp [trimN] at h
  | n + 1, h => by
    rw [trimN] at h ⊢
    split at h
    · rename_i h0; rw [if_pos h0]; exact trimN_last f n h
    · rename_i h0; rw [if_neg h0]; simpa using h0
def trimL (f : List Int) : List Int := f.take (trimN f f.length)
theorem trimL_len (f : List Int) : (trimL f).length = trimN f f.length := by
  have := trimN_le f f.length
  simp [trimL]; omega
theorem trimL_le (f : List Int) : (trimL f).length ≤ f.length := by rw [trimL_len]; exact trimN_le _ _
theorem gt_trim (f : List Int) (j : Nat) : gt (trimL f) j = gt f j := by
  rw [trimL, gt_take]
  split
  · rfl
  · by_cases h : j < f.length
    · exact (trimN_zero f _ j (by omega) h).symm
    · exact (gt_big (by omega)).symm
theorem trim_len_le {f g : List Int} (h : ∀ j, gt f j = gt g j) : trimN f f.length ≤ trimN g g.length := by
  by_cases hlt : trimN g g.length < trimN f f.length
  · exfalso
    have h1 := trimN_last f f.length (by omega)
    rw [h] at h1
    by_cases hg : trimN f f.length - 1 < g.length
    · exact h1 (trimN_zero g _ _ (by omega) hg)
    · exact h1 (gt_big (by omega))
  · omega
theorem trim_ext {f g : List Int} (h : ∀ j, gt f j = gt g j) : trimL f = trimL g := by
  have h1 := trim_len_le h
  have h2 := trim_len_le (fun j => (h j).symm)
  refine gt_ext (by rw [trimL_len, trimL_len]; omega) (fun j _ => by rw [gt_trim, gt_trim, h])
/-- One row of a product. -/
def stepM (c : Int) (g out : List Int) (i : Nat) : Nat → List Int
  | 0 => out
  | k + 1 => (stepM c g out i k).set (i + k) (gt (stepM c g out i k) (i + k) + c * gt g k)
theorem stepM_len (c : Int) (g out : List Int) (i : Nat) : ∀ k, (stepM c g out i k).length = out.length
  | 0 => rfl
  | k + 1 => by rw [stepM, List.length_set, stepM_len c g out i k]
theorem stepM_gt (c : Int) (g out : List Int) (i : Nat) : ∀ k j, i + k ≤ out.length → gt (stepM c g out i k) j = gt out j + (if i ≤ j ∧ j < i + k then c * gt g (j - i) else 0)
  | 0, j, _ => by rw [stepM, if_neg (by omega)]; omega
  | k + 1, j, h => by
    rw [stepM, gt_setI j (by rw [stepM_len]; omega)]
    have h1 := stepM_gt c g out i k j (by omega)
    have h2 := stepM_gt c g out i k (i + k) (by omega)
    by_cases hj : i + k = j
    · rw [if_pos hj, h2, if_neg (by omega), if_pos (by omega), ← hj, Nat.add_sub_cancel_left]; omega
    · rw [if_neg hj, h1]
      by_cases hc : i ≤ j ∧ j < i + k
      · rw [if_pos hc, if_pos (by omega)]
      · rw [if_neg hc, if_neg (by omega)]
def mulS (f g : List Int) : Nat → List Int
  | 0 => List.replicate (f.length + g.length - 1) 0
  | i + 1 => stepM (gt f i) g (mulS f g i) i g.length
theorem mulS_len (f g : List Int) : ∀ i, (mulS f g i).length = f.length + g.length - 1
  | 0 => by simp [mulS]
  | i + 1 => by rw [mulS, stepM_len, mulS_len f g i]
theorem gt_rep (n j : Nat) : gt (List.replicate n 0) j = 0 := by
  unfold gt
  rw [List.getD_eq_getElem?_getD, List.getElem?_replicate]
  split <;> rfl
theorem mulS_gt1 (f : List Int) (c : Int) : ∀ i j, i ≤ f.length → gt (mulS f [c] i) j = if j < i then gt f j * c else 0
  | 0, j, _ => by rw [mulS, gt_rep, if_neg (by omega)]
  | i + 1, j, h => by
    rw [mulS, stepM_gt _ _ _ _ _ _ (by rw [mulS_len]; simp; omega), mulS_gt1 f c i j (by omega)]
    simp only [List.length_singleton]
    by_cases h1 : j = i
    · subst h1; rw [if_neg (by omega), if_pos (by omega), if_pos (by omega)]; simp [gt]
    · by_cases h2 : j < i
      · rw [if_pos h2, if_neg (by omega), if_pos (by omega)]; omega
      · rw [if_neg h2, if_neg (by omega), if_neg (by omega)]; omega
theorem mulS_gt2 (f : List Int) (a b : Int) : ∀ i j, i ≤ f.length → gt (mulS f [a, b] i) j = (if j < i then gt f j * a else 0) + (if 1 ≤ j ∧ j - 1 < i then gt f (j - 1) * b else 0)
  | 0, j, _ => by rw [mulS, gt_rep, if_neg (by omega), if_neg (by omega)]; rfl
  | i + 1, j, h => by
    rw [mulS, stepM_gt _ _ _ _ _ _ (by rw [mulS_len]; simp; omega), mulS_gt2 f a b i j (by omega)]
    simp only [List.length_cons, List.length_nil]
    have g0 : gt [a, b] 0 = a := rfl
    have g1 : gt [a, b] 1 = b := rfl
    rcases (by omega : j < i ∨ j = i ∨ j = i + 1 ∨ i + 1 < j) with h1 | h1 | h1 | h1
    · have e1 : j < i + 1 := by omega
      have e2 : ¬ (i ≤ j ∧ j < i + (0 + 1 + 1)) := by omega
      simp only [h1, e1, e2, if_true, if_false]
      by_cases h4 : 1 ≤ j
      · have e3 : 1 ≤ j ∧ j - 1 < i := by omega
        have e4 : 1 ≤ j ∧ j - 1 < i + 1 := by omega
        rw [if_pos e3, if_pos e4]; omega
      · have e3 : ¬ (1 ≤ j ∧ j - 1 < i) := by omega
        have e4 : ¬ (1 ≤ j ∧ j - 1 < i + 1) := by omega
        rw [if_neg e3, if_neg e4]; omega
    · subst h1
      have e1 : ¬ j < j := by omega
      have e2 : j ≤ j ∧ j < j + (0 + 1 + 1) := by omega
      have e0 : j < j + 1 := by omega
      rw [if_neg e1, if_pos e2, if_pos e0, Nat.sub_self, g0]
      by_cases h4 : 1 ≤ j
      · have e3 : 1 ≤ j ∧ j - 1 < j := by omega
        have e4 : 1 ≤ j ∧ j - 1 < j + 1 := by omega
        rw [if_pos e3, if_pos e4]; omega
      · have e3 : ¬ (1 ≤ j ∧ j - 1 < j) := by omega
        have e4 : ¬ (1 ≤ j ∧ j - 1 < j + 1) := by omega
        rw [if_neg e3, if_neg e4]; omega
    · subst h1
      have e1 : ¬ i + 1 < i := by omega
      have e2 : i ≤ i + 1 ∧ i + 1 < i + (0 + 1 + 1) := by omega
      have e0 : ¬ i + 1 < i + 1 := by omega
      have e3 : ¬ (1 ≤ i + 1 ∧ i + 1 - 1 < i) := by omega
      have e4 : 1 ≤ i + 1 ∧ i + 1 - 1 < i + 1 := by omega
      rw [if_neg e1, if_pos e2, if_neg e0, if_neg e3, if_pos e4, show i + 1 - i = 1 by omega, show i + 1 - 1 = i by omega, g1]; omega
    · have e1 : ¬ j < i := by omega
      have e2 : ¬ (i ≤ j ∧ j < i + (0 + 1 + 1)) := by omega
      have e0 : ¬ j < i + 1 := by omega
      have e3 : ¬ (1 ≤ j ∧ j - 1 < i) := by omega
      have e4 : ¬ (1 ≤ j ∧ j - 1 < i + 1) := by omega
      rw [if_neg e1, if_neg e2, if_neg e0, if_neg e3, if_neg e4]; omega
/-- A product. -/
def mulL (f g : List Int) : List Int := trimL (mulS f g f.length)
theorem mulL_1 (f : List Int) (c : Int) (j : Nat) : gt (mulL f [c]) j = gt f j * c := by
  rw [mulL, gt_trim, mulS_gt1 f c _ j (Nat.le_refl _)]
  split
  · rfl
  · rw [gt_big (xs := f) (by omega)]; omega
theorem mulL_2 (f : List Int) (a b : Int) (j : Nat) : gt (mulL f [a, b]) j = gt f j * a + (if 1 ≤ j then gt f (j - 1) * b else 0) := by
  rw [mulL, gt_trim, mulS_gt2 f a b _ j (Nat.le_refl _)]
  congr 1
  · split
    · rfl
    · rw [gt_big (xs := f) (by omega)]; omega
  · by_cases h : 1 ≤ j
    · rw [if_pos h]
      by_cases h2 : j - 1 < f.length
      · rw [if_pos ⟨h, h2⟩]
      · rw [if_neg (by omega), gt_big (xs := f) (by omega)]; omega
    · rw [if_neg h, if_neg (by omega)]
def addS (f out : List Int) : Nat → List Int
  | 0 => out
  | k + 1 => (addS f out k).set k (gt (addS f out k) k + gt f k)
theorem addS_len (f out : List Int) : ∀ k, (addS f out k).length = out.length
  | 0 => rfl
  | k + 1 => by rw [addS, List.length_set, addS_len f out k]
theorem addS_gt (f out : List Int) : ∀ k j, k ≤ out.length → gt (addS f out k) j = gt out j + (if j < k then gt f j else 0)
  | 0, j, _ => by rw [addS, if_neg (by omega)]; omega
  | k + 1, j, h => by
    rw [addS, gt_setI j (by rw [addS_len]; omega)]
    have h1 := addS_gt f out k j (by omega)
    have h2 := addS_gt f out k k (by omega)
    by_cases hj : k = j
    · subst hj; rw [if_pos rfl, h2, if_neg (by omega), if_pos (by omega)]; omega
    · rw [if_neg hj, h1]
      by_cases hc : j < k
      · rw [if_pos hc, if_pos (by omega)]
      · rw [if_neg hc, if_neg (by omega)]
/-- A sum. -/
def addL (f g : List Int) : List Int := trimL (addS g (addS f (List.replicate (max f.length g.length) 0) f.length) g.length)
theorem addL_gt (f g : List Int) (j : Nat) : gt (addL f g) j = gt f j + gt g j := by
  rw [addL, gt_trim, addS_gt _ _ _ _ (by rw [addS_len]; simp; omega), addS_gt _ _ _ _ (by simp; omega), gt_rep]
  have h1 : (if j < f.length then gt f j else 0) = gt f j := by
    split
    · rfl
    · exact (gt_big (by omega)).symm
  have h2 : (if j < g.length then gt g j else 0) = gt g j := by
    split
    · rfl
    · exact (gt_big (by omega)).symm
  rw [h1, h2]; omega
/-- Powers of y - a. -/
def dpP (a : Int) : Nat → List Int
  | 0 => [1]
  | i + 1 => mulL (dpP a i) [-a, 1]
def dpO (xs : List Int) (n : Nat) (a : Int) : Nat → List Int
  | 0 => []
  | i + 1 => addL (dpO xs n a i) (mulL (dpP a i) [gt xs i * (n : Int) ^ (n - i)])
/-- Numbers times powers. -/
def dpS (xs : List Int) (n : Nat) : Nat → List Int
  | 0 => xs
  | t + 1 => (dpS xs n t).set (n - 1 - t) (gt (dpS xs n t) (n - 1 - t) * (n : Int) ^ (t + 1))
def shI (a : Int) (g : List Int) (n : Nat) : Nat → List Int
  | 0 => g
  | t + 1 => (shI a g n t).set (n - 1 - t) (gt (shI a g n t) (n - 1 - t) - a * gt (shI a g n t) (n - 1 - t + 1))
def shK (a : Int) (g : List Int) (n : Nat) : Nat → List Int
  | 0 => g
  | k + 1 => shI a (shK a g n k) n (n - k)
theorem dpS_len (xs : List Int) (n : Nat) : ∀ t, (dpS xs n t).length = xs.length
  | 0 => rfl
  | t + 1 => by rw [dpS, List.length_set, dpS_len xs n t]
theorem shI_len (a : Int) (g : List Int) (n : Nat) : ∀ t, (shI a g n t).length = g.length
  | 0 => rfl
  | t + 1 => by rw [shI, List.length_set, shI_len a g n t]
theorem shK_len (a : Int) (g : List Int) (n : Nat) : ∀ k, (shK a g n k).length = g.length
  | 0 => rfl
  | k + 1 => by rw [shK, shI_len, shK_len a g n k]
theorem dpP_gt (a : Int) (i j : Nat) : gt (dpP a (i + 1)) j = gt (dpP a i) j * (-a) + (if 1 ≤ j then gt (dpP a i) (j - 1) else 0) := by
  rw [dpP, mulL_2]; simp
theorem dpO_gt (xs : List Int) (n : Nat) (a : Int) (i j : Nat) : gt (dpO xs n a (i + 1)) j = gt (dpO xs n a i) j + gt (dpP a i) j * (gt xs i * (n : Int) ^ (n - i)) := by
  rw [dpO, addL_gt, mulL_1]
theorem gt_c0 (x : Int) (l : List Int) : gt (x :: l) 0 = x := rfl
theorem gt_cs (x : Int) (l : List Int) (k : Nat) : gt (x :: l) (k + 1) = gt l k := rfl
theorem gt_nil (k : Nat) : gt [] k = 0 := rfl
theorem dpO_0 (xs : List Int) (n : Nat) (a : Int) (j : Nat) : gt (dpO xs n a 0) j = 0 := rfl
theorem dpP_0 (a : Int) : dpP a 0 = [1] := rfl
theorem dp_2 (c0 c1 c2 : Int) : ∀ j, gt (dpO [c0, c1, c2] 2 c1 3) j = gt (shK c1 (dpS [c0, c1, c2] 2 2) 2 2) j := by
  intro j
  match j with
  | 0 => simp [dpO_gt, dpP_gt, dpO_0, dpP_0, shK, shI, dpS, gt_c0, gt_cs] <;> try grind
  | 1 => simp [dpO_gt, dpP_gt, dpO_0, dpP_0, shK, shI, dpS, gt_c0, gt_cs, gt_nil] <;> try grind
  | 2 => simp [dpO_gt, dpP_gt, dpO_0, dpP_0, shK, shI, dpS, gt_c0, gt_cs, gt_nil] <;> try grind
  | j + 3 => rw [gt_big (xs := shK _ _ _ _) (by simp [shK_len, dpS_len])]; simp [dpO_gt, dpP_gt, dpO_0, dpP_0, gt_cs, gt_nil]
theorem dp_3 (c0 c1 c2 c3 : Int) : ∀ j, gt (dpO [c0, c1, c2, c3] 3 c2 4) j = gt (shK c2 (dpS [c0, c1, c2, c3] 3 3) 3 3) j := by
  intro j
  match j with
  | 0 => simp [dpO_gt, dpP_gt, dpO_0, dpP_0, shK, shI, dpS, gt_c0, gt_cs] <;> try grind
  | 1 => simp [dpO_gt, dpP_gt, dpO_0, dpP_0, shK, shI, dpS, gt_c0, gt_cs, gt_nil] <;> try grind
  | 2 => simp [dpO_gt, dpP_gt, dpO_0, dpP_0, shK, shI, dpS, gt_c0, gt_cs, gt_nil] <;> try grind
  | 3 => simp [dpO_gt, dpP_gt, dpO_0, dpP_0, shK, shI, dpS, gt_c0, gt_cs, gt_nil] <;> try grind
  | j + 4 => rw [gt_big (xs := shK _ _ _ _) (by simp [shK_len, dpS_len])]; simp [dpO_gt, dpP_gt, dpO_0, dpP_0, gt_cs, gt_nil]
theorem dp_4 (c0 c1 c2 c3 c4 : Int) : ∀ j, gt (dpO [c0, c1, c2, c3, c4] 4 c3 5) j = gt (shK c3 (dpS [c0, c1, c2, c3, c4] 4 4) 4 4) j := by
  intro j
  match j with
  | 0 => simp [dpO_gt, dpP_gt, dpO_0, dpP_0, shK, shI, dpS, gt_c0, gt_cs] <;> try grind
  | 1 => simp [dpO_gt, dpP_gt, dpO_0, dpP_0, shK, shI, dpS, gt_c0, gt_cs, gt_nil] <;> try grind
  | 2 => simp [dpO_gt, dpP_gt, dpO_0, dpP_0, shK, shI, dpS, gt_c0, gt_cs, gt_nil] <;> try grind
  | 3 => simp [dpO_gt, dpP_gt, dpO_0, dpP_0, shK, shI, dpS, gt_c0, gt_cs, gt_nil] <;> try grind
  | 4 => simp [dpO_gt, dpP_gt, dpO_0, dpP_0, shK, shI, dpS, gt_c0, gt_cs, gt_nil] <;> try grind
  | j + 5 => rw [gt_big (xs := shK _ _ _ _) (by simp [shK_len, dpS_len])]; simp [dpO_gt, dpP_gt, dpO_0, dpP_0, gt_cs, gt_nil]
theorem dp_all {xs : List Int} {n : Nat} (hn : xs.length = n + 1) (h2 : 2 ≤ n) (h4 : n ≤ 4) : ∀ j, gt (dpO xs n (gt xs (n - 1)) (n + 1)) j = gt (shK (gt xs (n - 1)) (dpS xs n n) n n) j := by
  match xs, hn with
  | [c0, c1, c2], hn =>
    obtain rfl : n = 2 := by simpa using hn.symm
    exact dp_2 c0 c1 c2
  | [c0, c1, c2, c3], hn =>
    obtain rfl : n = 3 := by simpa using hn.symm
    exact dp_3 c0 c1 c2 c3
  | [c0, c1, c2, c3, c4], hn =>
    obtain rfl : n = 4 := by simpa using hn.symm
    exact dp_4 c0 c1 c2 c3 c4
  | [], hn => simp at hn
  | [_], hn => simp at hn; omega
  | [_, _], hn => simp at hn; omega
  | _ :: _ :: _ :: _ :: _ :: _ :: _, hn => simp at hn; omega
theorem trim_trim (f : List Int) : trimL (trimL f) = trimL f := trim_ext (fun j => gt_trim f j)
theorem dpO_trim (xs : List Int) (n : Nat) (a : Int) (i : Nat) : trimL (dpO xs n a (i + 1)) = dpO xs n a (i + 1) := by
  rw [dpO, addL, trim_trim]
theorem dp_law {xs : List Int} {n : Nat} (hn : xs.length = n + 1) (h2 : 2 ≤ n) (h4 : n ≤ 4) : trimL (shK (gt xs (n - 1)) (dpS xs n n) n n) = dpO xs n (gt xs (n - 1)) (n + 1) := by
  rw [← dpO_trim]
  exact (trim_ext (dp_all hn h2 h4)).symm
theorem nabs_add {x y : Int} {a b : Nat} (hx : x.natAbs ≤ a) (hy : y.natAbs ≤ b) : (x + y).natAbs ≤ a + b := by omega
theorem nabs_mul {x y : Int} {a b : Nat} (hx : x.natAbs ≤ a) (hy : y.natAbs ≤ b) : (x * y).natAbs ≤ a * b := by
  rw [Int.natAbs_mul]
  exact Nat.mul_le_mul hx hy
theorem stepM_bd {c : Int} {g out : List Int} {i k j C G O : Nat} (h : i + k ≤ out.length) (hc : c.natAbs ≤ C) (hg : ∀ j, (gt g j).natAbs ≤ G) (ho : (gt out j).natAbs ≤ O) : (gt (stepM c g out i k) j).natAbs ≤ O + C * G := by
  rw [stepM_gt _ _ _ _ _ _ h]
  split
  · exact nabs_add ho (nabs_mul hc (hg _))
  · have := Nat.zero_le (C * G)
    omega
theorem mulS_bd {f g : List Int} {F G : Nat} (hf : ∀ j, (gt f j).natAbs ≤ F) (hg : ∀ j, (gt g j).natAbs ≤ G) : ∀ i j, i ≤ f.length → (gt (mulS f g i) j).natAbs ≤ i * (F * G)
  | 0, j, _ => by rw [mulS, gt_rep]; simp
  | i + 1, j, h => by
    rw [mulS, Nat.succ_mul]
    exact stepM_bd (by rw [mulS_len]; omega) (hf i) hg (mulS_bd hf hg i j (by omega))
theorem mulL_len (f g : List Int) : (mulL f g).length ≤ f.length + g.length - 1 := by
  have := trimL_le (mulS f g f.length)
  rw [mulS_len] at this
  exact this
theorem dpP_len (a : Int) : ∀ i, (dpP a i).length ≤ i + 1
  | 0 => by simp [dpP]
  | i + 1 => by
    have h1 := mulL_len (dpP a i) [-a, 1]
    have h2 := dpP_len a i
    rw [dpP]
    simp at h1
    omega
theorem dpP_lead (a : Int) : ∀ i, gt (dpP a i) i = 1
  | 0 => rfl
  | i + 1 => by
    have h2 := dpP_len a i
    rw [dpP_gt, gt_big (by omega), if_pos (by omega), Nat.add_sub_cancel, dpP_lead a i]
    omega
theorem dpP_pos (a : Int) (i : Nat) : 0 < (dpP a i).length := by
  by_cases h : 0 < (dpP a i).length
  · exact h
  · have h1 := dpP_lead a i
    rw [gt_big (by omega)] at h1
    omega
theorem dpP_bd {a : Int} (ha : a.natAbs ≤ 20) : ∀ i j, (gt (dpP a i) j).natAbs ≤ 21 ^ i
  | 0, j => by
    match j with
    | 0 => simp [dpP, gt]
    | j + 1 => simp [dpP, gt]
  | i + 1, j => by
    rw [dpP_gt, Nat.pow_succ]
    have h1 := nabs_mul (dpP_bd ha i j) (show (-a).natAbs ≤ 20 by omega)
    split
    · have h2 := dpP_bd ha i (j - 1)
      exact Nat.le_trans (nabs_add h1 h2) (by omega)
    · exact Nat.le_trans (nabs_add h1 (Nat.le_refl 0)) (by omega)
theorem pow_le4 {n e : Nat} (h2 : n ≤ 4) (he : e ≤ 4) : n ^ e ≤ 256 :=
  Nat.le_trans (Nat.pow_le_pow_left h2 e) (Nat.le_trans (Nat.pow_le_pow_right (by omega) he) (by decide))
theorem dp_coef {x : Int} {n e : Nat} (hx : x.natAbs ≤ 20) (h2 : n ≤ 4) (he : e ≤ 4) : (x * (n : Int) ^ e).natAbs ≤ 5120 := by
  have h1 : ((n : Int) ^ e).natAbs ≤ 256 := by rw [Int.natAbs_pow]; exact pow_le4 h2 he
  exact nabs_mul hx h1
theorem dpO_bd {xs : List Int} {n : Nat} {a : Int} (ha : a.natAbs ≤ 20) (hx : ∀ j, (gt xs j).natAbs ≤ 20) (hn : n ≤ 4) : ∀ i j, (gt (dpO xs n a i) j).natAbs ≤ 5120 * 21 ^ i
  | 0, j => by rw [dpO_0]; simp
  | i + 1, j => by
    rw [dpO_gt, Nat.pow_succ]
    have h1 := dpO_bd ha hx hn i j
    have h2 := nabs_mul (dpP_bd ha i j) (dp_coef (hx i) hn (show n - i ≤ 4 by omega))
    have h3 := nabs_add h1 h2
    omega
theorem addS_bd {f out : List Int} {k j F O : Nat} (h : k ≤ out.length) (hf : ∀ j, (gt f j).natAbs ≤ F) (ho : (gt out j).natAbs ≤ O) : (gt (addS f out k) j).natAbs ≤ O + F := by
  rw [addS_gt _ _ _ _ h]
  split
  · exact nabs_add ho (hf j)
  · omega
theorem addL_len (f g : List Int) : (addL f g).length ≤ max f.length g.length := by
  have := trimL_le (addS g (addS f (List.replicate (max f.length g.length) 0) f.length) g.length)
  rw [addS_len, addS_len, List.length_replicate] at this
  exact this
theorem dpO_len (xs : List Int) (n : Nat) (a : Int) : ∀ i, (dpO xs n a i).length ≤ i
  | 0 => by simp [dpO]
  | i + 1 => by
    have h1 := addL_len (dpO xs n a i) (mulL (dpP a i) [gt xs i * (n : Int) ^ (n - i)])
    have h2 := dpO_len xs n a i
    have h3 := mulL_len (dpP a i) [gt xs i * (n : Int) ^ (n - i)]
    have h4 := dpP_len a i
    rw [dpO]
    simp at h3
    omega
theorem gt_le {xs : List Int} {m : Nat} (h : ∀ k, k < xs.length → (gt xs k).natAbs ≤ m) (j : Nat) : (gt xs j).natAbs ≤ m := by
  by_cases hj : j < xs.length
  · exact h j hj
  · rw [gt_big (by omega)]; simp
theorem dpS_bd {xs : List Int} {n : Nat} (hl : n < xs.length) (hx : ∀ j, (gt xs j).natAbs ≤ 20) (hn : n ≤ 4) : ∀ t j, t ≤ n → (gt (dpS xs n t) j).natAbs ≤ 5120 ∧ (j < n - t → (gt (dpS xs n t) j).natAbs ≤ 20)
  | 0, j, _ => ⟨Nat.le_trans (hx j) (by omega), fun _ => hx j⟩
  | t + 1, j, h => by
    rw [dpS, gt_setI j (by rw [dpS_len]; omega)]
    obtain ⟨h1, h2⟩ := dpS_bd hl hx hn t j (by omega)
    have h3 := (dpS_bd hl hx hn t (n - 1 - t) (by omega)).2 (by omega)
    split
    · exact ⟨dp_coef h3 hn (by omega), fun h => by omega⟩
    · exact ⟨h1, fun h => h2 (by omega)⟩
def stN (n : Nat) : Nat → Nat
  | 0 => 0
  | k + 1 => stN n k + (n - k)
theorem stN_10 : ∀ n, n ≤ 4 → ∀ k, k < 5 → stN n k ≤ 10 := by decide
theorem shI_bd {a : Int} {g : List Int} {n e : Nat} (ha : a.natAbs ≤ 20) (hg : ∀ j, (gt g j).natAbs ≤ 5120 * 21 ^ e) (hl : n < g.length) : ∀ t j, t ≤ n → (gt (shI a g n t) j).natAbs ≤ 5120 * 21 ^ (e + t)
  | 0, j, _ => hg j
  | t + 1, j, h => by
    rw [shI, gt_setI j (by rw [shI_len]; omega), ← Nat.add_assoc, Nat.pow_succ]
    have h1 := shI_bd ha hg hl t (n - 1 - t) (by omega)
    have h2 := nabs_mul ha (shI_bd ha hg hl t (n - 1 - t + 1) (by omega))
    have h3 := shI_bd ha hg hl t j (by omega)
    split
    · omega
    · omega
theorem shK_bd {a : Int} {g : List Int} {n : Nat} (ha : a.natAbs ≤ 20) (hg : ∀ j, (gt g j).natAbs ≤ 5120) (hl : n < g.length) : ∀ k j, (gt (shK a g n k) j).natAbs ≤ 5120 * 21 ^ stN n k
  | 0, j => by simpa [shK, stN] using hg j
  | k + 1, j => by
    rw [shK, stN]
    exact shI_bd ha (fun j => shK_bd ha hg hl k j) (by rw [shK_len]; exact hl) (n - k) j (by omega)
end Go.Proofs.Ytifaccppbhbfhaa
/- Contracts: trim, sums and products of polynomials, copies. -/
namespace Go.Proofs.Ytifaccppbhbfhaa
set_option linter.unusedVariables false
set_option linter.unusedSimpArgs false
open Go.RowKit

theorem NS.cell {w : World} {B g : Nat} {xs : List Int} (h : NS w B g xs) {j : Nat} (hj : j < xs.length) : w.cell? ⟨g, j, none⟩ = some (.int .i64 (gt xs j)) := by
  obtain ⟨_, cs, h1, _, h3⟩ := h
  exact (h1.cell j).trans (h3 j hj)
theorem NS.fz {w : World} {B g : Nat} {xs : List Int} (h : NS w B g xs) (j : Nat) : w.frozen? ⟨g, j, none⟩ = false := by
  obtain ⟨_, cs, h1, _, _⟩ := h
  exact h1.frozen j
theorem NS.set {w : World} {B g r : Nat} {xs : List Int} (h : NS w B g xs) (v : Int) (hr : r < xs.length) : NS (w.setCell ⟨g, r, none⟩ (.int .i64 v)) B g (xs.set r v) := by
  obtain ⟨h0, cs, h1, h2, h3⟩ := h
  refine ⟨h0, _, h1.set r (.int .i64 v), by simp [h2], fun j hj => ?_⟩
  simp at hj
  rw [Array.getElem?_setIfInBounds, gt_setI j hr]
  by_cases hx : r = j
  · subst hx
    rw [if_pos rfl, if_pos (by omega), if_pos rfl]
  · rw [if_neg hx, if_neg hx]
    exact h3 j hj
theorem NS.zero (w : World) (n B : Nat) (hB : B ≤ w.heap.size) : NS (w.alloc (.cells (madeCells (.int .i64 0 : Value).cells n) 2)) B w.heap.size (List.replicate n 0) := by
  refine ⟨hB, _, BK.new _ _ _, by simp [madeCells, Value.cells], fun j hj => ?_⟩
  rw [gt_rep]
  simp at hj
  simp [madeCells, Value.cells, hj, Nat.mod_one]
theorem nat_bd {x : Int} {m : Nat} (h : x.natAbs ≤ m) : -(m : Int) ≤ x ∧ x ≤ (m : Int) := by omega
/-- A slice of a call's own, behind a call. -/
theorem RV.pre {w w1 : World} {l : List Int} {e : Ending} {w' : World} (h : RV l w1 e w') (hb : Below w.heap.size w w1) : RV l w e w' := by
  obtain ⟨A, cap, h1, h2, h3⟩ := h
  exact ⟨A, cap, h1, own_mono h2 hb.size, bel_call hb h3⟩
set_option maxRecDepth 10000 in
set_option maxHeartbeats 1000000 in
theorem i_clone (ad : Addr) (n c : Nat) (l : List Int) (w : World) (hn : n = l.length) (hl : n ≤ 1048576) (hsrc : ∀ j u, (ints l)[j]? = some u → w.cell? (ad.add j) = some u) (hlt : ∀ j, (ad.add j).block < w.heap.size) :
    Calls Try.prog 65 #[.slice (some ad) n c] w (RV l w) := by
  have HN := Lib.hid hn
  clear hn
  obtain ⟨i0, hi, hz0, hz1, hz2⟩ := info_parts infoI64
  have ho := World.ownsRow_lit (base := w.heap.size) (e := 2) (size := 1) w #[] 0 (Nat.le_refl _) (by simp [maxLen]) rfl
  have hb := (Below.refl w.heap.size w).alloc (Nat.le_refl _) (.cells #[] 2)
  have hs2 : ∀ j u, (ints l)[j]? = some u → (w.alloc (.cells #[] 2)).cell? (ad.add j) = some u := fun j u hj => (hb.cell (hlt j)).trans (hsrc j u hj)
  clear hsrc
  have q22 : ∀ (W : World) (a : Option Addr) (n c n' c' : Nat), (binOp .eql 22 (.slice a n c) (.slice none n' c')).run Try.prog W = .ok (.bool a.isNone) W := fun W a n c n' c' => Lib.run_eql_slice_nil W _ _ a n c n' c' Try.underlying22
  go_enter Try.func65, Try.ntmps65
  go_wp2_with (at_builtin; refine wpList_append_src rfl (.tmp 5) (.tmp 6) 22 rfl w.heap.size 2 i0 (.int .i64 0) 1 8 Try.underlying22 hi hz0 hz1 hz2 rfl (by omega) (.slice (some ⟨w.heap.size, 0, none⟩) 0 0) 0 [] rfl ho (some ad) n c (ints l) rfl (by rw [ints_length, Nat.mul_one]; exact HN.out.symm) (fun ad' h j u hj => by injection h with h; subst h; exact hs2 j u hj) (by intro h; cases h) (ints_one _) (by simp only [maxLen]; omega) (by omega) (by simp) ?_; intro v1 w1 hown1 hg1 hat1)
  go_ret
  rw [Nat.zero_add, List.nil_append] at hown1
  obtain ⟨A1, c1, rfl, _⟩ := own_slice' hown1
  rw [HN.out] at hown1 ⊢
  exact ⟨A1, c1, rfl, hown1, hb.grown hg1 (by simp) (fun g hg => by simp [Value.ownBlock] at hg; omega)⟩
set_option maxRecDepth 10000 in
set_option maxHeartbeats 1000000 in
theorem s_own1 (ad : Addr) (n c : Nat) (l : List Int) (w : World) (hn : n = l.length) (hl : n ≤ 1048576) (hsrc : ∀ j u, (ints l)[j]? = some u → w.cell? (ad.add j) = some u) (hlt : ∀ j, (ad.add j).block < w.heap.size) :
    Calls Try.prog 58 #[.slice (some ad) n c] w (RV l w) := by
  have HN := Lib.hid hn
  clear hn
  obtain ⟨i0, hi, hz0, hz1, hz2⟩ := info_parts infoI64
  have ho := World.ownsRow_lit (base := w.heap.size) (e := 2) (size := 1) w #[] 0 (Nat.le_refl _) (by simp [maxLen]) rfl
  have hb := (Below.refl w.heap.size w).alloc (Nat.le_refl _) (.cells #[] 2)
  have hs2 : ∀ j u, (ints l)[j]? = some u → (w.alloc (.cells #[] 2)).cell? (ad.add j) = some u := fun j u hj => (hb.cell (hlt j)).trans (hsrc j u hj)
  clear hsrc
  have q22 : ∀ (W : World) (a : Option Addr) (n c n' c' : Nat), (binOp .eql 22 (.slice a n c) (.slice none n' c')).run Try.prog W = .ok (.bool a.isNone) W := fun W a n c n' c' => Lib.run_eql_slice_nil W _ _ a n c n' c' Try.underlying22
  go_enter Try.func58, Try.ntmps58
  go_wp2_with (at_builtin; refine wpList_append_src rfl (.tmp 3) (.tmp 4) 22 rfl w.heap.size 2 i0 (.int .i64 0) 1 8 Try.underlying22 hi hz0 hz1 hz2 rfl (by omega) (.slice (some ⟨w.heap.size, 0, none⟩) 0 0) 0 [] rfl ho (some ad) n c (ints l) rfl (by rw [ints_length, Nat.mul_one]; exact HN.out.symm) (fun ad' h j u hj => by injection h with h; subst h; exact hs2 j u hj) (by intro h; cases h) (ints_one _) (by simp only [maxLen]; omega) (by omega) (by simp) ?_; intro v1 w1 hown1 hg1 hat1)
  go_ret
  rw [Nat.zero_add, List.nil_append] at hown1
  obtain ⟨A1, c1, rfl, _⟩ := own_slice' hown1
  rw [HN.out] at hown1 ⊢
  exact ⟨A1, c1, rfl, hown1, hb.grown hg1 (by simp) (fun g hg => by simp [Value.ownBlock] at hg; omega)⟩
/-- The cells of a block, from its first on, hold f. -/
def CS (w : World) (g : Nat) (f : List Int) : Prop := g < w.heap.size ∧ ∀ j, j < f.length → w.cell? ⟨g, j, none⟩ = some (.int .i64 (gt f j))
theorem NS.cs {w : World} {B g : Nat} {f : List Int} (h : NS w B g f) : CS w g f := ⟨h.lt, fun _ hj => h.cell hj⟩
theorem CS.drewN {w : World} {g : Nat} {f : List Int} (h : CS w g f) (n : Nat) : CS (w.drewN n) g f := h
theorem own_cs {w : World} {base g n c : Nat} {f : List Int} (h : w.ownsRow base 2 1 (.slice (some ⟨g, 0, none⟩) n c) n (ints f)) (_hn : n = f.length) (h0 : 0 < n) : CS w g f := by
  obtain ⟨g', h1, _, h2, h3⟩ := own_src h h0
  injection h1 with h1
  injection h1 with h1
  subst h1
  exact ⟨h2, fun j hj => h3 j _ (ints_at hj)⟩
theorem CS.src {w : World} {g : Nat} {f : List Int} (h : CS w g f) (t : Nat) : ∀ j u, (ints (f.take t))[j]? = some u → w.cell? ((⟨g, 0, none⟩ : Addr).add j) = some u := by
  intro j u hu
  have hj : j < (f.take t).length := by
    rcases Nat.lt_or_ge j (f.take t).length with h | h
    · exact h
    · rw [List.getElem?_eq_none (by rw [ints_length]; exact h)] at hu; cases hu
  rw [ints_at hj] at hu
  have hjt : j < f.length := by simp at hj; omega
  have h2 := h.2 j hjt
  rw [gt_take, if_pos (by simp at hj; omega)] at hu
  rw [← hu]
  by_cases h0 : j = 0
  · subst h0; simpa [Addr.add] using h2
  · simpa [Addr.add, h0] using h2
theorem RV.und {w : World} {n : Nat} {l : List Int} {e : Ending} {w' : World} (h : RV l (w.drewN n) e w') : RV l w e w' := by
  obtain ⟨A, cap, h1, h2, h3⟩ := h
  exact ⟨A, cap, h1, h2, Go.Proofs.Ytifaccppbhbfhaa.undrew h3⟩
set_option maxRecDepth 10000 in
set_option maxHeartbeats 1000000 in
theorem i_trim (g n c : Nat) (f : List Int) (w : World) (hn : n = f.length) (hl : n ≤ 1000) (hcap : n ≤ c) (hs : CS w g f) :
    Calls Try.prog 43 #[.slice (some ⟨g, 0, none⟩) n c] w (RV (trimL f) w) := by
  have hlt : ∀ m j, ((⟨g, 0, none⟩ : Addr).add j).block < (w.drewN m).heap.size := fun m j => by
    have h := hs.1
    rw [show ((⟨g, 0, none⟩ : Addr).add j).block = g by unfold Addr.add; split <;> rfl]
    exact h
  have hT : trimL f = f.take (trimN f f.length) := rfl
  have hle := trimN_le f f.length
  have hTL := trimL_len f
  have HN := Lib.hid hn
  rw [← hn] at hT hle hTL
  clear hn
  generalize htt : trimN f n = t at *
  have hsrc := fun m => (hs.drewN m).src t
  rw [← hT] at hsrc
  have HTT := Lib.hid htt
  have HTL := Lib.hid hTL.symm
  clear htt hT hTL
  generalize trimL f = tf at *
  go_enter Try.func43, Try.ntmps43
  go_wp2_with (fail)
  go_loopw [3] (fun u3 wr => ∃ k : Nat, k ≤ n ∧ u3 = .int .i64 k ∧ Hid (trimN f k = t) ∧ ∃ m, wr = w.drewN m) (fun u3 _ => (intOf u3).toNat)
  case atStart => exact ⟨n, Nat.le_refl _, rfl, HTT.out, 0, rfl⟩
  case round =>
    obtain ⟨k, hk, rfl, HI, m, rfl⟩ := hrel
    by_cases h0 : 0 < k
    · have hc := (hs.drewN m).2 (k - 1) (by rw [← HN.out]; omega)
      have hs1 : IntKind.i64.wrap ((k : Int) - 1) = (k : Int) - 1 := IntWalk.i64_in _ (by omega)
      have hs2 : ((k : Int) - 1).toNat = k - 1 := by omega
      have hs3 : 1 ≤ (k : Int) := by omega
      have hs4 : 0 ≤ (k : Int) - 1 := by omega
      have hs5 : (k : Int) - 1 < (n : Int) := by omega
      have hT : Hid (trimN f k = if gt f (k - 1) = 0 then trimN f (k - 1) else k) := by
        obtain ⟨q, rfl⟩ : ∃ q, k = q + 1 := ⟨k - 1, by omega⟩
        exact rfl
      by_cases hz : gt f (k - 1) = 0
      · have hI : trimN f (k - 1) = t := by have h := HI.out; rw [hT.out, if_pos hz] at h; exact h
        have HI2 := Lib.hid hI
        rw [hz] at hc
        clear hI hz HI hT hsrc
        go_wp2_with (go_quiet (fail))
        go_roundw
        case rel => exact ⟨k - 1, by omega, by go_num, HI2.out, by first | exact dq1 | exact dq2⟩
        case measure => simp [intOf]; omega
      · have hI : k = t := by have h := HI.out; rw [hT.out, if_neg hz] at h; exact h
        subst hI
        have hzb : (gt f (k - 1) == 0) = false := by rw [beq_eq_false_iff_ne]; exact hz
        clear hz HI hT
        generalize gt f (k - 1) = x at *
        go_wp2_with (first | (go_at_call 65; refine (i_clone _ _ _ tf _ HTL.out (by omega) (hsrc _) (hlt _)).mono ?_; rintro e w2 ⟨A2, c2, rfl, ho2, hb2⟩) | go_quiet (fail))
        go_ret
        exact RV.und ⟨A2, c2, rfl, ho2, hb2⟩
    · obtain rfl : k = 0 := by omega
      have hI : 0 = t := HI.out
      subst hI
      clear HI
      go_wp2_with (first | (go_at_call 65; refine (i_clone _ _ _ tf _ HTL.out (by omega) (hsrc _) (hlt _)).mono ?_; rintro e w2 ⟨A2, c2, rfl, ho2, hb2⟩) | go_quiet (fail))
      go_ret
      exact RV.und ⟨A2, c2, rfl, ho2, hb2⟩
set_option maxRecDepth 10000 in
set_option maxHeartbeats 1000000 in
theorem s_trim (g n c : Nat) (f : List Int) (w : World) (hn : n = f.length) (hl : n ≤ 1000) (hcap : n ≤ c) (hs : CS w g f) :
    Calls Try.prog 37 #[.slice (some ⟨g, 0, none⟩) n c] w (RV (trimL f) w) := by
  have hlt : ∀ m j, ((⟨g, 0, none⟩ : Addr).add j).block < (w.drewN m).heap.size := fun m j => by
    have h := hs.1
    rw [show ((⟨g, 0, none⟩ : Addr).add j).block = g by unfold Addr.add; split <;> rfl]
    exact h
  have hT : trimL f = f.take (trimN f f.length) := rfl
  have hle := trimN_le f f.length
  have hTL := trimL_len f
  have HN := Lib.hid hn
  rw [← hn] at hT hle hTL
  clear hn
  generalize htt : trimN f n = t at *
  have hsrc := fun m => (hs.drewN m).src t
  rw [← hT] at hsrc
  have HTT := Lib.hid htt
  have HTL := Lib.hid hTL.symm
  clear htt hT hTL
  generalize trimL f = tf at *
  go_enter Try.func37, Try.ntmps37
  go_wp2_with (fail)
  go_loopw [3] (fun u3 wr => ∃ k : Nat, k ≤ n ∧ u3 = .int .i64 k ∧ Hid (trimN f k = t) ∧ ∃ m, wr = w.drewN m) (fun u3 _ => (intOf u3).toNat)
  case atStart => exact ⟨n, Nat.le_refl _, rfl, HTT.out, 0, rfl⟩
  case round =>
    obtain ⟨k, hk, rfl, HI, m, rfl⟩ := hrel
    by_cases h0 : 0 < k
    · have hc := (hs.drewN m).2 (k - 1) (by rw [← HN.out]; omega)
      have hs1 : IntKind.i64.wrap ((k : Int) - 1) = (k : Int) - 1 := IntWalk.i64_in _ (by omega)
      have hs2 : ((k : Int) - 1).toNat = k - 1 := by omega
      have hs3 : 1 ≤ (k : Int) := by omega
      have hs4 : 0 ≤ (k : Int) - 1 := by omega
      have hs5 : (k : Int) - 1 < (n : Int) := by omega
      have hT : Hid (trimN f k = if gt f (k - 1) = 0 then trimN f (k - 1) else k) := by
        obtain ⟨q, rfl⟩ : ∃ q, k = q + 1 := ⟨k - 1, by omega⟩
        exact rfl
      by_cases hz : gt f (k - 1) = 0
      · have hI : trimN f (k - 1) = t := by have h := HI.out; rw [hT.out, if_pos hz] at h; exact h
        have HI2 := Lib.hid hI
        rw [hz] at hc
        clear hI hz HI hT hsrc
        go_wp2_with (go_quiet (fail))
        go_roundw
        case rel => exact ⟨k - 1, by omega, by go_num, HI2.out, by first | exact dq1 | exact dq2⟩
        case measure => simp [intOf]; omega
      · have hI : k = t := by have h := HI.out; rw [hT.out, if_neg hz] at h; exact h
        subst hI
        have hzb : (gt f (k - 1) == 0) = false := by rw [beq_eq_false_iff_ne]; exact hz
        clear hz HI hT
        generalize gt f (k - 1) = x at *
        go_wp2_with (first | (go_at_call 58; refine (s_own1 _ _ _ tf _ HTL.out (by omega) (hsrc _) (hlt _)).mono ?_; rintro e w2 ⟨A2, c2, rfl, ho2, hb2⟩) | go_quiet (fail))
        go_ret
        exact RV.und ⟨A2, c2, rfl, ho2, hb2⟩
    · obtain rfl : k = 0 := by omega
      have hI : 0 = t := HI.out
      subst hI
      clear HI
      go_wp2_with (first | (go_at_call 58; refine (s_own1 _ _ _ tf _ HTL.out (by omega) (hsrc _) (hlt _)).mono ?_; rintro e w2 ⟨A2, c2, rfl, ho2, hb2⟩) | go_quiet (fail))
      go_ret
      exact RV.und ⟨A2, c2, rfl, ho2, hb2⟩
end Go.Proofs.Ytifaccppbhbfhaa
