/- Types in order: comparing, and inserting one by one. -/
import Derived.Test.YtglijcdnnaekkaaGreatA155
namespace Go.Proofs.YtglijcdnnaekkaaGreat
set_option linter.unusedVariables false
set_option linter.unusedSimpArgs false
open Go.RowKit

def lexC : List Int → List Int → Int
  | [], [] => 0
  | [], _ :: _ => -1
  | _ :: _, [] => 1
  | x :: a, y :: b => if x < y then -1 else if y < x then 1 else lexC a b
def cmpN (a b : Int) : Int := if a < b then -1 else if b < a then 1 else 0
def cmpT (a b : List Int) : Int := if cmpN b.length a.length ≠ 0 then cmpN b.length a.length else lexC a b
def lexL : List Int → List Int → Bool
  | x :: a, y :: b => if x = y then lexL a b else decide (x < y)
  | _, _ => false
def bef (a b : List Int) : Bool := if a.length ≠ b.length then decide (b.length < a.length) else lexL a b
theorem lexC_b : ∀ a b : List Int, -1 ≤ lexC a b ∧ lexC a b ≤ 1
  | [], [] => by simp [lexC]
  | [], _ :: _ => by simp [lexC]
  | _ :: _, [] => by simp [lexC]
  | x :: a, y :: b => by
    unfold lexC
    by_cases h : x < y
    · simp [h]
    · by_cases h' : y < x
      · simp [h, h']
      · simp only [h, h', if_false]; exact lexC_b a b
theorem cmpN_b (a b : Int) : -1 ≤ cmpN a b ∧ cmpN a b ≤ 1 := by unfold cmpN; split <;> (try split) <;> omega
theorem cmpT_b (a b : List Int) : -1 ≤ cmpT a b ∧ cmpT a b ≤ 1 := by
  unfold cmpT; split
  · exact cmpN_b _ _
  · exact lexC_b _ _
theorem lexC_L : ∀ a b : List Int, a.length = b.length → (lexC a b < 0 ↔ lexL a b = true)
  | [], [] => fun _ => by simp [lexC, lexL]
  | [], _ :: _ => fun h => by simp at h
  | _ :: _, [] => fun h => by simp at h
  | x :: a, y :: b => fun h => by
    unfold lexC lexL
    rcases Int.lt_trichotomy x y with h1 | h1 | h1
    · have : ¬ x = y := by omega
      simp [h1, this]
    · subst h1
      simp only [Int.lt_irrefl, if_false, if_true]
      exact lexC_L a b (by simpa using h)
    · have h2 : ¬ x = y := by omega
      have h3 : ¬ x < y := by omega
      simp [h1, h2, h3]
theorem cmpT_bef (a b : List Int) : cmpT a b < 0 ↔ bef a b = true := by
  unfold cmpT bef cmpN
  rcases Nat.lt_trichotomy a.length b.length with h | h | h
  · have h1 : ¬ ((b.length : Int) < a.length) := by omega
    have h2 : (a.length : Int) < b.length := by omega
    have h3 : a.length ≠ b.length := by omega
    simp [h1, h2, h3]; omega
  · have h1 : ¬ ((b.length : Int) < a.length) := by omega
    have h2 : ¬ ((a.length : Int) < b.length) := by omega
    rw [if_neg h1, if_neg h2, if_neg (by simp), if_neg (by omega)]
    exact lexC_L a b h
  · have h1 : ((b.length : Int) < a.length) := by omega
    have h3 : a.length ≠ b.length := by omega
    simp [h1, h3]; omega
/-- Where x stands when it is put into l from the end. -/
def atF (x : List Int) (l : List (List Int)) : Nat → Nat
  | 0 => 0
  | k + 1 => if bef x (gl l k) = true then atF x l k else k + 1
theorem atF_le (x : List Int) (l : List (List Int)) : ∀ k, atF x l k ≤ k
  | 0 => Nat.le_refl _
  | k + 1 => by
    unfold atF
    by_cases h : bef x (gl l k) = true
    · rw [if_pos h]; have := atF_le x l k; omega
    · rw [if_neg h]; exact Nat.le_refl _
theorem atF_yes {x : List Int} {l : List (List Int)} {k : Nat} (h : bef x (gl l k) = true) : atF x l (k + 1) = atF x l k := if_pos h
theorem atF_no {x : List Int} {l : List (List Int)} {k : Nat} (h : bef x (gl l k) = false) : atF x l (k + 1) = k + 1 := if_neg (by rw [h]; decide)
/-- The first i of ll in order. -/
def srt (ll : List (List Int)) : Nat → List (List Int)
  | 0 => []
  | i + 1 => (srt ll i).take (atF (gl ll i) (srt ll i) i) ++ [gl ll i] ++ (srt ll i).drop (atF (gl ll i) (srt ll i) i)
theorem srt_len (ll : List (List Int)) : ∀ i, (srt ll i).length = i
  | 0 => rfl
  | i + 1 => by
    have h := srt_len ll i
    have h2 := atF_le (gl ll i) (srt ll i) i
    unfold srt
    simp [h]
    omega
theorem gl_app {a b : List (List Int)} (k : Nat) : gl (a ++ b) k = if k < a.length then gl a k else gl b (k - a.length) := by
  unfold gl
  rw [List.getD_eq_getElem?_getD]
  by_cases h : k < a.length
  · rw [if_pos h, List.getElem?_append_left h, List.getD_eq_getElem?_getD]
  · rw [if_neg h, List.getElem?_append_right (by omega), List.getD_eq_getElem?_getD]
theorem gl_take {a : List (List Int)} {j k : Nat} (h : k < j) : gl (a.take j) k = gl a k := by simp [gl, List.getElem?_take, h]
theorem gl_drop (a : List (List Int)) (j k : Nat) : gl (a.drop j) k = gl a (j + k) := by simp [gl]
theorem ll_ext {a b : List (List Int)} (h : a.length = b.length) (h2 : ∀ k, k < a.length → gl a k = gl b k) : a = b := by
  apply List.ext_getElem h
  intro k h3 h4
  rw [gl_eq, gl_eq]; exact h2 k h3
theorem RowsO.perm {w : World} {base : Nat} {vs vs' : List Value} {ll ll' : List (List Int)} (σ : Nat → Nat) (h : RowsO w base vs ll) (hl : vs'.length = vs.length) (hl' : ll'.length = ll.length)
    (hv : ∀ k, k < vs.length → gv vs' k = gv vs (σ k)) (hg : ∀ k, k < vs.length → gl ll' k = gl ll (σ k)) (hlt : ∀ k, k < vs.length → σ k < vs.length) (hin : ∀ a b, σ a = σ b → a = b) : RowsO w base vs' ll' := by
  obtain ⟨h1, h2, h3⟩ := h
  refine ⟨by rw [hl, hl', h1], fun i hi => ?_, fun a b hab hb => ?_⟩
  · rw [hl] at hi
    rw [hv i hi, hg i hi]; exact h2 _ (hlt i hi)
  · rw [hl] at hb
    rw [hv a (by omega), hv b hb]
    have hne : σ a ≠ σ b := fun e => by have := hin a b e; omega
    rcases Nat.lt_or_gt_of_ne hne with h | h
    · exact h3 _ _ h (hlt b hb)
    · rcases h3 _ _ h (hlt a (by omega)) with h4 | h4
      · cases h5 : (gv vs (σ a)).ownBlock with
        | none => exact .inl rfl
        | some g => rw [h4]; exact .inr (by simp)
      · exact .inr (fun e => h4 e.symm)
end Go.Proofs.YtglijcdnnaekkaaGreat
