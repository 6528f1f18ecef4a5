/- Sorting factors: plain part and the comparison. -/
import Derived.Test.YtifaccppbhbfhaaA371
namespace Go.Proofs.Ytifaccppbhbfhaa
set_option linter.unusedVariables false
set_option linter.unusedSimpArgs false
open Go.RowKit

abbrev FE := Value × List Int × Nat
def ge (E : List FE) (k : Nat) : FE := E.getD k (.slice none 0 0, [], 0)
def eC : List FE → List Value
  | [] => []
  | x :: l => x.1 :: .int .i64 ((x.2.2 : Nat) : Int) :: eC l
theorem eC_len : ∀ l, (eC l).length = l.length * 2
  | [] => rfl
  | x :: l => by simp [eC, eC_len l]; omega
theorem eC_at : ∀ {l : List FE} {k : Nat}, k < l.length → (eC l)[k * 2]? = some (ge l k).1 ∧ (eC l)[k * 2 + 1]? = some (.int .i64 (((ge l k).2.2 : Nat) : Int))
  | [], _, h => by simp at h
  | x :: l, 0, _ => by simp [eC, ge]
  | x :: l, k + 1, h => by
    have := eC_at (l := l) (k := k) (by simpa using h)
    rw [show (k + 1) * 2 = k * 2 + 1 + 1 by omega]
    simpa [eC, ge] using this
theorem eC_set (x : FE) : ∀ (l : List FE) (k : Nat), eC (l.set k x) = ((eC l).set (k * 2) x.1).set (k * 2 + 1) (.int .i64 ((x.2.2 : Nat) : Int))
  | [], k => by simp [eC]
  | y :: l, 0 => by simp [eC]
  | y :: l, k + 1 => by
    rw [show (k + 1) * 2 = k * 2 + 1 + 1 by omega]
    simp [eC, eC_set x l k]
theorem eC_stored {w : World} {base g n c : Nat} {l : List FE} (ho : w.ownsRow base 36 2 (.slice (some ⟨g, 0, none⟩) n c) n (eC l)) (j : Nat) (x : FE) :
    ((w.setCell ⟨g, j * 2, none⟩ x.1).setCell ⟨g, j * 2 + 1, none⟩ (.int .i64 ((x.2.2 : Nat) : Int))).ownsRow base 36 2 (.slice (some ⟨g, 0, none⟩) n c) n (eC (l.set j x)) ∧ w.grownBy ((w.setCell ⟨g, j * 2, none⟩ x.1).setCell ⟨g, j * 2 + 1, none⟩ (.int .i64 ((x.2.2 : Nat) : Int))) (some g) := by
  have s1 := ho.stored (j * 2) x.1
  have s2 := s1.1.stored (j * 2 + 1) (.int .i64 ((x.2.2 : Nat) : Int))
  rw [eC_set]
  exact ⟨s2.1, grown_trans s1.2 s2.2⟩
theorem ge_at {E : List FE} {k : Nat} (h : k < E.length) : ge E k = E[k] := by
  unfold ge
  rw [List.getD_eq_getElem?_getD, List.getElem?_eq_getElem h]; rfl
theorem ge_set {E : List FE} {j : Nat} (x : FE) (k : Nat) (h : j < E.length) : ge (E.set j x) k = if j = k then x else ge E k := by
  unfold ge
  rw [List.getD_eq_getElem?_getD, List.getD_eq_getElem?_getD, List.getElem?_set]
  by_cases e : j = k
  · rw [if_pos e, if_pos e, if_pos (by omega)]; rfl
  · rw [if_neg e, if_neg e]
def lessE (x y : FE) : Prop := FX.LessP x.2.1 y.2.1
/-- The first i are in order. -/
def SRT (i : Nat) (E : List FE) : Prop := ∀ a b, a < b → b < i → lessE (ge E a) (ge E b)
/-- The one at j is on its way down. -/
def MID (i j : Nat) (E : List FE) : Prop := (∀ a b, a < b → b ≤ i → a ≠ j → b ≠ j → lessE (ge E a) (ge E b)) ∧ ∀ b, j < b → b ≤ i → lessE (ge E j) (ge E b)
def swE (E : List FE) (j : Nat) : List FE := (E.set j (ge E (j - 1))).set (j - 1) (ge E j)
theorem swE_perm {E : List FE} {j : Nat} (h0 : 0 < j) (h : j < E.length) : (swE E j).Perm E := by
  unfold swE
  rw [ge_at h, ge_at (show j - 1 < E.length by omega)]
  exact List.set_set_perm h (by omega)
theorem MID.start {i : Nat} {E : List FE} (h : SRT i E) : MID i i E := ⟨fun a b h1 h2 h3 h4 => h a b h1 (by omega), fun b h1 h2 => by omega⟩
theorem swE_ge {E : List FE} {j : Nat} (h0 : 0 < j) (h : j < E.length) (k : Nat) : ge (swE E j) k = if k = j then ge E (j - 1) else if k = j - 1 then ge E j else ge E k := by
  unfold swE
  rw [ge_set _ _ (by rw [List.length_set]; omega), ge_set _ _ h]
  by_cases e1 : j - 1 = k
  · rw [if_pos e1, if_neg (by omega), if_pos e1.symm]
  · rw [if_neg e1]
    by_cases e2 : j = k
    · rw [if_pos e2, if_pos e2.symm]
    · rw [if_neg e2, if_neg (fun e => e2 e.symm), if_neg (fun e => e1 e.symm)]
theorem MID.step {i j : Nat} {E : List FE} (h : MID i j E) (h0 : 0 < j) (hj : j ≤ i) (hi : i < E.length) (hl : lessE (ge E j) (ge E (j - 1))) : MID i (j - 1) (swE E j) := by
  have hg := swE_ge (E := E) h0 (by omega)
  refine ⟨fun a b h1 h2 h3 h4 => ?_, fun b h1 h2 => ?_⟩
  · rw [hg a, hg b, if_neg h3, if_neg h4]
    by_cases ea : a = j
    · rw [if_pos ea, if_neg (by omega)]
      exact h.1 (j - 1) b (by omega) h2 (by omega) (by omega)
    · rw [if_neg ea]
      by_cases eb : b = j
      · rw [if_pos eb]
        exact h.1 a (j - 1) (by omega) (by omega) (by omega) (by omega)
      · rw [if_neg eb]
        exact h.1 a b h1 h2 ea eb
  · rw [hg (j - 1), if_neg (by omega), if_pos rfl, hg b]
    by_cases eb : b = j
    · rw [if_pos eb]; exact hl
    · rw [if_neg eb, if_neg (by omega)]
      exact h.2 b (by omega) h2
theorem MID.stop {i j : Nat} {E : List FE} (h : MID i j E) (hs : j = 0 ∨ lessE (ge E (j - 1)) (ge E j)) : SRT (i + 1) E := fun a b h1 h2 => by
  by_cases ea : a = j
  · rw [ea]; exact h.2 b (by omega) (by omega)
  · by_cases eb : b = j
    · rcases hs with e | e
      · omega
      · rw [eb]
        by_cases e2 : a = j - 1
        · rw [e2]; exact e
        · exact FX.LessP.trans (h.1 a (j - 1) (by omega) (by omega) ea (by omega)) e
    · exact h.1 a b h1 (by omega) ea eb
/-- Not less and not alike: greater. -/
theorem less_or {f g : List Int} (h : ¬ cmpPol f g < 0) (hne : f ≠ g) : FX.LessP g f := by
  rw [← cmpPol_less]
  have h0 : cmpPol f g ≠ 0 := fun e => hne (cmpPol_zero.1 e)
  rcases Int.lt_or_le (cmpPol g f) 0 with h5 | h5
  · exact h5
  · exfalso
    unfold cmpPol at *
    by_cases h1 : f.length < g.length
    · rw [if_pos h1] at h; omega
    · rw [if_neg h1] at h h0
      by_cases h2 : g.length < f.length
      · rw [if_pos h2] at h5; omega
      · rw [if_neg h2] at h h0 h5
        rw [if_neg h1] at h5
        have he : f.length = g.length := by omega
        rw [← he] at h5
        have : ∀ n, cmpDn f g n = - cmpDn g f n := fun n => by
          induction n with
          | zero => rfl
          | succ n ih =>
            unfold cmpDn
            by_cases c1 : gt f n < gt g n
            · rw [if_pos c1, if_neg (by omega), if_pos c1]
            · rw [if_neg c1]
              by_cases c2 : gt g n < gt f n
              · rw [if_pos c2, if_pos c2]; rfl
              · rw [if_neg c2, if_neg c2, if_neg c1]; exact ih
        have := this f.length
        omega
set_option maxHeartbeats 1000000 in
theorem i_facCmp (A A' : Option Addr) (n c n' c' : Nat) (t t' : Int) (f g : List Int) (w : World) (hn : n = f.length) (hn' : n' = g.length) (hl : n ≤ 100) (hl' : n' ≤ 100) (hs : IS w w.heap.size A f) (hs' : IS w w.heap.size A' g) :
    Calls Try.prog 55 #[.agg #[.slice A n c, .int .i64 t], .agg #[.slice A' n' c', .int .i64 t']] w (M (.int .i64 (cmpPol f g)) w) := by
  have hba := (Below.refl w.heap.size w).alloc (Nat.le_refl _) (.cells #[.slice A n c, .int .i64 t] 36)
  have hbb := hba.alloc hba.size (.cells #[.slice A' n' c', .int .i64 t'] 36)
  have hcq := i_comparePolynomials A A' n c n' c' f g _ _ _ hn hn' (by omega) (by omega) (hs.call hbb) (hs'.call hbb)
  clear hs hs' hn hn'
  go_enter Try.func55, Try.ntmps55
  go_wp2_with (first
    | (go_at_call 56; refine hcq.mono ?_; clear hcq; rintro e w5 ⟨rfl, q5, rfl⟩)
    | (go_quiet ((go_at_call 56; go_loud (exact Calls.quiet_of hcq)))))
  go_ret
  exact ⟨rfl, below_drewN hbb _⟩
end Go.Proofs.Ytifaccppbhbfhaa
