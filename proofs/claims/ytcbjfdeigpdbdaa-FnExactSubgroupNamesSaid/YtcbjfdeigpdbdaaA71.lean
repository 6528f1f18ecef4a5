/- Plain laws: what sorting and compacting leave is the list of what was seen. -/
import Derived.Test.YtcbjfdeigpdbdaaA70
import Derived.Lib.SlicesCompact
namespace Go.Proofs.Ytcbjfdeigpdbdaa
set_option linter.unusedVariables false
set_option linter.unusedSimpArgs false
open Go.RowKit

/-- Rising lists with the same members are the same. -/
theorem rise_eq : ∀ {a b : List Int}, a.Pairwise (· < ·) → b.Pairwise (· < ·) → (∀ x, x ∈ a ↔ x ∈ b) → a = b
  | [], [], _, _, _ => rfl
  | [], y :: b, _, _, h => by have := (h y).2 (by simp); simp at this
  | x :: a, [], _, _, h => by have := (h x).1 (by simp); simp at this
  | x :: a, y :: b, ha, hb, h => by
    obtain ⟨ha1, ha2⟩ := List.pairwise_cons.1 ha
    obtain ⟨hb1, hb2⟩ := List.pairwise_cons.1 hb
    have hxy : x = y := by
      have h1 := (h x).1 (by simp)
      have h2 := (h y).2 (by simp)
      simp at h1 h2
      rcases h1 with h1 | h1
      · exact h1
      · rcases h2 with h2 | h2
        · exact h2.symm
        · have := hb1 x h1
          have := ha1 y h2
          omega
    subst hxy
    congr 1
    refine rise_eq ha2 hb2 fun z => ⟨fun hz => ?_, fun hz => ?_⟩
    · have h1 := (h z).1 (by simp [hz])
      simp at h1
      rcases h1 with h1 | h1
      · have := ha1 z hz; omega
      · exact h1
    · have h1 := (h z).2 (by simp [hz])
      simp at h1
      rcases h1 with h1 | h1
      · have := hb1 z hz; omega
      · exact h1
/-- The numbers that are told by flags. -/
def lsL (sn : List Bool) : List Int := ((List.range sn.length).filter fun r => sn.getD r false).map fun r : Nat => (r : Int)
theorem lsL_mem {sn : List Bool} {x : Int} : x ∈ lsL sn ↔ ∃ r : Nat, x = (r : Int) ∧ r < sn.length ∧ sn.getD r false = true := by
  simp only [lsL, List.mem_map, List.mem_filter, List.mem_range]
  constructor
  · rintro ⟨r, ⟨h1, h2⟩, rfl⟩; exact ⟨r, rfl, h1, h2⟩
  · rintro ⟨r, rfl, h1, h2⟩; exact ⟨r, ⟨h1, h2⟩, rfl⟩
theorem lsL_rise (sn : List Bool) : (lsL sn).Pairwise (· < ·) := by
  unfold lsL
  rw [List.pairwise_map]
  refine List.Pairwise.imp (R := fun (a b : Nat) => a < b) (fun h => by omega) ?_
  exact List.Pairwise.filter _ List.pairwise_lt_range
theorem lsL_len (sn : List Bool) : (lsL sn).length ≤ sn.length := by
  unfold lsL
  rw [List.length_map]
  exact Nat.le_trans (List.length_filter_le _ _) (by simp)
open Go.Lib in
theorem compact_up {zs : List Int} (h : ∀ j, j + 1 < zs.length → zs.toArray[j]! ≤ zs.toArray[j + 1]!) : ∀ m, m ≤ zs.length →
    (compactUpTo zs.toArray m).Pairwise (· < ·) ∧ (∀ x, x ∈ compactUpTo zs.toArray m ↔ ∃ j, j < m ∧ zs.toArray[j]! = x) ∧ (∀ x ∈ compactUpTo zs.toArray m, ∀ j, j + 1 = m → x ≤ zs.toArray[j]!) := by
  intro m
  induction m with
  | zero => intro _; simp [compactUpTo]
  | succ m ih =>
    intro hm
    obtain ⟨i1, i2, i3⟩ := ih (by omega)
    rw [compactUpTo_succ]
    cases m with
    | zero =>
      have hk : keeps zs.toArray 0 = true := by simp [keeps]
      rw [hk, if_pos rfl]
      simp [compactUpTo]
      exact fun x => eq_comm
    | succ m =>
      have hle := h m (by omega)
      by_cases he : zs.toArray[m + 1]! = zs.toArray[m]!
      · have hk : keeps zs.toArray (m + 1) = false := by simp [keeps, he]
        rw [hk, if_neg (by simp), List.append_nil]
        refine ⟨i1, fun x => ?_, fun x hx j hj => ?_⟩
        · rw [i2 x]
          constructor
          · rintro ⟨j, hj, e⟩; exact ⟨j, by omega, e⟩
          · rintro ⟨j, hj, e⟩
            rcases Nat.lt_or_ge j (m + 1) with hlt | hge
            · exact ⟨j, hlt, e⟩
            · obtain rfl : j = m + 1 := by omega
              exact ⟨m, by omega, by rw [← he]; exact e⟩
        · obtain rfl : j = m + 1 := by omega
          rw [he]
          exact i3 x hx m rfl
      · have hk : keeps zs.toArray (m + 1) = true := by
          unfold keeps
          simp only [Nat.add_sub_cancel]
          first | (rw [decide_eq_true_iff]; exact .inr he) | (simp only [Bool.or_eq_true, bne_iff_ne, decide_eq_true_iff]; exact .inr he) | (simp at he ⊢; exact he)
        rw [hk, if_pos rfl]
        refine ⟨?_, fun x => ?_, fun x hx j hj => ?_⟩
        · rw [List.pairwise_append]
          refine ⟨i1, by simp, fun a ha b hb => ?_⟩
          simp at hb
          have := i3 a ha m rfl
          have hb' : b = zs.toArray[m + 1]! := by simpa using hb
          omega
        · rw [List.mem_append, i2 x]
          simp only [List.mem_singleton]
          constructor
          · rintro (⟨j, hj, e⟩ | e)
            · exact ⟨j, by omega, e⟩
            · exact ⟨m + 1, by omega, e.symm⟩
          · rintro ⟨j, hj, e⟩
            rcases Nat.lt_or_ge j (m + 1) with hlt | hge
            · exact .inl ⟨j, hlt, e⟩
            · obtain rfl : j = m + 1 := by omega
              exact .inr e.symm
        · obtain rfl : j = m + 1 := by omega
          rw [List.mem_append] at hx
          rcases hx with hx | hx
          · have := i3 x hx m rfl; omega
          · simp only [List.mem_singleton] at hx
            omega
/-- What sorting and compacting leave of numbers: they rise, and the members are the same. -/
theorem sorted_compact (rs : List Int) : (Lib.compact (rs.mergeSort fun x y => decide (x ≤ y))).Pairwise (· < ·) ∧ ∀ x, x ∈ Lib.compact (rs.mergeSort fun x y => decide (x ≤ y)) ↔ x ∈ rs := by
  have hs : (rs.mergeSort fun x y => decide (x ≤ y)).Pairwise fun x y => decide (x ≤ y) = true :=
    List.pairwise_mergeSort (le := fun x y => decide (x ≤ y)) (fun a b c h1 h2 => by simp at *; omega) (fun a b => by simp; omega) rs
  generalize hz : (rs.mergeSort fun x y => decide (x ≤ y)) = zs at hs
  have hmem : ∀ x, x ∈ zs ↔ x ∈ rs := fun x => by rw [← hz]; exact List.mem_mergeSort
  have hle : ∀ j, j + 1 < zs.length → zs.toArray[j]! ≤ zs.toArray[j + 1]! := by
    intro j hj
    have h1 := (List.pairwise_iff_getElem.1 hs) j (j + 1) (by omega) hj (by omega)
    simp at h1
    rw [getElem!_pos zs.toArray j (by simp; omega), getElem!_pos zs.toArray (j + 1) (by simp; omega)]
    simpa using h1
  obtain ⟨h1, h2, _⟩ := compact_up hle zs.length (Nat.le_refl _)
  refine ⟨h1, fun x => ?_⟩
  unfold Lib.compact
  rw [h2 x, ← hmem x, List.mem_iff_getElem]
  constructor
  · rintro ⟨j, hj, e⟩
    rw [getElem!_pos zs.toArray j (by simpa using hj)] at e
    exact ⟨j, hj, by simpa using e⟩
  · rintro ⟨j, hj, e⟩
    exact ⟨j, hj, by rw [getElem!_pos zs.toArray j (by simpa using hj)]; simpa using e⟩
def rksL (ms : List (List Int)) : List Int := ms.map fun a => ((rk a : Nat) : Int)
theorem mem_gl {ll : List (List Int)} {a : List Int} : a ∈ ll ↔ ∃ k, k < ll.length ∧ gl ll k = a := by
  rw [List.mem_iff_getElem]
  constructor
  · rintro ⟨k, hk, e⟩; exact ⟨k, hk, by simp [gl, List.getElem?_eq_getElem hk, e]⟩
  · rintro ⟨k, hk, e⟩; exact ⟨k, hk, by simpa [gl, List.getElem?_eq_getElem hk] using e⟩
/-- The ranks of some permutations, sorted and compacted, are the listed ones of their flags. -/
theorem ranks_listed {ms : List (List Int)} {sn : List Bool} (h : ∀ r, sn.getD r false = true ↔ ∃ k, k < ms.length ∧ rk (gl ms k) = r) :
    Lib.compact ((rksL ms).mergeSort fun x y => decide (x ≤ y)) = lsL sn := by
  obtain ⟨h1, h2⟩ := sorted_compact (rksL ms)
  refine rise_eq h1 (lsL_rise sn) fun x => ?_
  rw [h2 x, lsL_mem]
  simp only [rksL, List.mem_map]
  constructor
  · rintro ⟨a, ha, rfl⟩
    obtain ⟨k, hk, rfl⟩ := mem_gl.1 ha
    have ht := (h (rk (gl ms k))).2 ⟨k, hk, rfl⟩
    refine ⟨_, rfl, ?_, ht⟩
    rcases Nat.lt_or_ge (rk (gl ms k)) sn.length with hlt | hge
    · exact hlt
    · simp [List.getElem?_eq_none hge] at ht
  · rintro ⟨r, rfl, _, hr⟩
    obtain ⟨k, hk, rfl⟩ := (h r).1 hr
    exact ⟨gl ms k, gl_mem hk, rfl⟩
end Go.Proofs.Ytcbjfdeigpdbdaa
