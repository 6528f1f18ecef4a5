/- Several parts of the proof in one text; each part says what it shows. Nothing is assumed. -/
import Derived.Test.YthjoegoeaiemdaaA96
import Derived.Test.YthjoegoeaiemdaaA20
import Derived.Deep.RegionLaw
/- IsEvenName, on the side of the reference; the law. -/
namespace Go.Proofs.Ythjoegoeaiemdaa
set_option linter.unusedVariables false
set_option linter.unusedSimpArgs false
open Go.RowKit

end Go.Proofs.Ythjoegoeaiemdaa
/- Types of permutations: insertion sort and its plain law; the type on both sides. -/
namespace Go.Proofs.Ythjoegoeaiemdaa
set_option linter.unusedVariables false
set_option linter.unusedSimpArgs false
open Go.RowKit

/-- Where x goes among the first k of a sorted list. -/
def posL (out : List Int) (x : Int) : Nat → Nat
  | 0 => 0
  | k + 1 => if x < gt out k then posL out x k else k + 1
theorem pos_yes {out : List Int} {x : Int} {k : Nat} (h : x < gt out k) : posL out x (k + 1) = posL out x k := by rw [posL, if_pos h]
theorem pos_no {out : List Int} {x : Int} {k : Nat} (h : ¬ x < gt out k) : posL out x (k + 1) = k + 1 := by rw [posL, if_neg h]
theorem pos_le (out : List Int) (x : Int) : ∀ k, posL out x k ≤ k
  | 0 => Nat.le_refl _
  | k + 1 => by
    unfold posL
    split
    · exact Nat.le_trans (pos_le out x k) (by omega)
    · exact Nat.le_refl _
theorem pos_up (out : List Int) (x : Int) : ∀ k j, posL out x k ≤ j → j < k → x < gt out j
  | 0, j, _, h => by omega
  | k + 1, j, h1, h2 => by
    unfold posL at h1
    split at h1
    · rename_i hx
      by_cases hj : j = k
      · subst hj; exact hx
      · exact pos_up out x k j h1 (by omega)
    · omega
theorem pos_dn (out : List Int) (x : Int) : ∀ k, 0 < posL out x k → ¬ x < gt out (posL out x k - 1)
  | 0, h => by simp [posL] at h
  | k + 1, h => by
    by_cases hx : x < gt out k
    · rw [pos_yes hx] at h ⊢; exact pos_dn out x k h
    · rw [pos_no hx]; simpa using hx
def insL (out : List Int) (x : Int) : List Int := out.take (posL out x out.length) ++ [x] ++ out.drop (posL out x out.length)
theorem insL_len (out : List Int) (x : Int) : (insL out x).length = out.length + 1 := by
  have := pos_le out x out.length
  simp [insL]; omega
theorem insL_perm (out : List Int) (x : Int) : (insL out x).Perm (x :: out) := by
  unfold insL
  have h1 : (out.take (posL out x out.length) ++ [x] ++ out.drop (posL out x out.length)).Perm ([x] ++ (out.take (posL out x out.length) ++ out.drop (posL out x out.length))) := by
    rw [List.append_assoc, ← List.append_assoc [x]]
    rw [← List.append_assoc]
    exact (List.perm_append_comm).append_right _
  rw [List.take_append_drop] at h1
  exact h1
theorem insL_sorted {out : List Int} (x : Int) (h : out.Pairwise (· ≤ ·)) : (insL out x).Pairwise (· ≤ ·) := by
  have hle := pos_le out x out.length
  have hup := pos_up out x out.length
  have hdn := pos_dn out x out.length
  unfold insL
  generalize posL out x out.length = p at *
  have hg : ∀ j (hj : j < out.length), gt out j = out[j] := fun j hj => by simp [gt, hj]
  have hpw := List.pairwise_iff_getElem.1 h
  rw [List.append_assoc, List.pairwise_append]
  refine ⟨h.sublist (List.take_sublist _ _), ?_, fun a ha b hb => ?_⟩
  · rw [List.singleton_append, List.pairwise_cons]
    refine ⟨fun b hb => ?_, h.sublist (List.drop_sublist _ _)⟩
    obtain ⟨j, hj, e⟩ := List.mem_iff_getElem.1 hb
    rw [List.getElem_drop] at e
    simp at hj
    have h1 := hup (p + j) (by omega) (by omega)
    rw [hg _ (by omega), e] at h1
    omega
  · obtain ⟨j, hj, e⟩ := List.mem_iff_getElem.1 ha
    rw [List.getElem_take] at e
    simp at hj
    have h1 := hdn (by omega)
    rw [hg _ (by omega)] at h1
    have hax : a ≤ x := by
      by_cases hjp : j = p - 1
      · subst hjp; rw [← e]; omega
      · have h2 := hpw j (p - 1) (by omega) (by omega) (by omega)
        rw [e] at h2; omega
    rw [List.singleton_append, List.mem_cons] at hb
    rcases hb with rfl | hb
    · exact hax
    · obtain ⟨j', hj', e'⟩ := List.mem_iff_getElem.1 hb
      rw [List.getElem_drop] at e'
      simp at hj'
      have h3 := hup (p + j') (by omega) (by omega)
      rw [hg _ (by omega), e'] at h3
      omega
def insS (l : List Int) : Nat → List Int
  | 0 => []
  | k + 1 => insL (insS l k) (gt l k)
theorem insS_len (l : List Int) : ∀ k, (insS l k).length = k
  | 0 => rfl
  | k + 1 => by rw [insS, insL_len, insS_len l k]
theorem insS_sorted (l : List Int) : ∀ k, (insS l k).Pairwise (· ≤ ·)
  | 0 => List.Pairwise.nil
  | k + 1 => insL_sorted _ (insS_sorted l k)
theorem insS_perm (l : List Int) : ∀ k, k ≤ l.length → (insS l k).Perm (l.take k)
  | 0, _ => by simp [insS]
  | k + 1, h => by
    have h1 := insL_perm (insS l k) (gt l k)
    have h2 := insS_perm l k (by omega)
    rw [List.take_succ_eq_append_getElem h]
    have e : l[k] = gt l k := by simp [gt, List.getElem?_eq_getElem h]
    rw [e]
    exact h1.trans ((List.Perm.cons _ h2).trans (List.perm_append_comm (l₁ := [gt l k])))
/-- The insertion sort and the library's sort give the same. -/
theorem insS_sort (l : List Int) : insS l l.length = l.mergeSort fun x y => decide (x ≤ y) := by
  have hs : (l.mergeSort fun x y => decide (x ≤ y)).Pairwise fun x y => decide (x ≤ y) = true :=
    List.pairwise_mergeSort (le := fun x y => decide (x ≤ y)) (fun a b c h1 h2 => by simp at *; omega) (fun a b => by simp; omega) l
  have hp := insS_perm l l.length (Nat.le_refl _)
  rw [List.take_length] at hp
  refine List.Perm.eq_of_pairwise (le := (· ≤ ·)) (fun a b _ _ h1 h2 => by omega) (insS_sorted l l.length) (hs.imp fun h => by simpa using h) (hp.trans (List.mergeSort_perm l _).symm)
def lnL (ll : List (List Int)) : List Int := ll.map fun c => ((c.length : Nat) : Int)
theorem lnL_take {ll : List (List Int)} {k : Nat} (h : k < ll.length) : lnL (ll.take (k + 1)) = lnL (ll.take k) ++ [(((gl ll k).length : Nat) : Int)] := by
  simp only [lnL]
  rw [List.take_succ_eq_append_getElem h, List.map_append]
  simp [gl, List.getElem?_eq_getElem h]
/-- The type of a permutation. -/
def tyS (a : List Int) : List Int := (lnL (cycL a)).mergeSort fun x y => decide (x ≤ y)
theorem cyc_mono (a : List Int) : ∀ (m i : Nat) (sn : List Bool) (ll : List (List Int)), ll.length ≤ (cycS a m i sn ll).length
  | 0, _, _, _ => Nat.le_refl _
  | m + 1, i, sn, ll => by
    unfold cycS
    split
    · exact cyc_mono a m (i + 1) sn ll
    · have := cyc_mono a m (i + 1) (orb a (a.length + 1) i sn []).1 (ll ++ [(orb a (a.length + 1) i sn []).2])
      simp only [List.length_append, List.length_singleton] at this
      omega
theorem cycL_pos {a : List Int} (h : 0 < a.length) : 0 < (cycL a).length := by
  unfold cycL
  obtain ⟨m, hm⟩ : ∃ m, a.length = m + 1 := ⟨a.length - 1, by omega⟩
  rw [hm]
  have h0 : (List.replicate (m + 1) false).getD 0 false = false := by simp
  rw [cyc_new h0]
  have := cyc_mono a m (0 + 1) (orb a (a.length + 1) 0 (List.replicate (m + 1) false) []).1 ([] ++ [(orb a (a.length + 1) 0 (List.replicate (m + 1) false) []).2])
  simp only [List.length_append, List.length_singleton, List.length_nil] at this
  omega
end Go.Proofs.Ythjoegoeaiemdaa
/- The reference's insertion sort. -/
namespace Go.Proofs.Ythjoegoeaiemdaa
set_option linter.unusedVariables false
set_option linter.unusedSimpArgs false
open Go.RowKit

end Go.Proofs.Ythjoegoeaiemdaa
/- Lists that are the same; types in a group. -/
namespace Go.Proofs.Ythjoegoeaiemdaa
set_option linter.unusedVariables false
set_option linter.unusedSimpArgs false
open Go.RowKit

theorem ext_len {xs ys : List Int} (h : xs.length = ys.length) (h' : ∀ k, k < xs.length → gt xs k = gt ys k) : xs = ys := gt_ext h h'
/-- Some permutation of the group has the type. -/
def hasT (n : Nat) (l xs : List Int) : Bool := (memL n l).any fun a => decide (tyS a = xs)
theorem tyS_len (a : List Int) : (tyS a).length = (cycL a).length := by simp [tyS, lnL]
end Go.Proofs.Ythjoegoeaiemdaa
/- IsSuitable. -/
namespace Go.Proofs.Ythjoegoeaiemdaa
set_option linter.unusedVariables false
set_option linter.unusedSimpArgs false
open Go.RowKit

set_option maxRecDepth 10000 in
set_option maxHeartbeats 1000000 in
theorem c_contains (A : Option Addr) (L c : Nat) (v : Value) (b : Bool) (w : World) (hc : Calls Try.prog 163 #[.slice A L c, v] w (fun e w' => ∃ k : Int, e = .returned (.int .i64 k) ∧ decide (0 ≤ k) = b ∧ Below w.heap.size w w')) :
    Calls Try.prog 155 #[.slice A L c, v] w (M (.bool b) w) := by
  cases b
  · have hc2 := hc.mono (R' := fun e w' => ∃ k : Int, e = .returned (.int .i64 k) ∧ k < 0 ∧ Below w.heap.size w w') (fun e w' ⟨k, h1, h2, h3⟩ => ⟨k, h1, by have := of_decide_eq_false h2; omega, h3⟩)
    clear hc
    go_enter Try.func155, Try.ntmps155
    go_wp2_with (go_at_call 163; refine hc2.mono ?_; rintro e w1 ⟨k, rfl, hk, hb1⟩)
    go_ret
    exact ⟨ret_bool (by first | rfl | (simp; omega)), hb1⟩
  · have hc2 := hc.mono (R' := fun e w' => ∃ k : Int, e = .returned (.int .i64 k) ∧ 0 ≤ k ∧ Below w.heap.size w w') (fun e w' ⟨k, h1, h2, h3⟩ => ⟨k, h1, of_decide_eq_true h2, h3⟩)
    clear hc
    go_enter Try.func155, Try.ntmps155
    go_wp2_with (go_at_call 163; refine hc2.mono ?_; rintro e w1 ⟨k, rfl, hk, hb1⟩)
    go_ret
    exact ⟨ret_bool (by first | rfl | (simp; omega)), hb1⟩
theorem mem_InR {n : Nat} {l : List Int} {L : Nat} (hk : InK n l) (hL : L = l.length) : ∀ k, k < L → InR n (gl (memL n l) k) := fun k h => mem_in hk k (by rw [memL_len, ← hL]; exact h)
end Go.Proofs.Ythjoegoeaiemdaa
