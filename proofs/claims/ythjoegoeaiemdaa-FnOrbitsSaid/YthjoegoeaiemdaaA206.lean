/- Blocks: the reference's smallest block with some points. -/
import Derived.Test.YthjoegoeaiemdaaA205
import Derived.StillTailTactics
namespace Go.Proofs.Ythjoegoeaiemdaa
set_option linter.unusedVariables false
set_option linter.unusedSimpArgs false
open Go.RowKit

/-- What the cells of a slice hold, added up: a measure. -/
def cellN (w : World) (v : Value) (k : Nat) : Nat := match v with
  | .slice (some a) _ _ => match w.cell? (a.add k) with
    | some (.int .i64 x) => x.toNat
    | _ => 0
  | _ => 0
def smW (w : World) (v : Value) : Nat → Nat
  | 0 => 0
  | k + 1 => smW w v k + cellN w v k
theorem sm_own {w : World} {base n : Nat} {v : Value} {c : List Int} (ho : w.ownsRow base 2 1 v n (ints c)) (hn : n = c.length) : ∀ k, k ≤ n → smW w v k = smL c k
  | 0, _ => rfl
  | k + 1, hk => by
    rw [smW, smL, sm_own ho hn k (by omega)]
    obtain ⟨A, cap, rfl, _⟩ := own_slice' ho
    obtain ⟨g, rfl, _, _, hc⟩ := own_src ho (by omega)
    have h1 := hc k _ (ints_at (l := c) (by omega))
    simp only [cellN, Go.WideShapes.add_plain, Nat.zero_add, h1]
    rfl
/-- The points are together. -/
def Tog (pts : List Nat) (c : List Int) (i : Nat) : Prop := ∀ j, j < i → ap c (pts.getD j 0) = ap c (pts.getD 0 0)
theorem Tog.join {n : Nat} {pts : List Nat} {c : List Int} {i a b : Nat} (h : Tog pts c i) (hc : InR n c) (ha : a < n) (hb : b < n) (hp : ∀ j, pts.getD j 0 < n) : Tog pts (joinL c a b) i := fun j hj =>
  join_tog hc ha hb (hp j) (hp 0) (h j hj)
theorem Tog.next {n : Nat} {pts : List Nat} {c : List Int} {i : Nat} (h : Tog pts c i) (hc : InR n c) (hp : ∀ j, pts.getD j 0 < n) : Tog pts (joinL c (pts.getD 0 0) (pts.getD i 0)) (i + 1) := fun j hj => by
  by_cases hji : j = i
  · subst hji; exact (join_ab hc (hp 0) (hp j)).symm
  · exact join_tog hc (hp 0) (hp i) (hp j) (hp 0) (h j (by omega))
/-- The points below p of the class of x. -/
def clP (cl : List Int) (x p : Nat) : List Nat := (List.range p).filter fun q => ap cl q == ap cl x
theorem clP_yes {cl : List Int} {x p : Nat} (h : ap cl p = ap cl x) : tJ (clP cl x (p + 1)) = tJ (clP cl x p) ++ [(p : Int)] := by
  unfold clP
  rw [List.range_succ, List.filter_append]
  simp [tJ, h]
theorem clP_no {cl : List Int} {x p : Nat} (h : ¬ ap cl p = ap cl x) : tJ (clP cl x (p + 1)) = tJ (clP cl x p) := by
  unfold clP
  rw [List.range_succ, List.filter_append]
  simp [tJ, h]
theorem clP_len (cl : List Int) (x p : Nat) : (tJ (clP cl x p)).length ≤ p := by
  rw [tJ_len]
  unfold clP
  refine Nat.le_trans (List.length_filter_le _ _) ?_
  simp
theorem s_ownRow (A : Option Addr) (n c base : Nat) (l : List Int) (w : World) (ho : w.ownsRow base 2 1 (.slice A n c) n (ints l)) (hn : n = l.length) (h0 : 0 < n) (hl : n ≤ 1048576) : Calls Try.prog 118 #[.slice A n c] w (MI w.heap.size n l w) := by
  obtain ⟨g, rfl, _, hg, hc⟩ := own_src ho h0
  exact s_l01Own ⟨g, 0, none⟩ n c l w hn hl (fun j u hj => by rw [Go.WideShapes.add_plain, Nat.zero_add]; exact hc j u hj) (fun j => by rw [Go.WideShapes.add_plain]; exact hg)
theorem gt_tJ {pts : List Nat} {j : Nat} : gt (tJ pts) j = ((pts.getD j 0 : Nat) : Int) := by
  unfold tJ gt
  by_cases h : j < pts.length
  · simp [List.getElem?_eq_getElem h]
  · simp [List.getElem?_eq_none (Nat.le_of_not_lt h)]
/-- So far no pair had to be joined. -/
def Pr (n : Nat) (ll : List (List Int)) (c : List Int) (i p : Nat) : Prop := (∀ k, k < i → ∀ q, q < n → ap c (ap (gl ll k) q) = ap c (ap (gl ll k) (ap c q))) ∧ ∀ q, q < p → ap c (ap (gl ll i) q) = ap c (ap (gl ll i) (ap c q))
theorem Pr.next {n : Nat} {ll : List (List Int)} {c : List Int} {i : Nat} (h : Pr n ll c i n) : Pr n ll c (i + 1) 0 := by
  refine ⟨fun k hk q hq => ?_, fun q hq => by omega⟩
  by_cases hki : k = i
  · subst hki; exact h.2 q hq
  · exact h.1 k (by omega) q hq
theorem Pr.all {n : Nat} {ll : List (List Int)} {c : List Int} (h : Pr n ll c ll.length 0) : Cong n ll c := fun a ha p hp => by
  obtain ⟨k, hk, rfl⟩ := mem_gl.1 ha
  exact h.1 k hk p hp
/-- A step of the joining. -/
theorem Pr.step {n : Nat} {ll : List (List Int)} {pts : List Nat} {c bef : List Int} {i p : Nat} (hG : PG n ll) (ht : ∀ j, j < n → ∃ a ∈ ll, ap a 0 = j) (hC : Cls n ll pts c) (hbef : InR n bef) (hi : i < ll.length) (hp : p < n) (hle : LeC n c bef) (h : c = bef → Pr n ll c i p) :
    Cls n ll pts (joinL c (ap (gl ll i) p) (ap (gl ll i) (ap c p))) ∧ LeC n (joinL c (ap (gl ll i) p) (ap (gl ll i) (ap c p))) bef ∧ (joinL c (ap (gl ll i) p) (ap (gl ll i) (ap c p)) = bef → Pr n ll (joinL c (ap (gl ll i) p) (ap (gl ll i) (ap c p))) i (p + 1)) := by
  have hm := gl_mem hi
  have ha := hG.lt hm hp
  have hb := hG.lt hm (hC.lt hp)
  refine ⟨hC.join hG ht ha hb fun B hB hpt => rel_map hG hm hp (hC.lt hp) (hC.low B hB hpt p hp), fun q hq => Nat.le_trans (join_le hC.inr ha hb hq) (hle q hq), fun e => ?_⟩
  have e2 : joinL c (ap (gl ll i) p) (ap (gl ll i) (ap c p)) = c := le_anti (join_in hC.inr ha hb) hC.inr (fun q hq => join_le hC.inr ha hb hq) (by rw [e]; exact hle)
  have hfix := join_fix hC ha hb e2
  have h2 := h (e2.symm.trans e)
  rw [e2]
  refine ⟨h2.1, fun q hq => ?_⟩
  by_cases hqp : q = p
  · subst hqp; exact hfix
  · exact h2.2 q (by omega)
end Go.Proofs.Ythjoegoeaiemdaa
