/- Contracts: the lists of all types of a number of points. -/
import Derived.Test.YtlhkpepnklbnfaaA15
import Derived.Test.YtlhkpepnklbnfaaA6
namespace Go.Proofs.Ytlhkpepnklbnfaa
set_option linter.unusedVariables false
set_option linter.unusedSimpArgs false
open Go.RowKit

/-- All types of n points with numbers of at least k. -/
def tyL (k n : Nat) : List (List Int) :=
  if n = 0 then [[]] else if h : 1 ≤ k ∧ k ≤ n then (tyL k (n - k)).map (fun l => (k : Int) :: l) ++ tyL (k + 1) n else []
termination_by (n, n + 1 - k)
decreasing_by
  · apply Prod.Lex.left; omega
  · apply Prod.Lex.right; omega
theorem tyL_zero (k : Nat) : tyL k 0 = [[]] := by rw [tyL]; simp
theorem tyL_step {k n : Nat} (h0 : 1 ≤ k) (h1 : k ≤ n) : tyL k n = (tyL k (n - k)).map (fun l => (k : Int) :: l) ++ tyL (k + 1) n := by
  rw [tyL, if_neg (by omega), dif_pos ⟨h0, h1⟩]
theorem tyL_end {k n : Nat} (h0 : 0 < n) (h1 : n < k) : tyL k n = [] := by rw [tyL, if_neg (by omega), dif_neg (by omega)]
theorem tyL_len : ∀ N n k : Nat, n + (n + 1 - k) ≤ N → 1 ≤ k → (tyL k n).length ≤ 2 ^ (n + 1 - k) := by
  intro N
  induction N with
  | zero =>
    intro n k h h1
    obtain rfl : n = 0 := by omega
    rw [tyL_zero]
    exact Nat.one_le_two_pow
  | succ N ih =>
    intro n k h h1
    rcases Nat.eq_zero_or_pos n with h0 | h0
    · subst h0; rw [tyL_zero]; exact Nat.one_le_two_pow
    · rcases Nat.lt_or_ge n k with h2 | h2
      · rw [tyL_end h0 h2]; simp
      · rw [tyL_step h1 h2]
        simp only [List.length_append, List.length_map]
        have a1 := ih (n - k) k (by omega) h1
        have a2 := ih n (k + 1) (by omega) (by omega)
        have a3 : 2 ^ (n - k + 1 - k) ≤ 2 ^ (n - k) := Nat.pow_le_pow_right (by omega) (by omega)
        have a4 : n + 1 - (k + 1) = n - k := by omega
        have a5 : n + 1 - k = (n - k) + 1 := by omega
        rw [a4] at a2
        rw [a5, Nat.pow_succ]
        omega
theorem tyL_le {n k : Nat} (h : n ≤ 6) (h1 : 1 ≤ k) : (tyL k n).length ≤ 64 := by
  have a := tyL_len _ n k (Nat.le_refl _) h1
  have b : 2 ^ (n + 1 - k) ≤ 2 ^ 6 := Nat.pow_le_pow_right (by omega) (by omega)
  omega
theorem tyL_row : ∀ N n k : Nat, n + (n + 1 - k) ≤ N → 1 ≤ k → ∀ l ∈ tyL k n, l.length ≤ n := by
  intro N
  induction N with
  | zero =>
    intro n k h h1 l hl
    obtain rfl : n = 0 := by omega
    rw [tyL_zero] at hl
    simp at hl; subst hl; simp
  | succ N ih =>
    intro n k h h1 l hl
    rcases Nat.eq_zero_or_pos n with h0 | h0
    · subst h0; rw [tyL_zero] at hl; simp at hl; subst hl; simp
    · rcases Nat.lt_or_ge n k with h2 | h2
      · rw [tyL_end h0 h2] at hl; simp at hl
      · rw [tyL_step h1 h2] at hl
        simp only [List.mem_append, List.mem_map] at hl
        rcases hl with ⟨l', hl', rfl⟩ | hl
        · have := ih (n - k) k (by omega) h1 l' hl'
          simp; omega
        · exact ih n (k + 1) (by omega) (by omega) l hl
theorem gl_mem {ll : List (List Int)} {i : Nat} (h : i < ll.length) : gl ll i ∈ ll := by
  unfold gl; rw [List.getD_eq_getElem?_getD, List.getElem?_eq_getElem h]; exact List.getElem_mem h
theorem take_map_succ {ll : List (List Int)} {i : Nat} (k : Int) (h : i < ll.length) : (ll.take (i + 1)).map (fun l => k :: l) = (ll.take i).map (fun l => k :: l) ++ [k :: gl ll i] := by
  rw [List.take_succ_eq_append_getElem h, List.map_append]
  simp [gl, List.getElem?_eq_getElem h]
theorem ints_cons (k : Int) (l : List Int) : [Value.int .i64 k] ++ ints l = ints (k :: l) := rfl
theorem own_nil (w : World) (base : Nat) : OwnII w base (.slice none 0 0) [] := ⟨[], World.ownsRow_nil _ _ _ _, rfl, fun i hi => by simp at hi, fun i j _ hj => by simp at hj⟩
theorem own_lit_nil (w : World) (base : Nat) (hb : base ≤ w.heap.size) : OwnII (w.alloc (.cells #[] 29)) base (.slice (some ⟨w.heap.size, 0, none⟩) 0 0) [] :=
  ⟨[], World.ownsRow_lit w #[] 0 hb (by simp [maxLen]) rfl, rfl, fun i hi => by simp at hi, fun i j _ hj => by simp at hj⟩
/-- An inner row that a call has just made, in front of which stand older rows. -/
theorem fresh_ne {w : World} {base : Nat} {vs : List Value} {ll : List (List Int)} (h : RowsO w base vs ll) {r : Value} (hr : ∀ g, r.ownBlock = some g → w.heap.size ≤ g) : ∀ i, i < vs.length → (gv vs i).ownBlock = none ∨ (gv vs i).ownBlock ≠ r.ownBlock := by
  intro i hi
  cases hv : (gv vs i).ownBlock with
  | none => exact .inl rfl
  | some g =>
    refine .inr fun e => ?_
    have h1 := hr g e.symm
    have h2 := ((h.2.1 i hi).lt g hv).2
    omega
theorem own_hsrc {w : World} {base n c : Nat} {e : TypeId} {size : Nat} {A : Option Addr} {xs : List Value} (h : w.ownsRow base e size (.slice A n c) n xs) : ∀ ad, A = some ad → ∀ j u, xs[j]? = some u → w.cell? (ad.add j) = some u := by
  intro ad hA j u hj
  subst hA
  rcases h.2 with ⟨h0, _⟩ | ⟨g, cap, cur, hv, _⟩
  · cases h0
  · have : ad = ⟨g, 0, none⟩ := by injection hv with h1; injection h1
    subst this
    exact h.cells (g := g) rfl j u hj
theorem own_hnil {w : World} {base n c : Nat} {e : TypeId} {size : Nat} {A : Option Addr} {xs : List Value} (h : w.ownsRow base e size (.slice A n c) n xs) : A = none → n = 0 ∧ c = 0 := by
  intro hA
  subst hA
  rcases h.2 with ⟨h0, _⟩ | ⟨g, cap, cur, hv, _⟩
  · injection h0 with _ h1 h2; exact ⟨h1, h2⟩
  · cases hv
theorem own_one (w : World) (x : Value) (e : TypeId) : (w.alloc (.cells #[x] e)).ownsRow w.heap.size e 1 (.slice (some ⟨w.heap.size, 0, none⟩) 1 1) 1 [x] :=
  World.ownsRow_lit w #[x] 1 (Nat.le_refl _) (by simp [maxLen]) rfl
theorem one_src (w : World) (x : Value) (e : TypeId) : ∀ ad, some (⟨w.heap.size, 0, none⟩ : Addr) = some ad → ∀ j u, [x][j]? = some u → (w.alloc (.cells #[x] e)).cell? (ad.add j) = some u :=
  own_hsrc (own_one w x e)
theorem new_below {w w1 : World} {o : Obj} {n c : Nat} (hg : (w.alloc o).grownBy w1 (Value.slice (some ⟨w.heap.size, 0, none⟩) n c).ownBlock) : Below w.heap.size w w1 :=
  ((Below.refl _ _).alloc (Nat.le_refl _) _).grown hg (by simp) (fun k hk => by simp [Value.ownBlock] at hk; omega)
/-- The state of the inner loop. -/
def TyIn (w w2 : World) (s1 : Nat) (kk : Nat) (acc restl : List (List Int)) (i : Nat) (u5 : Value) (wr : World) : Prop :=
  OwnII wr w.heap.size u5 (acc ++ (restl.take i).map (fun l => (kk : Int) :: l)) ∧ Mid s1 w2 wr ∧ (∀ g, u5.ownBlock = some g → g < s1 ∨ w2.heap.size ≤ g) ∧ Below w.heap.size w wr
/-- A round of the inner loop: the new row in w1, the outer slice in w3. -/
theorem TyIn.round {w w2 wr w1 w3 : World} {s1 kk i : Nat} {acc restl : List (List Int)} {u5 r v2 : Value} {o1 o2 : Obj} {vs : List Value} {row : Option Nat} (hi : i < restl.length)
    (ho : wr.ownsRow w.heap.size 29 1 u5 (acc ++ (restl.take i).map (fun l => (kk : Int) :: l)).length vs) (hrows : RowsO wr w.heap.size vs (acc ++ (restl.take i).map (fun l => (kk : Int) :: l)))
    (hm : Mid s1 w2 wr) (h5 : ∀ g, u5.ownBlock = some g → g < s1 ∨ w2.heap.size ≤ g) (hb : Below w.heap.size w wr)
    (hr : w1.ownsRow wr.heap.size 2 1 r (1 + (gl restl i).length) ([Value.int .i64 (kk : Int)] ++ ints (gl restl i))) (hg1 : (wr.alloc o1).grownBy w1 row) (hrow : row = some wr.heap.size)
    (ho2 : w3.ownsRow w.heap.size 29 1 v2 ((acc ++ (restl.take i).map (fun l => (kk : Int) :: l)).length + 1) (vs ++ [r])) (hg2 : (w1.alloc o2).grownBy w3 u5.ownBlock) (hat : v2.ownBlock = u5.ownBlock ∨ v2.ownBlock = some (w1.alloc o2).heap.size) :
    TyIn w w2 s1 kk acc restl (i + 1) v2 w3 := by
  subst hrow
  have hsz : w.heap.size ≤ wr.heap.size := hb.size
  have hb1 : Below wr.heap.size wr w1 := ((Below.refl _ _).alloc (Nat.le_refl _) _).grown hg1 (by simp) (fun k hk => by injection hk with hk; omega)
  have hb1' : Below wr.heap.size wr (w1.alloc o2) := hb1.alloc hb1.size _
  have hoA := own_below ho hb1'
  have hrA := hrows.below hb1'
  have hr' : OwnI w1 wr.heap.size r ((kk : Int) :: gl restl i) := by
    unfold OwnI
    rw [← ints_cons]
    have e : ((kk : Int) :: gl restl i).length = 1 + (gl restl i).length := by simp; omega
    rw [e]; exact hr
  have hrB : OwnI (w1.alloc o2) wr.heap.size r ((kk : Int) :: gl restl i) := World.ownsRow.alloc hr' o2
  have hsn := hrA.snoc (own_mono hrB hsz) (fresh_ne hrows (fun g hg => (hr.lt g hg).1))
  have hr3 := hsn.kept hg2 (fun j hj => own_ne (hsn.2.1 j hj) hoA (by decide))
  have hst : acc ++ (restl.take (i + 1)).map (fun l => (kk : Int) :: l) = acc ++ (restl.take i).map (fun l => (kk : Int) :: l) ++ [(kk : Int) :: gl restl i] := by
    rw [take_map_succ _ hi, ← List.append_assoc]
  have hm3 : Mid s1 w2 w3 := by
    refine Mid.grown (Mid.alloc (Mid.grown (hm.alloc o1) hg1 (fun g hg => ?_)) o2) hg2 (fun g hg => h5 g hg)
    injection hg with hg; subst hg; exact .inr hm.1
  have hb3 : Below w.heap.size w w3 := (hb.trans (hb1'.mono hsz)).grown hg2 (by have := hb1'.size; omega) (fun k hk => (ho.lt k hk).1)
  unfold TyIn
  rw [hst]
  refine ⟨⟨vs ++ [r], ?_, hr3⟩, hm3, fun g hg => ?_, hb3⟩
  · rw [List.length_append]
    exact ho2
  · rcases hat with h | h
    · rw [h] at hg; exact h5 g hg
    · rw [h] at hg
      injection hg with hg
      have := hb1'.size
      have := hm.1
      omega
def ctV (n : Int) : Int := if inB n 1 6 then ((tyL 1 n.toNat).length : Nat) else 0
def ctC (n : Int) : Int := if inB n 1 6 then 0 else 2
end Go.Proofs.Ytlhkpepnklbnfaa
