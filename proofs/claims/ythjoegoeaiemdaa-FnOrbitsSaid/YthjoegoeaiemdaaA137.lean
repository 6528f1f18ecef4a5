/- Several parts of the proof in one text; each part says what it shows. Nothing is assumed. -/
import Derived.Test.YthjoegoeaiemdaaA133
import Derived.Test.YthjoegoeaiemdaaA88
/- All conjugates of a group; is one group part of another: the program's side. -/
namespace Go.Proofs.Ythjoegoeaiemdaa
set_option linter.unusedVariables false
set_option linter.unusedSimpArgs false
open Go.RowKit

theorem infoGrp : (Try.prog.info? 26).map (fun i => (i.zero, i.size, i.bytes)) = some (some (.agg #[.int .i64 0, .slice none 0 0]), 2, 32) := by kernel_rfl
/-- The cells of groups of n points. -/
def gcells (n : Nat) (vs : List Value) : List Value := vs.flatMap fun v => [.int .i64 (n : Int), v]
theorem gcells_len (n : Nat) : ∀ vs : List Value, (gcells n vs).length = vs.length * 2
  | [] => rfl
  | v :: vs => by
    have h := gcells_len n vs
    simp only [gcells, List.flatMap_cons, List.length_append, List.length_cons, List.length_nil] at h ⊢
    omega
theorem gcells_snoc (n : Nat) (vs : List Value) (v : Value) : gcells n (vs ++ [v]) = gcells n vs ++ [.int .i64 (n : Int), v] := by simp [gcells]
theorem gcells_at (n : Nat) : ∀ (vs : List Value) (k : Nat), k < vs.length → (gcells n vs)[k * 2]? = some (.int .i64 (n : Int)) ∧ (gcells n vs)[k * 2 + 1]? = some (gv vs k)
  | [], k, h => by simp at h
  | v :: vs, 0, _ => by simp [gcells, gv]
  | v :: vs, k + 1, h => by
    have h1 := gcells_at n vs k (by simpa using h)
    have e1 : (k + 1) * 2 = k * 2 + 2 := by omega
    have e2 : (k + 1) * 2 + 1 = k * 2 + 1 + 2 := by omega
    rw [e2, e1]
    simpa [gcells, gv] using h1
theorem row_moreG {base N : Nat} {wr w1 w4 : World} {vs xs : List Value} {ms : List (List Int)} {u5 v1 : Value} {b : List Int} {o : Obj}
    (hg4 : (w1.alloc o).grownBy w4 u5.ownBlock) (ho : wr.ownsRow base 26 2 u5 N xs) (hrows : RowsO wr base vs ms) (hbase : base ≤ wr.heap.size)
    (ho1 : w1.ownsRow wr.heap.size 2 1 v1 b.length (ints b)) (hb1 : Below wr.heap.size wr w1) : RowsO w4 base (vs ++ [v1]) (ms ++ [b]) := by
  have hsn := (hrows.below hb1).snoc (own_mono ho1 hbase) (fresh_ne hrows (fun g hg => (ho1.lt g hg).1))
  have hsn2 := hsn.kept (World.grownBy_alloc _ o none) (fun i _ => by cases (gv (vs ++ [v1]) i).ownBlock <;> simp)
  have hou := World.ownsRow.alloc (own_below ho hb1) o
  exact hsn2.kept hg4 (fun i hi => own_ne (hsn2.2.1 i hi) hou (by decide))
def cjA (n : Nat) (l : List Int) (k : Nat) : List (List Int) := (List.range k).map fun r => rkC (cjM n (wrL n r) l)
theorem cjA_len (n : Nat) (l : List Int) (k : Nat) : (cjA n l k).length = k := by simp [cjA]
theorem cjA_succ (n : Nat) (l : List Int) (k : Nat) : cjA n l (k + 1) = cjA n l k ++ [rkC (cjM n (wrL n k) l)] := by simp [cjA, List.range_succ]
theorem cells_two (w : World) (x y : Value) (t : TypeId) : ∀ j u, [x, y][j]? = some u → (w.alloc (.cells #[x, y] t)).cell? ((⟨w.heap.size, 0, none⟩ : Addr).add j) = some u := two_cells w x y t
end Go.Proofs.Ythjoegoeaiemdaa
/- Is one group part of another: the program's side. -/
namespace Go.Proofs.Ythjoegoeaiemdaa
set_option linter.unusedVariables false
set_option linter.unusedSimpArgs false
open Go.RowKit

def partB (l l' : List Int) : Bool := l.all fun x => decide (x ∈ l')
theorem partB_any (l l' : List Int) : (l.any fun x => !decide (x ∈ l')) = !partB l l' := by
  unfold partB
  rw [List.not_all_eq_any_not]
end Go.Proofs.Ythjoegoeaiemdaa
/- SubgroupNames: the program's closures. -/
namespace Go.Proofs.Ythjoegoeaiemdaa
set_option linter.unusedVariables false
set_option linter.unusedSimpArgs false
open Go.RowKit

/-- A conjugate of the first group lies in the second. -/
def sbB (n : Nat) (l l' : List Int) : Bool := (cjA n l (fact n)).any fun x => partB x l'
end Go.Proofs.Ythjoegoeaiemdaa
