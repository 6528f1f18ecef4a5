/- Blocks: the reference's joining of classes. -/
import Derived.Test.YthjoegoeaiemdaaA201
import Derived.Test.YthjoegoeaiemdaaA173
import Derived.Test.YthjoegoeaiemdaaA174
import Derived.BigQuiet
namespace Go.Proofs.Ythjoegoeaiemdaa
set_option linter.unusedVariables false
set_option linter.unusedSimpArgs false
open Go.RowKit

def jF (X Y z : Int) : Int := if z = Y then X else z
def jS (X Y : Int) (c : List Int) (i : Nat) : List Int := (c.take i).map (jF X Y) ++ c.drop i
theorem jS_len (X Y : Int) (c : List Int) (i : Nat) : (jS X Y c i).length = c.length := by simp [jS]; omega
theorem jS_zero (X Y : Int) (c : List Int) : jS X Y c 0 = c := by simp [jS]
theorem jS_all (X Y : Int) (c : List Int) : jS X Y c c.length = c.map (jF X Y) := by simp [jS]
theorem jS_at {X Y : Int} {c : List Int} {i : Nat} (h : i < c.length) : gt (jS X Y c i) i = gt c i := by
  simp [gt, jS, List.getElem?_append, h, Nat.min_eq_left (Nat.le_of_lt h)]
theorem jS_succ {X Y : Int} {c : List Int} {i : Nat} (h : i < c.length) : jS X Y c (i + 1) = (jS X Y c i).set i (jF X Y (gt c i)) := by
  have h1 : c.drop i = gt c i :: c.drop (i + 1) := by rw [List.drop_eq_getElem_cons h, gt_eq h]
  unfold jS
  rw [h1, List.take_succ_eq_append_getElem h, List.map_append, List.set_append_right _ _ (by simp [Nat.min_eq_left (Nat.le_of_lt h)])]
  simp [Nat.min_eq_left (Nat.le_of_lt h), gt_eq h]
  rw [List.drop_eq_getElem_cons h, List.set_cons_zero]
theorem jS_yes {X Y : Int} {c : List Int} {i : Nat} (h : i < c.length) (e : gt c i = Y) : jS X Y c (i + 1) = (jS X Y c i).set i X := by
  rw [jS_succ h, jF, if_pos e]
theorem jS_no {X Y : Int} {c : List Int} {i : Nat} (h : i < c.length) (e : ¬ gt c i = Y) : jS X Y c (i + 1) = jS X Y c i := by
  rw [jS_succ h, jF, if_neg e]
  have h2 := jS_at (X := X) (Y := Y) h
  rw [gt_eq (by rw [jS_len]; exact h)] at h2
  rw [← h2, List.set_getElem_self]
theorem ints_set (l : List Int) (i : Nat) (x : Int) : (ints l).set i (.int .i64 x) = ints (l.set i x) := by simp [ints, List.map_set]
theorem joinL_jF (c : List Int) (a b : Nat) : joinL c a b = c.map (jF (min (gt c a) (gt c b)) (max (gt c a) (gt c b))) := rfl
end Go.Proofs.Ythjoegoeaiemdaa
