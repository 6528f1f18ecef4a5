/- Contracts: moduli, inverses, residues of a ring. -/
import Derived.Test.YtifaccppbhbfhaaA42
namespace Go.Proofs.Ytifaccppbhbfhaa
set_option linter.unusedVariables false
set_option linter.unusedSimpArgs false
open Go.RowKit

/-- The inverse of a by m. -/
def invM (a m : Nat) : Int := bzx a m 1 0 % (m : Int)
theorem BoxB (w : World) (o : Obj) : Below w.heap.size w (w.alloc o) := (Below.refl _ _).alloc (Nat.le_refl _) _
set_option maxHeartbeats 400000 in
theorem s_l02Inverse (a m : Nat) (w : World) (ha : a ≤ 1000000000000) (hm : m ≤ 1000000000000) (h0 : 0 < m) : Calls Try.prog 73 #[.int .i64 a, .int .i64 m] w (Q (.int .i64 (invM a m)) w) := by
  go_enter Try.func73, Try.ntmps73
  go_wp2_with (first | (go_at_call 88; refine (s_l01Bezout a m _ ha hm).mono ?_; rintro e w' ⟨rfl, nq, rfl⟩) | (go_at_call 36; refine (s_l01Mod _ _ _ (by omega) (by omega)).mono ?_; rintro e w' ⟨rfl, nq2, rfl⟩))
  go_ret
  exact ⟨rfl, by first | exact dq1 | exact dq2⟩
set_option maxHeartbeats 400000 in
theorem i_modulus (p n : Nat) (w : World) (hb : p ^ n ≤ 1000000000000) (hp : 1 ≤ p) (hn : n ≤ 1000) : Calls Try.prog 107 #[.agg #[.int .i64 p, .int .i64 n]] w (M (.int .i64 ((p ^ n : Nat) : Int)) w) := by
  have HB := Lib.hid hb
  generalize hv : ((p ^ n : Nat) : Int) = v
  have HV := Lib.hid hv
  clear hb hv
  go_enter Try.func107, Try.ntmps107
  go_wp2_with (first | (go_at_call 33; refine (i_power p n _ HB.out hp hn).mono ?_; rw [HV.out]; rintro e w' ⟨rfl, nq, rfl⟩))
  go_ret
  exact ⟨rfl, below_drewN (BoxB _ _) _⟩
set_option maxHeartbeats 1000000 in
theorem i_inverse (p n m a : Nat) (w : World) (hv : Hid (p ^ n = m)) (ha : a ≤ 1000000000000) (hb : m ≤ 1000000000000) (hm : 1 ≤ m) (hp : 1 ≤ p) (hn : n ≤ 1000) : Calls Try.prog 90 #[.agg #[.int .i64 p, .int .i64 n], .int .i64 a] w (M (.int .i64 (invM a m)) w) := by
  go_enter Try.func90, Try.ntmps90
  go_wp2_with (fail)
  have hB := BK.new w 71 #[.int .i64 (p : Int), .int .i64 (n : Int)]
  refine (i_modulus p n _ (by rw [hv.out]; exact hb) hp hn).mono ?_
  rw [hv.out]
  rintro e w1 ⟨rfl, hb1⟩
  have b1 := bel_call (BoxB w _) hb1
  obtain ⟨c0, c1, _, _⟩ := (hB.of_below hb1).two
  have hB1 := hB.of_below hb1
  clear hb1 hB
  go_wp2_with (go_at_call 106; refine (i_Bezout a m _ ha hb).mono ?_; rintro e w' ⟨rfl, nq, rfl⟩)
  refine (i_modulus p n _ (by rw [hv.out]; exact hb) hp hn).mono ?_
  rw [hv.out]
  rintro e w2 ⟨rfl, hb2⟩
  have b2 := bel_call (below_drewN b1 nq) hb2
  go_wp2_with (go_at_call 42; refine (i_mod _ _ _ (by omega) (by omega)).mono ?_; rintro e w' ⟨rfl, nq, rfl⟩)
  go_ret
  exact ⟨rfl, below_drewN b2 _⟩
noncomputable def rgC (p n a : Int) : Int := if ringB p n then (if inB a 0 (((p.toNat ^ n.toNat : Nat) : Int) - 1) then 0 else 2) else 1
theorem md_ring {p n m : Nat} (h : p ^ n = m) (hb : m ≤ 1000000000) : md p n = m := by unfold md; rw [h, if_pos hb]
end Go.Proofs.Ytifaccppbhbfhaa
