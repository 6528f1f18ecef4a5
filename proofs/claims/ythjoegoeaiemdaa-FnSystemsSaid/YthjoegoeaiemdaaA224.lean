/- Solutions of systems, as plain facts. -/
import Derived.Test.YthjoegoeaiemdaaA64
namespace Go.Proofs.Ythjoegoeaiemdaa
set_option linter.unusedVariables false
set_option linter.unusedSimpArgs false

theorem valB_in {x : Int} (h1 : -1000000000000 ≤ x) (h2 : x ≤ 1000000000000) : valB x = true := by
  cases h : valB x
  · rcases valB_f h with h | h <;> omega
  · rfl
/-- What is asked of a solution and the smallest one. -/
structure SysOk (l : List Z3) (N M S : Int) : Prop where
  n0 : 0 ≤ N
  nm : N < M
  m1 : M ≤ 1000000000000
  s0 : -1000000000000 ≤ S
  s1 : S ≤ 1000000000000
  okN : dsB l N = true ∧ dsC l N = 0
  okS : dsB l S = true ∧ dsC l S = 0
  up : 2 * S ≤ M
  dn : -2 * S < M
  same : N - S = 0 ∨ N - S = M
theorem sys_ok {l : List Z3} (h : sysB l = true) : SysOk l (soN l) (soP l) (smN l) := by
  have hp := sysB_p h
  obtain ⟨h1, h2⟩ := slv_bd l.length hp.1
  have h3 := pr_le hp.1
  have hds : ∀ x : Int, -1000000000000 ≤ x → x ≤ 1000000000000 → x % (pr l l.length : Int) = slv l l.length → dsB l x = true ∧ dsC l x = 0 := fun x a b c => by
    unfold dsB dsC
    rw [h, valB_in a b]
    simp [c]
  have e1 : soN l = slv l l.length := by unfold soN; rw [if_pos h]
  have e2 : soP l = (pr l l.length : Nat) := by unfold soP; rw [if_pos h]
  have e3 : smN l = if (pr l l.length : Int) < 2 * slv l l.length then slv l l.length - (pr l l.length : Int) else slv l l.length := by unfold smN; rw [if_pos h]
  rw [e1, e2, e3]
  generalize slv l l.length = N at *
  generalize pr l l.length = M at *
  have m1 : N % (M : Int) = N := Int.emod_eq_of_lt h1 h2
  have m2 : (N - (M : Int)) % (M : Int) = N := by rw [Int.sub_emod, Int.emod_self, Int.sub_zero, Int.emod_emod, m1]
  split
  · rename_i hlt
    exact ⟨h1, h2, by omega, by omega, by omega, hds _ (by omega) (by omega) m1, hds _ (by omega) (by omega) m2, by omega, by omega, by omega⟩
  · rename_i hlt
    exact ⟨h1, h2, by omega, by omega, by omega, hds _ (by omega) (by omega) m1, hds _ (by omega) (by omega) m1, by omega, by omega, by omega⟩
end Go.Proofs.Ythjoegoeaiemdaa
