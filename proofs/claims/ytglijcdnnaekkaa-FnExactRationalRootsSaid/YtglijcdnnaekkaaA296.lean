/- RationalRoots: the program's roots. -/
import Derived.Test.YtglijcdnnaekkaaA295
namespace Go.Proofs.Ytglijcdnnaekkaa
set_option linter.unusedVariables false
set_option linter.unusedSimpArgs false
open Go.RowKit

theorem infoRat : (Try.prog.info? 46).map (fun i => (i.zero, i.size, i.bytes)) = some (some (.agg #[.int .i64 0, .int .i64 0]), 2, 16) := by kernel_rfl
def prR (f : List Int) (n d : Int) : Bool := (Int.gcd n d : Int) == 1 && hvL n d f == 0
theorem prR_p {f : List Int} {n d : Int} (h : prR f n d = true) : Int.gcd n d = 1 ∧ hvL n d f = 0 := by
  unfold prR at h
  rw [Bool.and_eq_true, beq_iff_eq, beq_iff_eq] at h
  exact ⟨by omega, h.2⟩
theorem prR_bd {f : List Int} {B D k : Nat} (hB : B ≤ 60) (hk : k ≤ 60) : ∀ a ∈ rrD (prR f) B k, (-60 ≤ a.1 ∧ a.1 ≤ 60) ∧ -60 ≤ a.2 ∧ a.2 ≤ 60 := fun a ha => by
  obtain ⟨_, h1, h2, h3⟩ := rrD_mem k ha
  omega
/-- Both sides' ranges bring one list. -/
theorem prR_same {f : List Int} {z : Int} (hz : f.getLast? = some z) (hz0 : z ≠ 0) (hlow : lowC f ≠ 0) (b1 : z.natAbs ≤ 60) (b2 : (lowC f).natAbs ≤ 60) : rrD (prR f) 60 60 = rrD (prR f) (lowC f).natAbs z.natAbs := by
  have h := rrD_wide (P := prR f) (b := (lowC f).natAbs) (B := 60) (D := z.natAbs) b2 (fun n d hd hp => by
    obtain ⟨g, e⟩ := prR_p hp
    rcases root_bd hd g e hz hz0 with h | h
    · exact ⟨h.2, h.1⟩
    · exact absurd h hlow) (60 - z.natAbs)
  rwa [show z.natAbs + (60 - z.natAbs) = 60 by omega] at h
theorem lowC_ne : ∀ {f : List Int} {z : Int}, f.getLast? = some z → z ≠ 0 → lowC f ≠ 0
  | [], _, h, _ => by simp at h
  | [c], z, h, hz => by
    simp at h
    subst h
    simp [lowC, hz]
  | c :: c2 :: cs, z, h, hz => by
    rw [List.getLast?_cons_cons] at h
    have ih := lowC_ne h hz
    rw [lowC]
    split
    · exact ih
    · assumption
end Go.Proofs.Ytglijcdnnaekkaa
