/- All images of the first block of a size: what both sides answer; the program's side. -/
import Derived.Test.YtglijcdnnaekkaaGreatA257
namespace Go.Proofs.YtglijcdnnaekkaaGreat
set_option linter.unusedVariables false
set_option linter.unusedSimpArgs false
open Go.RowKit

/-- What BlocksOf answers. -/
def BSP (p : Int) (l : List Int) (s : Int) (out : List (List Int)) (code : Int) : Prop :=
  (grpB p l = false ∧ out = [] ∧ code = 1) ∨
  (∃ n : Nat, p = n ∧ grpB n l = true ∧
    (((¬ ∃ k : Nat, s = k ∧ 1 ≤ k ∧ k ≤ n ∧ n % k = 0) ∧ out = [] ∧ code = 2) ∨
     (∃ k : Nat, s = k ∧ 1 ≤ k ∧ k ≤ n ∧ n % k = 0 ∧
       ((¬ (orL n l 0).length = n ∧ out = [] ∧ code = 5) ∨
        ((orL n l 0).length = n ∧ ((bkF n l k = none ∧ out = [] ∧ code = 4) ∨ (∃ pts, bkF n l k = some pts ∧ bkO n l pts out ∧ code = 0)))))))
theorem bsp_unique {p s : Int} {l : List Int} {o1 o2 : List (List Int)} {c1 c2 : Int} (h1 : BSP p l s o1 c1) (h2 : BSP p l s o2 c2) : o1 = o2 ∧ c1 = c2 := by
  rcases h1 with ⟨a, rfl, rfl⟩ | ⟨n, rfl, a, h1⟩
  · rcases h2 with ⟨_, rfl, rfl⟩ | ⟨n, rfl, b, _⟩
    · exact ⟨rfl, rfl⟩
    · rw [a] at b; cases b
  · rcases h2 with ⟨b, _, _⟩ | ⟨n', e, b, h2⟩
    · rw [a] at b; cases b
    · obtain rfl : n = n' := by omega
      rcases h1 with ⟨u, rfl, rfl⟩ | ⟨k, rfl, u1, u2, u3, h1⟩
      · rcases h2 with ⟨_, rfl, rfl⟩ | ⟨k, hk, u1, u2, u3, _⟩
        · exact ⟨rfl, rfl⟩
        · exact absurd ⟨k, hk, u1, u2, u3⟩ u
      · rcases h2 with ⟨u, _, _⟩ | ⟨k', e', v1, v2, v3, h2⟩
        · exact absurd ⟨k, rfl, u1, u2, u3⟩ u
        · obtain rfl : k = k' := by omega
          rcases h1 with ⟨t, rfl, rfl⟩ | ⟨t, h1⟩
          · rcases h2 with ⟨_, rfl, rfl⟩ | ⟨t', _⟩
            · exact ⟨rfl, rfl⟩
            · exact absurd t' t
          · rcases h2 with ⟨t', _, _⟩ | ⟨_, h2⟩
            · exact absurd t t'
            · rcases h1 with ⟨f, rfl, rfl⟩ | ⟨q, f, g, rfl⟩
              · rcases h2 with ⟨_, rfl, rfl⟩ | ⟨q', f', _, _⟩
                · exact ⟨rfl, rfl⟩
                · rw [f] at f'; cases f'
              · rcases h2 with ⟨f', _, _⟩ | ⟨q', f', g', rfl⟩
                · rw [f] at f'; cases f'
                · rw [f] at f'
                  injection f' with e
                  subst e
                  exact ⟨bkO_unique g g', rfl⟩
def BSR (p : Int) (l : List Int) (s : Int) (w : World) (e : Ending) (w' : World) : Prop := ∃ (A : Option Addr) (m c : Nat) (vs : List Value) (out : List (List Int)) (code : Int), e = .returned (.tuple #[.slice A m c, .int .i64 code]) ∧ BSP p l s out code ∧ m = out.length ∧ w'.ownsRow w.heap.size 24 1 (.slice A m c) m vs ∧ RowsO w' w.heap.size vs out ∧ Below w.heap.size w w'
theorem bsr_none {p s code : Int} {l : List Int} {w w' : World} (h : BSP p l s [] code) (hb : Below w.heap.size w w') : BSR p l s w (.returned (.tuple #[.slice none 0 0, .int .i64 code])) w' :=
  ⟨none, 0, 0, [], [], code, rfl, h, rfl, World.ownsRow_nil _ _ _ _, ⟨rfl, fun i hi => by simp at hi, fun i j _ hj => by simp at hj⟩, hb⟩
end Go.Proofs.YtglijcdnnaekkaaGreat
