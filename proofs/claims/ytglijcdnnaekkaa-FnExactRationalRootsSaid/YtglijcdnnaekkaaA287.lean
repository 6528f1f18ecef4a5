/- Polynomials over the rationals: a list has at most as many roots as its length less one. -/
namespace Go.Proofs.Ytglijcdnnaekkaa
set_option linter.unusedVariables false
set_option linter.unusedSimpArgs false

def evQ : List Rat → Rat → Rat
  | [], _ => 0
  | c :: cs, x => c + x * evQ cs x
def qoQ (a : Rat) : List Rat → List Rat
  | [] => []
  | [_] => []
  | _ :: c :: cs => evQ (c :: cs) a :: qoQ a (c :: cs)
theorem evQ_qo (a x : Rat) : ∀ f, evQ f x = evQ f a + (x - a) * evQ (qoQ a f) x
  | [] => by simp [evQ, qoQ] <;> grind
  | [c] => by simp only [evQ, qoQ]; grind
  | c0 :: c :: cs => by
    have h := evQ_qo a x (c :: cs)
    rw [show evQ (c0 :: c :: cs) x = c0 + x * evQ (c :: cs) x from rfl, show evQ (c0 :: c :: cs) a = c0 + a * evQ (c :: cs) a from rfl, show qoQ a (c0 :: c :: cs) = evQ (c :: cs) a :: qoQ a (c :: cs) from rfl, show evQ (evQ (c :: cs) a :: qoQ a (c :: cs)) x = evQ (c :: cs) a + x * evQ (qoQ a (c :: cs)) x from rfl]
    generalize evQ (c :: cs) x = X at *
    generalize evQ (c :: cs) a = Y at *
    generalize evQ (qoQ a (c :: cs)) x = Z at *
    subst h
    grind
theorem qoQ_len (a : Rat) : ∀ f, (qoQ a f).length = f.length - 1
  | [] => rfl
  | [_] => rfl
  | c0 :: c :: cs => by
    have h := qoQ_len a (c :: cs)
    simp only [qoQ, List.length_cons] at h ⊢
    omega
theorem qoQ_last (a : Rat) : ∀ c0 c cs, (qoQ a (c0 :: c :: cs)).getLast? = (c0 :: c :: cs).getLast?
  | _, c, [] => by simp [qoQ, evQ, Rat.add_zero]
  | _, c, d :: cs => by
    have h := qoQ_last a c d cs
    rw [show qoQ a (_ :: c :: d :: cs) = evQ (c :: d :: cs) a :: qoQ a (c :: d :: cs) from rfl, List.getLast?_cons, h, List.getLast?_cons_cons, List.getLast?_cons_cons]
    cases hq : (c :: d :: cs).getLast? with
    | none => simp at hq
    | some z => rw [List.getLast?_cons_cons] at hq; rw [hq]; rfl
theorem rootsQ : ∀ (k : Nat) (f : List Rat), f.length = k → (∃ c, f.getLast? = some c ∧ c ≠ 0) → ∀ rs : List Rat, rs.Nodup → (∀ r ∈ rs, evQ f r = 0) → rs.length ≤ f.length - 1
  | _, _, _, _, [], _, _ => by simp
  | _, [], _, ⟨c, h, _⟩, _ :: _, _, _ => by simp at h
  | _, [c], _, ⟨c', h, hc⟩, a :: _, _, hr => by
    have := hr a (by simp)
    simp at h
    simp [evQ, Rat.add_zero] at this
    exact absurd (h.symm.trans this) hc
  | 0, _ :: _ :: _, hk, _, _ :: _, _, _ => by simp at hk
  | k + 1, c0 :: c :: cs, hk, ⟨z, h, hz⟩, a :: rs, hd, hr => by
    have ha := hr a (by simp)
    rw [List.nodup_cons] at hd
    have ih := rootsQ k (qoQ a (c0 :: c :: cs)) (by rw [qoQ_len]; simp at hk ⊢; omega) ⟨z, by rw [qoQ_last]; exact h, hz⟩ rs hd.2 (fun r hm => by
      have h1 := hr r (by simp [hm])
      rw [evQ_qo a r, ha] at h1
      have h2 : r - a ≠ 0 := fun e => hd.1 (by
        have : r = a := by grind
        rw [← this]; exact hm)
      have h3 : (r - a) * evQ (qoQ a (c0 :: c :: cs)) r = 0 := by grind
      rcases Rat.mul_eq_zero.1 h3 with h4 | h4
      · exact absurd h4 h2
      · exact h4)
    rw [qoQ_len] at ih
    simp at ih ⊢
    omega
end Go.Proofs.Ytglijcdnnaekkaa
