/- Several parts of the proof in one text; each part says what it shows. Nothing is assumed. -/
import Derived.Test.YthjoegoeaiemdaaA92
import Derived.Test.YthjoegoeaiemdaaA83
/- The cycles of a permutation. -/
namespace Go.Proofs.Ythjoegoeaiemdaa
set_option linter.unusedVariables false
set_option linter.unusedSimpArgs false
open Go.RowKit

/-- From k on, as far as nothing is seen. -/
def orb (a : List Int) : Nat → Nat → List Bool → List Int → List Bool × List Int
  | 0, _, sn, cy => (sn, cy)
  | f + 1, k, sn, cy => if sn.getD k false then (sn, cy) else orb a f (gt a k).toNat (sn.set k true) (cy ++ [(k : Int)])
theorem orb_seen {a : List Int} {f k : Nat} {sn : List Bool} {cy : List Int} (h : sn.getD k false = true) : orb a f k sn cy = (sn, cy) := by
  cases f with
  | zero => rfl
  | succ f => rw [orb, if_pos h]
theorem orb_go {a : List Int} {f k : Nat} {sn : List Bool} {cy : List Int} (h : sn.getD k false = false) : orb a (f + 1) k sn cy = orb a f (gt a k).toNat (sn.set k true) (cy ++ [(k : Int)]) := by
  rw [orb, if_neg (by rw [h]; simp)]
theorem orb_len (a : List Int) : ∀ (f k : Nat) (sn : List Bool) (cy : List Int), cy.length ≤ (orb a f k sn cy).2.length ∧ (orb a f k sn cy).1.length = sn.length
  | 0, _, _, _ => ⟨Nat.le_refl _, rfl⟩
  | f + 1, k, sn, cy => by
    unfold orb
    split
    · exact ⟨Nat.le_refl _, rfl⟩
    · have h := orb_len a f (gt a k).toNat (sn.set k true) (cy ++ [(k : Int)])
      simp only [List.length_append, List.length_singleton, List.length_set] at h
      exact ⟨by omega, h.2⟩
def cycS (a : List Int) : Nat → Nat → List Bool → List (List Int) → List (List Int)
  | 0, _, _, ll => ll
  | m + 1, i, sn, ll => if sn.getD i false then cycS a m (i + 1) sn ll else cycS a m (i + 1) (orb a (a.length + 1) i sn []).1 (ll ++ [(orb a (a.length + 1) i sn []).2])
def cycL (a : List Int) : List (List Int) := cycS a a.length 0 (List.replicate a.length false) []
theorem cyc_seen {a : List Int} {m i : Nat} {sn : List Bool} {ll : List (List Int)} (h : sn.getD i false = true) : cycS a (m + 1) i sn ll = cycS a m (i + 1) sn ll := by rw [cycS, if_pos h]
theorem cyc_new {a : List Int} {m i : Nat} {sn : List Bool} {ll : List (List Int)} (h : sn.getD i false = false) : cycS a (m + 1) i sn ll = cycS a m (i + 1) (orb a (a.length + 1) i sn []).1 (ll ++ [(orb a (a.length + 1) i sn []).2]) := by
  rw [cycS, if_neg (by rw [h]; simp)]
theorem cyc_len (a : List Int) : ∀ (m i : Nat) (sn : List Bool) (ll : List (List Int)), (cycS a m i sn ll).length ≤ ll.length + m
  | 0, _, _, _ => Nat.le_refl _
  | m + 1, i, sn, ll => by
    unfold cycS
    split
    · have := cyc_len a m (i + 1) sn ll; omega
    · have := cyc_len a m (i + 1) (orb a (a.length + 1) i sn []).1 (ll ++ [(orb a (a.length + 1) i sn []).2])
      simp only [List.length_append, List.length_singleton] at this
      omega
/-- A finished cycle joins the others: its row v1 was made behind wo. -/
theorem cyc_more {base N : Nat} {wo wr w4 : World} {vs : List Value} {ll : List (List Int)} {u3 v1 : Value} {b : List Int} {o : Obj}
    (hg4 : (wr.alloc o).grownBy w4 u3.ownBlock) (ho : wr.ownsRow base 24 1 u3 N vs) (hrows0 : RowsO wo base vs ll) (hrows : RowsO wr base vs ll) (hbase : base ≤ wo.heap.size)
    (ho1 : wr.ownsRow wo.heap.size 2 1 v1 b.length (ints b)) : RowsO w4 base (vs ++ [v1]) (ll ++ [b]) := by
  have hsn := hrows.snoc (own_mono ho1 hbase) (fresh_ne hrows0 (fun g hg => (ho1.lt g hg).1))
  have hsn2 := hsn.kept (World.grownBy_alloc _ o none) (fun i _ => by cases (gv (vs ++ [v1]) i).ownBlock <;> simp)
  have hou := World.ownsRow.alloc ho o
  exact hsn2.kept hg4 (fun i hi => own_ne (hsn2.2.1 i hi) hou (by decide))
theorem bel_mid {s1 : Nat} {w wr : World} (h : Below s1 w wr) : True := trivial
end Go.Proofs.Ythjoegoeaiemdaa
/- The cycles of a permutation, on the side of the reference. -/
namespace Go.Proofs.Ythjoegoeaiemdaa
set_option linter.unusedVariables false
set_option linter.unusedSimpArgs false
open Go.RowKit

end Go.Proofs.Ythjoegoeaiemdaa
/- Signs; IsEvenName. -/
namespace Go.Proofs.Ythjoegoeaiemdaa
set_option linter.unusedVariables false
set_option linter.unusedSimpArgs false
open Go.RowKit

def parN (a : List Int) : Int := if (a.length - (cycL a).length) % 2 = 1 then -1 else 1
theorem cycL_len (a : List Int) : (cycL a).length ≤ a.length := by
  have := cyc_len a a.length 0 (List.replicate a.length false) []
  simpa [cycL] using this
theorem MII.len {ll : List (List Int)} {w : World} {e : Ending} {w' : World} {L : Nat} (hL : ll.length = L) (h : MII ll w e w') : ∃ A c, e = .returned (.slice A L c) ∧ Below w.heap.size w w' := by
  obtain ⟨A, c, vs, h1, _, _, h2⟩ := h
  subst hL
  exact ⟨A, c, h1, h2⟩
end Go.Proofs.Ythjoegoeaiemdaa
/- IsEvenName. -/
namespace Go.Proofs.Ythjoegoeaiemdaa
set_option linter.unusedVariables false
set_option linter.unusedSimpArgs false
open Go.RowKit

theorem lsL_in {n : Nat} {sn : List Bool} (h : sn.length = fact n) : InK n (lsL sn) := fun k hk => by
  obtain ⟨r, h1, h2, _⟩ := lsL_mem.1 (gt_mem hk)
  rw [h1]
  omega
theorem RK_in (i : Nat) (hi : i < 14) : InK (lbP i) (RK (lbP i) (lbG i)) := lsL_in (RG_gi (lb_in i hi).2.2.2.2).1
theorem mem_in {n : Nat} {l : List Int} (h : InK n l) : ∀ k, k < (memL n l).length → InR n (gl (memL n l) k) := fun k hk => by
  rw [memL_len] at hk
  have e : gl (memL n l) k = wrL n (gt l k).toNat := by simp [gl, memL, gt, hk]
  rw [e]
  obtain ⟨h1, h2⟩ := h k hk
  exact wrL_in (by omega)
def oddL (n : Nat) (l : List Int) : Bool := (memL n l).any fun a => decide (parN a < 0)
/-- How many of the ranks are of even permutations. -/
def evK (n : Nat) (l : List Int) (k : Nat) : Nat := ((l.take k).filter fun x => decide (parN (wrL n x.toNat) = 1)).length
theorem evK_yes {n : Nat} {l : List Int} {k : Nat} (hk : k < l.length) (h : parN (wrL n (gt l k).toNat) = 1) : evK n l (k + 1) = evK n l k + 1 := by
  unfold evK
  rw [List.take_succ_eq_append_getElem hk, List.filter_append]
  have : l[k] = gt l k := by simp [gt, List.getElem?_eq_getElem hk]
  rw [this]
  simp [h]
theorem evK_no {n : Nat} {l : List Int} {k : Nat} (hk : k < l.length) (h : ¬ parN (wrL n (gt l k).toNat) = 1) : evK n l (k + 1) = evK n l k := by
  unfold evK
  rw [List.take_succ_eq_append_getElem hk, List.filter_append]
  have : l[k] = gt l k := by simp [gt, List.getElem?_eq_getElem hk]
  rw [this]
  simp [h]
theorem evK_le (n : Nat) (l : List Int) (k : Nat) : evK n l k ≤ k := by
  unfold evK
  exact Nat.le_trans (List.length_filter_le _ _) (by simp; omega)
theorem even_law (n : Nat) (l : List Int) : decide (evK n l l.length = l.length) = !(oddL n l) := by
  unfold evK oddL memL
  rw [List.take_length, Bool.eq_iff_iff]
  simp only [decide_eq_true_eq, Bool.not_eq_true', List.any_eq_false, List.length_filter_eq_length_iff]
  constructor
  · intro h a ha
    obtain ⟨x, hx, rfl⟩ := List.mem_map.1 ha
    have h1 := h x hx
    rw [h1]; simp
  · intro h x hx
    have h1 := h _ (List.mem_map.2 ⟨x, hx, rfl⟩)
    unfold parN at h1 ⊢
    split at h1
    · simp at h1
    · rename_i hh; rw [if_neg hh]
end Go.Proofs.Ythjoegoeaiemdaa
