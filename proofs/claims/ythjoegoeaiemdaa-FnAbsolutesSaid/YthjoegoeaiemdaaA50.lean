/- Slices of residues: how they read; copies; equality. -/
import Derived.Test.YthjoegoeaiemdaaA43
import Derived.Deep.Slices
import Derived.ChangeSame
namespace Go.Proofs.Ythjoegoeaiemdaa
set_option linter.unusedVariables false
set_option linter.unusedSimpArgs false
open Go.ChangeShapes Go.WideShapes Go.ChangeAt Go.RowKit

abbrev Z3 := Int × Int × Int
def g3 (l : List Z3) (k : Nat) : Z3 := l.getD k (0, 0, 0)
def B64 (x : Int) : Prop := -9223372036854775808 ≤ x ∧ x ≤ 9223372036854775807
def R3 (l : List Z3) : Prop := ∀ k, k < l.length → B64 (g3 l k).1 ∧ B64 (g3 l k).2.1 ∧ B64 (g3 l k).2.2
/-- A slice of residues at address A reads as l, in a block below B. -/
def IT (w : World) (B : Nat) (A : Option Addr) (l : List Z3) : Prop :=
  0 < l.length → ∃ b off, A = some ⟨b, off, none⟩ ∧ b < B ∧ ∀ k, k < l.length →
    w.cell? ⟨b, off + k * 3, none⟩ = some (.int .i64 (g3 l k).1) ∧ w.cell? ⟨b, off + k * 3 + 1, none⟩ = some (.int .i64 (g3 l k).2.1) ∧ w.cell? ⟨b, off + k * 3 + 2, none⟩ = some (.int .i64 (g3 l k).2.2)
theorem IT.at {w : World} {B : Nat} {A : Option Addr} {l : List Z3} (h : IT w B A l) {k : Nat} (hk : k < l.length) : ∃ b off, A = some ⟨b, off, none⟩ ∧ b < B ∧ ∀ j, j < l.length →
    w.cell? ⟨b, off + j * 3, none⟩ = some (.int .i64 (g3 l j).1) ∧ w.cell? ⟨b, off + j * 3 + 1, none⟩ = some (.int .i64 (g3 l j).2.1) ∧ w.cell? ⟨b, off + j * 3 + 2, none⟩ = some (.int .i64 (g3 l j).2.2) := h (by omega)
theorem IT.below {w w' : World} {B : Nat} {A : Option Addr} {l : List Z3} (h : IT w B A l) (hb : Below B w w') : IT w' B A l := fun h0 => by
  obtain ⟨b, off, h1, h2, h3⟩ := h h0
  exact ⟨b, off, h1, h2, fun k hk => ⟨(hb.cell (p := ⟨b, off + k * 3, none⟩) h2).trans (h3 k hk).1, (hb.cell (p := ⟨b, off + k * 3 + 1, none⟩) h2).trans (h3 k hk).2.1, (hb.cell (p := ⟨b, off + k * 3 + 2, none⟩) h2).trans (h3 k hk).2.2⟩⟩
theorem IT.more {w : World} {B B' : Nat} {A : Option Addr} {l : List Z3} (h : IT w B A l) (hB : B ≤ B') : IT w B' A l := fun h0 => by
  obtain ⟨b, off, h1, h2, h3⟩ := h h0
  exact ⟨b, off, h1, by omega, h3⟩
theorem IT.call {w w' : World} {A : Option Addr} {l : List Z3} (h : IT w w.heap.size A l) (hb : Below w.heap.size w w') : IT w' w'.heap.size A l := (h.below hb).more hb.size
theorem IT.drewN {w : World} {B : Nat} {A : Option Addr} {l : List Z3} (h : IT w B A l) (n : Nat) : IT (w.drewN n) B A l := h
theorem open_it {H : Type} {enc : TypeId × Value → H} {P : Program} {w : World} {B : Nat} {t e r q : TypeId} {fa fb fc fd : Field} {v : Value} {d : DataW H} {p : List MemPlace} (ht : P.underlying t = some (.slice e)) (he : P.underlying e = some (.struct #[fa, fb]))
    (ha : fa.type = r ∧ fa.offset = 0) (hb : fb.type = q ∧ fb.offset = 2) (hr : P.underlying r = some (.struct #[fc, fd])) (hc : fc.type = q ∧ fc.offset = 0) (hd : fd.type = q ∧ fd.offset = 1) (hq : P.underlying q = some (.int .i64)) (ce : P.cellsOf e = 3) (cr : P.cellsOf r = 2) (cq : P.cellsOf q = 1)
    (hv : Value.okWide P w .any B t v) (h : DataW.Trod enc P w 0 (fun _ => true) true t v d p) (hlt : ∀ x ∈ p, x.block < w.heap.size) :
    ∃ A n c l, v = .slice A n c ∧ n = l.length ∧ n ≤ c ∧ c ≤ maxLen ∧ R3 l ∧ IT w w.heap.size A l := by
  obtain ⟨A, n, c, rfl⟩ := okWide_slice ht hv
  obtain ⟨fuel, hf⟩ := h
  rcases Go.Deep.open_slice ht hf with ⟨hcs, hx⟩ | ⟨a, len, cap, m, n', D, Pl, hcs, _, hl, hm, hmm, hx, hi⟩
  · simp [Value.cells] at hcs
    obtain ⟨rfl, rfl, rfl⟩ := hcs
    exact ⟨none, 0, 0, [], rfl, rfl, Nat.le_refl _, by simp [maxLen], fun k hk => by simp at hk, fun h => by simp at h⟩
  · simp [Value.cells] at hcs
    obtain ⟨rfl, rfl, rfl⟩ := hcs
    simp at hmm
    subst hmm
    have hone : ∀ i, i < m → ∃ z : Z3, (w.cell? (a.add (i * 3)) = some (.int .i64 z.1) ∧ w.cell? (a.add (i * 3 + 1)) = some (.int .i64 z.2.1) ∧ w.cell? (a.add (i * 3 + 2)) = some (.int .i64 z.2.2)) ∧ B64 z.1 ∧ B64 z.2.1 ∧ B64 z.2.2 := by
      intro i hi'
      obtain ⟨cs', hc', ht'⟩ := hi i hi'
      rw [ce] at hc'
      obtain ⟨_, hcl, hat⟩ := World.cells?_some hc'
      obtain ⟨y0, y1, n1, _, _, k0, k1⟩ := trod_struct2 he ht'
      rw [ha.1, ha.2, cr] at k0
      rw [hb.1, hb.2, cq] at k1
      obtain ⟨z0, z1, n2, _, _, j0, j1⟩ := trod_struct2 hr k0
      rw [hc.1, hc.2, cq] at j0
      rw [hd.1, hd.2, cq] at j1
      match cs', hcl with
      | [c0, c1, c2], _ =>
        simp only [List.drop_zero, List.take_succ_cons, List.take_zero, List.drop_succ_cons] at j0 j1 k1
        obtain ⟨x0, e0, _, w0⟩ := DataW.trod_int hq j0
        obtain ⟨x1, e1, _, w1⟩ := DataW.trod_int hq j1
        obtain ⟨x2, e2, _, w2⟩ := DataW.trod_int hq k1
        simp at e0 e1 e2
        subst e0 e1 e2
        have a0 := hat 0 (by omega)
        have a1 := hat 1 (by omega)
        have a2 := hat 2 (by omega)
        rw [Go.Deep.add_add] at a0 a1 a2
        exact ⟨(x0, x1, x2), ⟨by simpa using a0, by simpa using a1, by simpa using a2⟩, wf64 w0, wf64 w1, wf64 w2⟩
    obtain ⟨F, hF⟩ := Go.Deep.choose_lt hone
    refine ⟨some a, n, m, (List.range n).map F, rfl, by simp, hl, hm, fun k hk => ?_, fun h0 => ?_⟩
    · simp at hk
      have := (hF k (by omega)).2
      simpa [g3, hk] using this
    · simp at h0
      obtain ⟨b, off, spot⟩ := a
      have hspot : spot = none := by simpa [Addr.add] using World.cell?_spot (hF 0 (by omega)).1.1
      subst hspot
      refine ⟨b, off, rfl, ?_, fun k hk => ?_⟩
      · simp only [Prod.mk.injEq] at hx
        have := hlt (.cell b off) (by rw [hx.2]; exact List.mem_append_left _ (MemPlace.mem_row.2 ⟨0, by rw [ce]; omega, by simp⟩))
        exact this
      · simp at hk
        have := (hF k (by omega)).1
        simp only [Go.WideShapes.add_plain] at this
        simpa [g3, hk, Nat.add_assoc] using this
end Go.Proofs.Ythjoegoeaiemdaa
