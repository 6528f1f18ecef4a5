/- Several parts of the proof in one text; each part says what it shows. Nothing is assumed. -/
import Derived.Test.YtkiglhaeiomohaaA80
import Derived.Test.YtkiglhaeiomohaaA20
/- Contracts: groups by their names. -/
namespace Go.Proofs.Ytkiglhaeiomohaa
set_option linter.unusedVariables false
set_option linter.unusedSimpArgs false
open Go.RowKit

theorem BK.tri {w : World} {g : Nat} {t : TypeId} {x y z : Value} (h : BK w g t #[x, y, z]) : w.cell? ⟨g, 0, none⟩ = some x ∧ w.cell? ⟨g, 1, none⟩ = some y ∧ w.cell? ⟨g, 2, none⟩ = some z := ⟨(h.cell 0).trans rfl, (h.cell 1).trans rfl, (h.cell 2).trans rfl⟩
theorem bk_three (w : World) (t t' : TypeId) (cs cs' : Array Value) : BK ((w.alloc (.cells cs t)).alloc (.cells cs' t')) w.heap.size t cs := (two_boxes w t t' cs cs').1
set_option maxHeartbeats 1000000 in
theorem i_libgroup (i : Nat) (hi : i < 14) (A : Option Addr) (G c : Nat) (hG : G = (lbG i).length) (nb : ByteArray) (w : World) (hii : II w w.heap.size A (lbG i)) : Calls Try.prog 30 #[.agg #[.string nb, .int .i64 (lbP i : Nat), .slice A G c]] w (GR w.heap.size (lbP i : Nat) (RK (lbP i) (lbG i)) w) := by
  obtain ⟨p1, p2, g1, g2, hg⟩ := lb_in i hi
  have hgen := fun W (hb : Below w.heap.size w W) => i_generate (lbP i) A G c (lbG i) W p1 (by omega) hG (by omega) ((hii.below hb).more hb.size) hg
  rw [← hG] at g1 g2
  clear hg hii hG
  generalize hR : RK (lbP i) (lbG i) = R at *
  generalize lbP i = p at *
  clear hR
  generalize hL : R.length = L at *
  have HL := Lib.hid hL
  clear hL
  have hb0 := two_alloc w (.cells #[.string nb, .int .i64 (p : Int), .slice A G c] 49) (.cells #[.int .i64 0, .slice none 0 0] 28)
  have hB2 := (two_boxes w 49 28 #[.string nb, .int .i64 (p : Int), .slice A G c] #[.int .i64 0, .slice none 0 0]).2
  obtain ⟨c0, c1, c2⟩ := BK.tri (bk_three w 49 28 #[.string nb, .int .i64 (p : Int), .slice A G c] #[.int .i64 0, .slice none 0 0])
  go_enter Try.func30, Try.ntmps30
  go_wp2_with (first
    | (go_at_call 63; refine (hgen _ (two_alloc w _ _)).mono ?_; rintro e w5 ⟨v3, rfl, ho5, hb5⟩; obtain ⟨Ar, cr, rfl, _⟩ := own_slice' ho5; rw [HL.out]; have z5 := hb5.size; simp only [World.size_alloc] at z5; have hbx5 := hB2.below hb5 (by simp); obtain ⟨f2, f3, fz2, fz3⟩ := hbx5.two))
  have hbw := bel_call hb0 hb5
  rw [HL.out] at ho5
  simp only [World.size_alloc] at ho5
  have h5 := (hbx5.set 0 (.int .i64 (p : Int))).set 1 (.slice Ar L cr)
  have hb9 := (hbw.setCell (p := ⟨w.heap.size + 1, 0, none⟩) (by simp; try omega) (.int .i64 (p : Int))).setCell (p := ⟨w.heap.size + 1, 1, none⟩) (by simp; try omega) (.slice Ar L cr)
  have ho9 := ownsRow_setCell_below (ownsRow_setCell_below ho5 (a := ⟨w.heap.size + 1, 0, none⟩) (by simp; try omega) (.int .i64 (p : Int))) (a := ⟨w.heap.size + 1, 1, none⟩) (by simp; try omega) (.slice Ar L cr)
  generalize ((w5.setCell ⟨w.heap.size + 1, 0, none⟩ (.int .i64 (p : Int))).setCell ⟨w.heap.size + 1, 1, none⟩ (.slice Ar L cr)) = w9 at *
  obtain ⟨d0, d1, _, _⟩ := BK.two (x := .int .i64 (p : Int)) (y := .slice Ar L cr) (by simpa using h5)
  (try simp only [Exit.inBlock, Exit.then])
  refine bodyPost_ret (v := .agg #[.int .i64 (p : Int), .slice Ar L cr]) (by simp [results, Try.results30, go_sem, d0, d1]; try rfl) rfl ?_
  exact ⟨_, rfl, by rw [HL.out]; exact own_mono ho9 (by omega), hb9⟩
/-- What a name stands for: points, ranks, code. -/
def NV (s : ByteArray) (p : Int) (l : List Int) (code : Int) : Prop := (∃ i, i < 14 ∧ s.toList = lbN i ∧ p = (lbP i : Nat) ∧ l = RK (lbP i) (lbG i) ∧ code = 0) ∨ (NoN s ∧ p = 0 ∧ l = [] ∧ code = 4)
theorem nv_ex (s : ByteArray) : ∃ p l code, NV s p l code := by
  by_cases h : ∃ i, i < 14 ∧ s.toList = lbN i
  · obtain ⟨i, h1, h2⟩ := h
    exact ⟨_, _, _, .inl ⟨i, h1, h2, rfl, rfl, rfl⟩⟩
  · exact ⟨_, _, _, .inr ⟨fun i hi he => h ⟨i, hi, he⟩, rfl, rfl, rfl⟩⟩
theorem lbN_inj : ∀ i, i < 14 → ∀ j, j < 14 → lbN i = lbN j → i = j := by
  have h : ∀ i j : Fin 14, lbN i = lbN j → i = j := by decide +kernel
  intro i hi j hj e
  have := h ⟨i, hi⟩ ⟨j, hj⟩ e
  simpa using this
def GRB (base : Nat) (p : Int) (l : List Int) (b : Bool) (w : World) (e : Ending) (w' : World) : Prop := ∃ v, e = .returned (.tuple #[.agg #[.int .i64 p, v], .bool b]) ∧ w'.ownsRow base 2 1 v l.length (ints l) ∧ Below w.heap.size w w'
def GRC (base : Nat) (p : Int) (l : List Int) (c : Int) (w : World) (e : Ending) (w' : World) : Prop := ∃ v, e = .returned (.tuple #[.agg #[.int .i64 p, v], .int .i64 c]) ∧ w'.ownsRow base 2 1 v l.length (ints l) ∧ Below w.heap.size w w'
end Go.Proofs.Ytkiglhaeiomohaa
/- Contracts: GroupNamed, SizeOf, IsSolvableName. -/
namespace Go.Proofs.Ytkiglhaeiomohaa
set_option linter.unusedVariables false
set_option linter.unusedSimpArgs false
open Go.RowKit

theorem nv_code {s : ByteArray} {p : Int} {l : List Int} {code : Int} (h : NV s p l code) : (code = 0 ∨ (code = 4 ∧ p = 0 ∧ l = [])) ∧ l.length ≤ 720 := by
  rcases h with ⟨i, hi, hs, rfl, rfl, rfl⟩ | ⟨hs, rfl, rfl, rfl⟩
  · refine ⟨.inl rfl, ?_⟩
    obtain ⟨p1, p2, g1, g2, hg⟩ := lb_in i hi
    have h1 := (RG_gi hg).1
    have h2 := lsL_len (RG (lbP i) (lbG i)).2
    have h3 := (fact_le (k := lbP i) (by omega)).2
    unfold RK
    omega
  · exact ⟨.inr ⟨rfl, rfl, rfl⟩, by simp⟩
set_option maxRecDepth 100000 in
theorem grp_ranks (p : Int) (v : Value) (W : World) : (Instr.field 28 (.agg #[.int .i64 p, v]) 1).run Try.prog W = .ok v W := by
  first | rfl | kernel_rfl | (simp [Instr.field]; rfl) | (unfold Instr.field; simp [go_sem])
end Go.Proofs.Ytkiglhaeiomohaa
/- Walks: IsSolvableName; the law of GroupNamed. -/
namespace Go.Proofs.Ytkiglhaeiomohaa
set_option linter.unusedVariables false
set_option linter.unusedSimpArgs false
open Go.RowKit

def MBI (b : Bool) (c : Int) (w : World) (e : Ending) (w' : World) : Prop := e = .returned (.tuple #[.bool b, .int .i64 c]) ∧ Below w.heap.size w w'
end Go.Proofs.Ytkiglhaeiomohaa
