/- Several parts of the proof in one text; each part says what it shows. Nothing is assumed. -/
import Derived.Test.YtjfinniebijgbaaDoorA8
import Derived.Deep.Slices
import Derived.Deep.RegionLaw
import Derived.ChangeSame
/- Draws: a source of numbers that follow from a code. -/
namespace Go.Proofs.YtjfinniebijgbaaDoor
set_option linter.unusedVariables false
set_option linter.unusedSimpArgs false
open Go.ChangeShapes Go.WideShapes Go.ChangeAt Go.RowKit

/-- A slice of n bytes at address A, in a block below B. -/
def YB (w : World) (B : Nat) (A : Option Addr) (n : Nat) : Prop :=
  0 < n → ∃ b off, A = some ⟨b, off, none⟩ ∧ b < B ∧ ∀ k, k < n → ∃ x : Nat, x ≤ 255 ∧ w.cell? ⟨b, off + k, none⟩ = some (.int .u8 (x : Int))
theorem YB.below {w w' : World} {B : Nat} {A : Option Addr} {n : Nat} (h : YB w B A n) (hb : Below B w w') : YB w' B A n := fun h0 => by
  obtain ⟨b, off, h1, h2, h3⟩ := h h0
  refine ⟨b, off, h1, h2, fun k hk => ?_⟩
  obtain ⟨x, hx, hc⟩ := h3 k hk
  exact ⟨x, hx, (hb.cell (p := ⟨b, off + k, none⟩) h2).trans hc⟩
theorem YB.more {w : World} {B B' : Nat} {A : Option Addr} {n : Nat} (h : YB w B A n) (hB : B ≤ B') : YB w B' A n := fun h0 => by
  obtain ⟨b, off, h1, h2, h3⟩ := h h0
  exact ⟨b, off, h1, by omega, h3⟩
theorem YB.call {w w' : World} {A : Option Addr} {n : Nat} (h : YB w w.heap.size A n) (hb : Below w.heap.size w w') : YB w' w'.heap.size A n := (h.below hb).more hb.size
theorem YB.at {w : World} {B : Nat} {A : Option Addr} {n : Nat} (h : YB w B A n) {k : Nat} (hk : k < n) : ∃ b off, A = some ⟨b, off, none⟩ ∧ b < B ∧ ∃ x : Nat, x ≤ 255 ∧ w.cell? ⟨b, off + k, none⟩ = some (.int .u8 (x : Int)) := by
  obtain ⟨b, off, h1, h2, h3⟩ := h (by omega)
  exact ⟨b, off, h1, h2, h3 k hk⟩
theorem open_yb {H : Type} {enc : TypeId × Value → H} {P : Program} {w : World} {B : Nat} {t e : TypeId} {v : Value} {d : DataW H} {p : List MemPlace} (ht : P.underlying t = some (.slice e)) (he : P.underlying e = some (.int .u8)) (hc : P.cellsOf e = 1)
    (hv : Value.okWide P w .any B t v) (h : DataW.Trod enc P w 0 (fun _ => true) true t v d p) (hlt : ∀ x ∈ p, x.block < w.heap.size) :
    ∃ A n c, v = .slice A n c ∧ n ≤ c ∧ c ≤ maxLen ∧ YB w w.heap.size A n := by
  obtain ⟨A, n, c, rfl⟩ := okWide_slice ht hv
  obtain ⟨fuel, hf⟩ := h
  rcases Go.Deep.open_slice1 ht hc hf with ⟨hcs, hx⟩ | ⟨a, len, cap, m, n', V, D, Pl, hcs, _, hl, hm, hmm, hx, hi⟩
  · simp [Value.cells] at hcs
    obtain ⟨rfl, rfl, rfl⟩ := hcs
    exact ⟨none, 0, 0, rfl, Nat.le_refl _, by simp [maxLen], fun h => by omega⟩
  · simp [Value.cells] at hcs
    obtain ⟨rfl, rfl, rfl⟩ := hcs
    simp at hmm
    subst hmm
    have hone : ∀ i, i < m → ∃ x : Nat, x ≤ 255 ∧ w.cell? (a.add i) = some (.int .u8 (x : Int)) := fun i hi' => by
      obtain ⟨h1, h2⟩ := hi i hi'
      obtain ⟨x, e1, _, wf⟩ := DataW.trod_int he h2
      simp at e1
      simp [Lit.wf, IntKind.min, IntKind.max, IntKind.signed, IntKind.bits] at wf
      refine ⟨x.toNat, by omega, ?_⟩
      rw [h1, e1, Int.toNat_of_nonneg (by omega)]
    refine ⟨some a, n, m, rfl, hl, hm, fun h0 => ?_⟩
    obtain ⟨b, off, spot⟩ := a
    obtain ⟨x0, _, hc0⟩ := hone 0 (by omega)
    have hspot : spot = none := by simpa [Addr.add] using World.cell?_spot hc0
    subst hspot
    refine ⟨b, off, rfl, ?_, fun k hk => ?_⟩
    · simp only [Prod.mk.injEq] at hx
      exact hlt (.cell b off) (by rw [hx.2]; exact List.mem_append_left _ (MemPlace.mem_row.2 ⟨0, by omega, by simp⟩))
    · obtain ⟨x, hx', hcc⟩ := hone k (by omega)
      rw [Go.WideShapes.add_plain] at hcc
      exact ⟨x, hx', hcc⟩
/-- Below B, the world is as it was but for block g. -/
structure Up (g B : Nat) (w w' : World) : Prop where
  os : w'.os = w.os
  tape : w'.tape = w.tape
  output : w'.output = w.output
  size : w.heap.size ≤ w'.heap.size
  block : ∀ k, k < B → k ≠ g → w'.heap[k]? = w.heap[k]?
section
variable {g B B' : Nat} {w w' w'' : World}
theorem Up.refl : Up g B w w := ⟨rfl, rfl, rfl, Nat.le_refl _, fun _ _ _ => rfl⟩
theorem Up.trans (h : Up g B w w') (k : Up g B w' w'') : Up g B w w'' :=
  ⟨k.os.trans h.os, k.tape.trans h.tape, k.output.trans h.output, Nat.le_trans h.size k.size, fun i hi hg => (k.block i hi hg).trans (h.block i hi hg)⟩
theorem Up.mono (h : Up g B w w') (hB : B' ≤ B) : Up g B' w w' := ⟨h.os, h.tape, h.output, h.size, fun k hk hg => h.block k (by omega) hg⟩
theorem Up.of (h : Below B w w') : Up g B w w' := ⟨h.os, h.tape, h.output, h.size, fun k hk _ => h.block k hk⟩
theorem Up.below (h : Up g B w w') (hB : B ≤ g) : Below B w w' := ⟨h.os, h.tape, h.output, h.size, fun k hk => h.block k hk (by omega)⟩
theorem Up.drewN (h : Up g B w w') (n : Nat) : Up g B w (w'.drewN n) := ⟨h.os, h.tape, h.output, h.size, h.block⟩
theorem Up.setCell (h : Up g B w w') (i : Nat) (u : Value) : Up g B w (w'.setCell ⟨g, i, none⟩ u) :=
  h.trans ⟨rfl, rfl, rfl, by simp [World.setCell], fun k _ hg => Below.heap_setCell _ _ _ _ hg⟩
theorem Up.cell (h : Up g B w w') {p : Addr} (hp : p.block < B) (hg : p.block ≠ g) : w'.cell? p = w.cell? p := World.cell?_of_block (w := w) (h.block p.block hp hg)
theorem Up.grown (h : Up g w.heap.size w w') : w.grownBy w' (some g) := ⟨h.os, h.tape, h.output, h.size, fun k hk hg => h.block k hk (fun e => hg (by rw [e]))⟩
theorem Up.call (h : Up g w.heap.size w w') (k : Up g w'.heap.size w' w'') : Up g w.heap.size w w'' := h.trans (k.mono h.size)
theorem Up.thenB (h : Up g w.heap.size w w') (k : Below w'.heap.size w' w'') : Up g w.heap.size w w'' := h.trans ((Up.of k).mono h.size)
end
/-- Block g is a source: its code lies below. -/
def SRC (w : World) (g : Nat) : Prop := ∃ (A : Option Addr) (n c i s : Nat), BK w g 68 #[.slice A n c, .int .i64 (i : Int), .int .i64 (s : Int)] ∧ i ≤ n ∧ n ≤ 4096 ∧ s < 2147483647 ∧ YB w g A n
theorem SRC.below {w w' : World} {g B : Nat} (h : SRC w g) (hb : Below B w w') (hg : g < B) : SRC w' g := by
  obtain ⟨A, n, c, i, s, h1, h2, h3, h4, h5⟩ := h
  exact ⟨A, n, c, i, s, h1.below hb hg, h2, h3, h4, h5.below (hb.mono (by omega))⟩
theorem SRC.lt {w : World} {g : Nat} (h : SRC w g) : g < w.heap.size := by
  obtain ⟨A, n, c, i, s, h1, _⟩ := h
  exact h1.lt
theorem SRC.call {w w' : World} {g : Nat} (h : SRC w g) (hb : Below w.heap.size w w') : SRC w' g := h.below hb h.lt
theorem SRC.grown {w w' : World} {g : Nat} {row : Option Nat} (h : SRC w g) (hg : w.grownBy w' row) (hr : ∀ k, row = some k → g < k) : SRC w' g :=
  h.below (B := g + 1) ⟨hg.os, hg.tape, hg.output, hg.size, fun k hk => hg.block k (by have := h.lt; omega) (fun e => by have := hr k e.symm; omega)⟩ (by omega)
theorem SRC.drewN {w : World} {g : Nat} (h : SRC w g) (n : Nat) : SRC (w.drewN n) g := h
/-- A draw: what it returns, and how the world stands behind it. -/
def NX (g : Nat) (P : Int → Prop) (w : World) (e : Ending) (w' : World) : Prop := ∃ r : Int, e = .returned (.int .i64 r) ∧ P r ∧ SRC w' g ∧ Up g w.heap.size w w'
theorem tri {w : World} {g : Nat} {t : TypeId} {x y z : Value} (h : BK w g t #[x, y, z]) : w.cell? ⟨g, 0, none⟩ = some x ∧ w.cell? ⟨g, 1, none⟩ = some y ∧ w.cell? ⟨g, 2, none⟩ = some z ∧ w.frozen? ⟨g, 0, none⟩ = false ∧ w.frozen? ⟨g, 1, none⟩ = false ∧ w.frozen? ⟨g, 2, none⟩ = false := ⟨(h.cell 0).trans rfl, (h.cell 1).trans rfl, (h.cell 2).trans rfl, h.frozen 0, h.frozen 1, h.frozen 2⟩
set_option maxHeartbeats 2000000 in
theorem s_l01From (A : Option Addr) (n c : Nat) (w : World) (hn : n ≤ 4096) (hs : YB w w.heap.size A n) :
    Calls Tryd.prog 33 #[.slice A n c] w (fun e w' => e = .returned (.pointer (some ⟨w.heap.size, 0, none⟩)) ∧ SRC w' w.heap.size ∧ Below w.heap.size w w') := by
  go_enter Tryd.func33, Tryd.ntmps33
  go_wp2_with (fail)
  go_loopw [4] (fun u4 wr => ∃ k s : Nat, k ≤ n ∧ s < 2147483647 ∧ u4 = .int .i64 k ∧ BK wr w.heap.size 68 #[.slice A n c, .int .i64 0, .int .i64 (s : Int)] ∧ Below w.heap.size w wr) (fun u4 _ => n - (intOf u4).toNat)
  case atStart => exact ⟨0, 31019, Nat.zero_le _, by omega, rfl, BK.new _ _ _, (Below.refl _ _).alloc (Nat.le_refl _) _⟩
  case round =>
    obtain ⟨wo, rfl⟩ : ∃ wo : World, wo = wr := ⟨_, rfl⟩
    obtain ⟨k, s, hk, hs2, rfl, hB, hb⟩ := hrel
    by_cases hlt : k < n ∧ k < 64
    · obtain ⟨hlt, h64⟩ := hlt
      obtain ⟨b, off, rfl, hbb, x, hx, hc⟩ := hs.at hlt
      have e1 := (hb.cell (p := ⟨b, off + k, none⟩) hbb).trans hc
      obtain ⟨c0, c1, c2, f0, f1, f2⟩ := tri hB
      have hm : ((s : Int) * 61 + (x : Int)) % 2147483647 = (((s * 61 + x) % 2147483647 : Nat) : Int) := by omega
      have hlt2 : (s * 61 + x) % 2147483647 < 2147483647 := Nat.mod_lt _ (by omega)
      have w1 : IntKind.i64.wrap ((s : Int) * 61) = (s : Int) * 61 := IntWalk.i64_in _ (by omega)
      have w2 : IntKind.i64.wrap (x : Int) = (x : Int) := IntWalk.i64_in _ (by omega)
      have w3 : IntKind.i64.wrap ((s : Int) * 61 + (x : Int)) = (s : Int) * 61 + (x : Int) := IntWalk.i64_in _ (by omega)
      have HM := Lib.hid hm
      clear hm
      go_wp2_with (fail)
      go_region_law (fail)
      all_goals
        go_wp2_with (fail)
        go_roundw
        case rel => exact ⟨k + 1, (s * 61 + x) % 2147483647, by omega, hlt2, by go_num, by rw [← HM.out]; exact hB.set 2 _, (hb.setCell (p := ⟨w.heap.size, 2, none⟩) (Nat.le_refl _) _).drew⟩
        case measure => simp [intOf]; omega
    · by_cases hkn : k < n
      · have h64 : ¬ k < 64 := fun h => hlt ⟨hkn, h⟩
        go_wp2_with (fail)
        go_ret
        exact ⟨rfl, ⟨A, n, c, 0, s, hB, Nat.zero_le _, hn, hs2, hs.below hb⟩, hb⟩
      · go_wp2_with (fail)
        go_ret
        exact ⟨rfl, ⟨A, n, c, 0, s, hB, Nat.zero_le _, hn, hs2, hs.below hb⟩, hb⟩
def inN (n r : Int) : Prop := 0 ≤ r ∧ (1 < n → r < n) ∧ (n ≤ 1 → r = 0)
theorem inN_mod {n x : Int} (hx : 0 ≤ x) (hn : 1 < n) : inN n (x % n) := ⟨Int.emod_nonneg _ (by omega), fun _ => Int.emod_lt_of_pos _ (by omega), fun h => by omega⟩
set_option maxHeartbeats 4000000 in
theorem s_l01Next (g : Nat) (n : Int) (w : World) (hs : SRC w g) : Calls Tryd.prog 36 #[.pointer (some ⟨g, 0, none⟩), .int .i64 n] w (NX g (inN n) w) := by
  by_cases h1 : n ≤ 1
  · go_enter Tryd.func36, Tryd.ntmps36
    go_wp2_with (fail)
    go_ret
    exact ⟨0, rfl, ⟨Int.le_refl _, fun h => by omega, fun _ => rfl⟩, hs, Up.refl⟩
  obtain ⟨A, cn, cc, i, s, hB, hi, hcn, hs2, hib⟩ := hs
  obtain ⟨c0, c1, c2, f0, f1, f2⟩ := tri hB
  have hm : ((s : Int) * 48271 + 29) % 2147483647 = (((s * 48271 + 29) % 2147483647 : Nat) : Int) := by omega
  have hs3 : (s * 48271 + 29) % 2147483647 < 2147483647 := Nat.mod_lt _ (by omega)
  have hB2 := hB.set 2 (.int .i64 ((((s * 48271 + 29) % 2147483647 : Nat) : Int)))
  have hup : Up g w.heap.size w (w.setCell ⟨g, 2, none⟩ (.int .i64 ((((s * 48271 + 29) % 2147483647 : Nat) : Int)))) := Up.refl.setCell 2 _
  generalize (s * 48271 + 29) % 2147483647 = s' at *
  have hB2 : BK (w.setCell ⟨g, 2, none⟩ (.int .i64 (s' : Int))) g 68 #[.slice A cn cc, .int .i64 (i : Int), .int .i64 (s' : Int)] := hB2
  obtain ⟨q, hq, hq2⟩ : ∃ q : Nat, (s' : Int) / 31 = (q : Int) ∧ q < 69273667 := ⟨s' / 31, by omega, by omega⟩
  obtain ⟨d0, d1, d2, g0, g1, g2⟩ := tri hB2
  by_cases hic : i < cn
  · obtain ⟨b, off, rfl, hbb, x, hx, hcx⟩ := hib.at hic
    have e1 := (hup.cell (p := ⟨b, off + i, none⟩) (by show b < _; have := hB.lt; omega) (by show b ≠ g; omega)).trans hcx
    have hfin : ∀ m, SRC (((w.setCell ⟨g, 2, none⟩ (.int .i64 (s' : Int))).drewN m).setCell ⟨g, 1, none⟩ (.int .i64 ((i : Int) + 1))) g ∧ Up g w.heap.size w (((w.setCell ⟨g, 2, none⟩ (.int .i64 (s' : Int))).drewN m).setCell ⟨g, 1, none⟩ (.int .i64 ((i : Int) + 1))) := fun m => by
      have hu := (hup.drewN m).setCell 1 (.int .i64 ((i : Int) + 1))
      refine ⟨⟨_, cn, cc, i + 1, s', (hB2.drewN m).set 1 _, hic, hcn, hs3, fun h0 => ?_⟩, hu⟩
      obtain ⟨b2, off2, eb, hbb2, hc⟩ := hib h0
      exact ⟨b2, off2, eb, hbb2, fun k hk => by
        obtain ⟨x, hx, hcx⟩ := hc k hk
        exact ⟨x, hx, (hu.cell (p := ⟨b2, off2 + k, none⟩) (by show b2 < _; have := hB.lt; omega) (by show b2 ≠ g; omega)).trans hcx⟩⟩
    have hb3 : ∀ m, BK (((w.setCell ⟨g, 2, none⟩ (.int .i64 (s' : Int))).drewN m).setCell ⟨g, 1, none⟩ (.int .i64 ((i : Int) + 1))) g 68 #[.slice (some ⟨b, off, none⟩) cn cc, .int .i64 ((i : Int) + 1), .int .i64 (s' : Int)] := fun m => (hB2.drewN m).set 1 _
    have k0 := fun m => (tri (hb3 m)).1
    have k1 := fun m => (tri (hb3 m)).2.1
    have k2 : ∀ m, (((w.setCell ⟨g, 2, none⟩ (.int .i64 (s' : Int))).drewN m).setCell ⟨g, 1, none⟩ (.int .i64 ((i : Int) + 1))).cell? ⟨b, off + i, none⟩ = some (.int .u8 (x : Int)) := fun m => ((hfin m).2.cell (p := ⟨b, off + i, none⟩) (by show b < _; have := hB.lt; omega) (by show b ≠ g; omega)).trans hcx
    have HFIN := Lib.hid hfin
    clear hfin hb3 hib hB hup c0 c1 f0 f1 hcx hB2
    by_cases h256 : n ≤ 256
    · by_cases hpar : ((i : Int) + 1) % 2 = 0
      · have hpar : (((i : Int) + 1) % 2 == 0) = true := by rw [beq_iff_eq]; exact hpar
        go_enter Tryd.func36, Tryd.ntmps36
        go_wp2_with (first | (go_quiet (fail)) | go_in)
        go_ret
        exact ⟨_, rfl, inN_mod (by omega) (by omega), (HFIN.out _).1, (HFIN.out _).2.drewN _⟩
      · have hpar : (((i : Int) + 1) % 2 == 0) = false := by rw [beq_eq_false_iff_ne]; exact hpar
        go_enter Tryd.func36, Tryd.ntmps36
        go_wp2_with (first | (go_quiet (fail)) | go_in)
        go_ret
        exact ⟨_, rfl, inN_mod (by omega) (by omega), (HFIN.out _).1, (HFIN.out _).2⟩
    · go_enter Tryd.func36, Tryd.ntmps36
      go_wp2_with (first | (go_quiet (fail)) | go_in)
      go_ret
      exact ⟨_, rfl, inN_mod (by omega) (by omega), (HFIN.out _).1, (HFIN.out _).2⟩
  · go_enter Tryd.func36, Tryd.ntmps36
    go_wp2_with (first | (go_quiet (fail)) | go_in)
    go_ret
    exact ⟨_, rfl, inN_mod (by omega) (by omega), ⟨A, cn, cc, i, s', hB2, hi, hcn, hs3, fun h0 => by
      obtain ⟨b, off, rfl, hbb, hc⟩ := hib h0
      exact ⟨b, off, rfl, hbb, fun k hk => by
        obtain ⟨x, hx, hcx⟩ := hc k hk
        exact ⟨x, hx, (hup.cell (p := ⟨b, off + k, none⟩) (by show b < _; have := hB.lt; omega) (by show b ≠ g; omega)).trans hcx⟩⟩⟩, hup.drewN _⟩
end Go.Proofs.YtjfinniebijgbaaDoor
/- Draws: one of some numbers; primes; values. -/
namespace Go.Proofs.YtjfinniebijgbaaDoor
set_option linter.unusedVariables false
set_option linter.unusedSimpArgs false
open Go.RowKit

theorem inN_lt {n k : Nat} (h : inN (n : Int) (k : Int)) (h1 : 1 ≤ n) : k < n := by
  obtain ⟨r0, r1, r2⟩ := h
  by_cases h : n = 1
  · have := r2 (by omega); omega
  · have := r1 (by omega); omega
set_option maxHeartbeats 1000000 in
theorem s_l01Pick (g b n c : Nat) (l : List Int) (w : World) (hs : SRC w g) (hbg : b ≠ g) (hb : b < w.heap.size) (hn : n = l.length) (h1 : 1 ≤ n) (hc : ∀ k, k < n → w.cell? ⟨b, k, none⟩ = some (.int .i64 (gt l k))) :
    Calls Tryd.prog 52 #[.pointer (some ⟨g, 0, none⟩), .slice (some ⟨b, 0, none⟩) n c] w (NX g (fun r => r ∈ l) w) := by
  have HN := Lib.hid hn
  have HC := Lib.hid hc
  clear hn hc
  have hnx := fun W h => s_l01Next g (n : Int) W h
  go_enter Tryd.func52, Tryd.ntmps52
  go_wp2_with (go_at_call 36; refine (hnx _ hs).mono ?_; rintro e w1 ⟨r, rfl, ⟨r0, r1, r2⟩, hs1, hu1⟩; obtain ⟨k, rfl⟩ := Int.eq_ofNat_of_zero_le r0; have hk : k < n := inN_lt ⟨r0, r1, r2⟩ h1; have e1 := (hu1.cell (p := ⟨b, k, none⟩) hb hbg).trans (HC.out k hk))
  go_ret
  exact ⟨_, rfl, gt_mem (by rw [← HN.out]; exact hk), hs1, hu1⟩
/-- The cells of a literal. -/
theorem lit_cells (w : World) (l : List Int) (t : TypeId) : ∀ k, k < l.length → (w.alloc (.cells ((l.map fun x => Value.int .i64 x).toArray) t)).cell? ⟨w.heap.size, k, none⟩ = some (.int .i64 (gt l k)) := fun k hk => by
  have h := (BK.new w t (l.map fun x => Value.int .i64 x).toArray).cell k
  rw [h]
  simp [gt, hk]
theorem s_pickLit (g n c : Nat) (l : List Int) (cs : Array Value) (w : World) (t : TypeId) (hs : SRC w g) (hcs : cs = (l.map fun x => Value.int .i64 x).toArray) (hn : n = l.length) (h1 : 1 ≤ n) :
    Calls Tryd.prog 52 #[.pointer (some ⟨g, 0, none⟩), .slice (some ⟨w.heap.size, 0, none⟩) n c] (w.alloc (.cells cs t)) (fun e w' => ∃ r : Int, e = .returned (.int .i64 r) ∧ r ∈ l ∧ SRC w' g ∧ Up g w.heap.size w w') := by
  subst hcs
  have hb := (Below.refl w.heap.size w).alloc (Nat.le_refl _) (.cells ((l.map fun x => Value.int .i64 x).toArray) t)
  refine (s_l01Pick g w.heap.size n c l _ (hs.call hb) (by have := hs.lt; omega) (by simp) hn h1 (fun k hk => lit_cells w l t k (by omega))).mono ?_
  rintro e w' ⟨r, h1, h2, h3, h4⟩
  exact ⟨r, h1, h2, h3, (Up.of hb).call h4⟩
theorem s_pick2 (g : Nat) (a0 a1 : Int) (w : World) (hs : SRC w g) : Calls Tryd.prog 52 #[.pointer (some ⟨g, 0, none⟩), .slice (some ⟨w.heap.size, 0, none⟩) 2 2] (w.alloc (.cells #[.int .i64 a0, .int .i64 a1] 2)) (fun e w' => ∃ r : Int, e = .returned (.int .i64 r) ∧ r ∈ [a0, a1] ∧ SRC w' g ∧ Up g w.heap.size w w') :=
  s_pickLit g 2 2 [a0, a1] _ w 2 hs rfl rfl (by omega)
theorem s_pick3 (g : Nat) (a0 a1 a2 : Int) (w : World) (hs : SRC w g) : Calls Tryd.prog 52 #[.pointer (some ⟨g, 0, none⟩), .slice (some ⟨w.heap.size, 0, none⟩) 3 3] (w.alloc (.cells #[.int .i64 a0, .int .i64 a1, .int .i64 a2] 2)) (fun e w' => ∃ r : Int, e = .returned (.int .i64 r) ∧ r ∈ [a0, a1, a2] ∧ SRC w' g ∧ Up g w.heap.size w w') :=
  s_pickLit g 3 3 [a0, a1, a2] _ w 2 hs rfl rfl (by omega)
theorem s_pick4 (g : Nat) (a0 a1 a2 a3 : Int) (w : World) (hs : SRC w g) : Calls Tryd.prog 52 #[.pointer (some ⟨g, 0, none⟩), .slice (some ⟨w.heap.size, 0, none⟩) 4 4] (w.alloc (.cells #[.int .i64 a0, .int .i64 a1, .int .i64 a2, .int .i64 a3] 2)) (fun e w' => ∃ r : Int, e = .returned (.int .i64 r) ∧ r ∈ [a0, a1, a2, a3] ∧ SRC w' g ∧ Up g w.heap.size w w') :=
  s_pickLit g 4 4 [a0, a1, a2, a3] _ w 2 hs rfl rfl (by omega)
theorem s_pick5 (g : Nat) (a0 a1 a2 a3 a4 : Int) (w : World) (hs : SRC w g) : Calls Tryd.prog 52 #[.pointer (some ⟨g, 0, none⟩), .slice (some ⟨w.heap.size, 0, none⟩) 5 5] (w.alloc (.cells #[.int .i64 a0, .int .i64 a1, .int .i64 a2, .int .i64 a3, .int .i64 a4] 2)) (fun e w' => ∃ r : Int, e = .returned (.int .i64 r) ∧ r ∈ [a0, a1, a2, a3, a4] ∧ SRC w' g ∧ Up g w.heap.size w w') :=
  s_pickLit g 5 5 [a0, a1, a2, a3, a4] _ w 2 hs rfl rfl (by omega)
theorem s_pick6 (g : Nat) (a0 a1 a2 a3 a4 a5 : Int) (w : World) (hs : SRC w g) : Calls Tryd.prog 52 #[.pointer (some ⟨g, 0, none⟩), .slice (some ⟨w.heap.size, 0, none⟩) 6 6] (w.alloc (.cells #[.int .i64 a0, .int .i64 a1, .int .i64 a2, .int .i64 a3, .int .i64 a4, .int .i64 a5] 2)) (fun e w' => ∃ r : Int, e = .returned (.int .i64 r) ∧ r ∈ [a0, a1, a2, a3, a4, a5] ∧ SRC w' g ∧ Up g w.heap.size w w') :=
  s_pickLit g 6 6 [a0, a1, a2, a3, a4, a5] _ w 2 hs rfl rfl (by omega)
theorem s_pick7 (g : Nat) (a0 a1 a2 a3 a4 a5 a6 : Int) (w : World) (hs : SRC w g) : Calls Tryd.prog 52 #[.pointer (some ⟨g, 0, none⟩), .slice (some ⟨w.heap.size, 0, none⟩) 7 7] (w.alloc (.cells #[.int .i64 a0, .int .i64 a1, .int .i64 a2, .int .i64 a3, .int .i64 a4, .int .i64 a5, .int .i64 a6] 2)) (fun e w' => ∃ r : Int, e = .returned (.int .i64 r) ∧ r ∈ [a0, a1, a2, a3, a4, a5, a6] ∧ SRC w' g ∧ Up g w.heap.size w w') :=
  s_pickLit g 7 7 [a0, a1, a2, a3, a4, a5, a6] _ w 2 hs rfl rfl (by omega)
theorem s_pick8 (g : Nat) (a0 a1 a2 a3 a4 a5 a6 a7 : Int) (w : World) (hs : SRC w g) : Calls Tryd.prog 52 #[.pointer (some ⟨g, 0, none⟩), .slice (some ⟨w.heap.size, 0, none⟩) 8 8] (w.alloc (.cells #[.int .i64 a0, .int .i64 a1, .int .i64 a2, .int .i64 a3, .int .i64 a4, .int .i64 a5, .int .i64 a6, .int .i64 a7] 2)) (fun e w' => ∃ r : Int, e = .returned (.int .i64 r) ∧ r ∈ [a0, a1, a2, a3, a4, a5, a6, a7] ∧ SRC w' g ∧ Up g w.heap.size w w') :=
  s_pickLit g 8 8 [a0, a1, a2, a3, a4, a5, a6, a7] _ w 2 hs rfl rfl (by omega)
theorem s_pick9 (g : Nat) (a0 a1 a2 a3 a4 a5 a6 a7 a8 : Int) (w : World) (hs : SRC w g) : Calls Tryd.prog 52 #[.pointer (some ⟨g, 0, none⟩), .slice (some ⟨w.heap.size, 0, none⟩) 9 9] (w.alloc (.cells #[.int .i64 a0, .int .i64 a1, .int .i64 a2, .int .i64 a3, .int .i64 a4, .int .i64 a5, .int .i64 a6, .int .i64 a7, .int .i64 a8] 2)) (fun e w' => ∃ r : Int, e = .returned (.int .i64 r) ∧ r ∈ [a0, a1, a2, a3, a4, a5, a6, a7, a8] ∧ SRC w' g ∧ Up g w.heap.size w w') :=
  s_pickLit g 9 9 [a0, a1, a2, a3, a4, a5, a6, a7, a8] _ w 2 hs rfl rfl (by omega)
theorem s_pick10 (g : Nat) (a0 a1 a2 a3 a4 a5 a6 a7 a8 a9 : Int) (w : World) (hs : SRC w g) : Calls Tryd.prog 52 #[.pointer (some ⟨g, 0, none⟩), .slice (some ⟨w.heap.size, 0, none⟩) 10 10] (w.alloc (.cells #[.int .i64 a0, .int .i64 a1, .int .i64 a2, .int .i64 a3, .int .i64 a4, .int .i64 a5, .int .i64 a6, .int .i64 a7, .int .i64 a8, .int .i64 a9] 2)) (fun e w' => ∃ r : Int, e = .returned (.int .i64 r) ∧ r ∈ [a0, a1, a2, a3, a4, a5, a6, a7, a8, a9] ∧ SRC w' g ∧ Up g w.heap.size w w') :=
  s_pickLit g 10 10 [a0, a1, a2, a3, a4, a5, a6, a7, a8, a9] _ w 2 hs rfl rfl (by omega)
theorem s_pick11 (g : Nat) (a0 a1 a2 a3 a4 a5 a6 a7 a8 a9 a10 : Int) (w : World) (hs : SRC w g) : Calls Tryd.prog 52 #[.pointer (some ⟨g, 0, none⟩), .slice (some ⟨w.heap.size, 0, none⟩) 11 11] (w.alloc (.cells #[.int .i64 a0, .int .i64 a1, .int .i64 a2, .int .i64 a3, .int .i64 a4, .int .i64 a5, .int .i64 a6, .int .i64 a7, .int .i64 a8, .int .i64 a9, .int .i64 a10] 2)) (fun e w' => ∃ r : Int, e = .returned (.int .i64 r) ∧ r ∈ [a0, a1, a2, a3, a4, a5, a6, a7, a8, a9, a10] ∧ SRC w' g ∧ Up g w.heap.size w w') :=
  s_pickLit g 11 11 [a0, a1, a2, a3, a4, a5, a6, a7, a8, a9, a10] _ w 2 hs rfl rfl (by omega)
end Go.Proofs.YtjfinniebijgbaaDoor
/- Draws: the next number as a natural one; rows behind a draw. -/
namespace Go.Proofs.YtjfinniebijgbaaDoor
set_option linter.unusedVariables false
set_option linter.unusedSimpArgs false
open Go.RowKit

theorem up_own {w w' : World} {g B base n : Nat} {e : TypeId} {size : Nat} {v : Value} {xs : List Value} (h : w.ownsRow base e size v n xs) (hu : Up g w.heap.size w w') (hg : g < base) : w'.ownsRow base e size v n xs :=
  h.kept (Up.grown hu) (by
    cases hb : v.ownBlock with
    | none => exact .inl rfl
    | some x => exact .inr fun e => by have := (h.lt x hb).1; injection e with e; omega)
theorem s_nextI (g : Nat) (n : Int) (h1 : 1 ≤ n) (w : World) (hs : SRC w g) : Calls Tryd.prog 36 #[.pointer (some ⟨g, 0, none⟩), .int .i64 n] w (fun e w' => ∃ k : Nat, e = .returned (.int .i64 (k : Int)) ∧ (k : Int) < n ∧ SRC w' g ∧ Up g w.heap.size w w') :=
  (s_l01Next g n w hs).mono fun e w' ⟨r, he, ⟨r0, r1, r2⟩, h3, h4⟩ => by
    obtain ⟨k, rfl⟩ := Int.eq_ofNat_of_zero_le r0
    refine ⟨k, he, ?_, h3, h4⟩
    by_cases h : n = 1
    · have := r2 (by omega); omega
    · exact r1 (by omega)
theorem l_bigNo (A : Option Addr) (n c : Nat) (w : World) (h : n ≤ 4096) : Calls Tryd.prog 17 #[.slice A n c] w (Q (.bool false) w) := by
  have h1 : ¬ (4096 : Int) < (n : Int) := by omega
  go_enter Tryd.func17, Tryd.ntmps17
  go_wp2_with (fail)
  go_ret
  exact ⟨by simp, 0, rfl⟩
theorem l_bigYes (A : Option Addr) (n c : Nat) (w : World) (h : 4096 < n) : Calls Tryd.prog 17 #[.slice A n c] w (Q (.bool true) w) := by
  have h1 : (4096 : Int) < (n : Int) := by omega
  go_enter Tryd.func17, Tryd.ntmps17
  go_wp2_with (fail)
  go_ret
  exact ⟨by simp, 0, rfl⟩
end Go.Proofs.YtjfinniebijgbaaDoor
