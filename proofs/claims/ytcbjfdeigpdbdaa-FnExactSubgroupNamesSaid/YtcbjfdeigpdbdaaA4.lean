/- Contracts: slices of int64 that are copied, compared, summed. -/
import Derived.Test.YtcbjfdeigpdbdaaA2
import Derived.Deep.OwnRows
namespace Go.Proofs.Ytcbjfdeigpdbdaa
set_option linter.unusedVariables false
set_option linter.unusedSimpArgs false
open Go.RowKit Go.Deep

/-- Block g is just the cells cs of type t, none frozen. -/
def BK (w : World) (g : Nat) (t : TypeId) (cs : Array Value) : Prop := w.heap[g]? = some (.cells cs t (0, 0))
section
variable {w w' : World} {g : Nat} {t : TypeId} {cs : Array Value}
theorem BK.lt (h : BK w g t cs) : g < w.heap.size := by
  rcases Nat.lt_or_ge g w.heap.size with hlt | hge
  · exact hlt
  · unfold BK at h; rw [Array.getElem?_eq_none hge] at h; cases h
theorem BK.cell (h : BK w g t cs) (i : Nat) : w.cell? ⟨g, i, none⟩ = cs[i]? := by
  unfold BK at h; simp [World.cell?, h]
theorem BK.frozen (h : BK w g t cs) (i : Nat) : w.frozen? ⟨g, i, none⟩ = false := by
  unfold BK at h; simp [World.frozen?, h]
theorem BK.new (w : World) (t : TypeId) (cs : Array Value) : BK (w.alloc (.cells cs t)) w.heap.size t cs := heap_alloc_new w _
theorem BK.drewN (h : BK w g t cs) (n : Nat) : BK (w.drewN n) g t cs := h
theorem BK.alloc (h : BK w g t cs) (o : Obj) : BK (w.alloc o) g t cs := (Below.heap_alloc w o g h.lt).trans h
theorem BK.set (h : BK w g t cs) (i : Nat) (u : Value) : BK (w.setCell ⟨g, i, none⟩ u) g t (cs.setIfInBounds i u) := by
  unfold BK at h ⊢; simp [World.setCell, Array.getElem?_modify, h]
theorem BK.far (h : BK w g t cs) {p : Addr} (hp : g ≠ p.block) (u : Value) : BK (w.setCell p u) g t cs := (Below.heap_setCell w p u g hp).trans h
theorem BK.below {B : Nat} (h : BK w g t cs) (hb : Below B w w') (hg : g < B) : BK w' g t cs := (hb.block g hg).trans h
end
section
variable {w w' : World} {B : Nat} {A : Option Addr} {xs : List Int}
theorem IS.below (h : IS w B A xs) (hb : Below B w w') : IS w' B A xs := fun hp => by
  obtain ⟨b, off, h1, h2, h3⟩ := h hp
  exact ⟨b, off, h1, h2, fun k hk => (hb.cell (p := ⟨b, off + k, none⟩) h2).trans (h3 k hk)⟩
theorem IS.more {B' : Nat} (h : IS w B A xs) (hB : B ≤ B') : IS w B' A xs := fun hp => by
  obtain ⟨b, off, h1, h2, h3⟩ := h hp
  exact ⟨b, off, h1, by omega, h3⟩
theorem IS.at (h : IS w B A xs) {k : Nat} (hk : k < xs.length) : ∃ b off, A = some ⟨b, off, none⟩ ∧ b < B ∧ ∀ j, j < xs.length → w.cell? ⟨b, off + j, none⟩ = some (.int .i64 (gt xs j)) := h (by omega)
end
theorem gt_mem {xs : List Int} {k : Nat} (h : k < xs.length) : gt xs k ∈ xs := by
  unfold gt; rw [List.getD_eq_getElem?_getD, List.getElem?_eq_getElem h]; exact List.getElem_mem h
theorem R64.gt {xs : List Int} (h : R64 xs) {k : Nat} (hk : k < xs.length) : -9223372036854775808 ≤ gt xs k ∧ gt xs k ≤ 9223372036854775807 := h _ (gt_mem hk)
theorem gt_ext {xs ys : List Int} (h : xs.length = ys.length) (h' : ∀ k, k < xs.length → Go.Proofs.Ytcbjfdeigpdbdaa.gt xs k = Go.Proofs.Ytcbjfdeigpdbdaa.gt ys k) : xs = ys := by
  apply List.ext_getElem h
  intro i h1 h2
  have := h' i h1
  simpa [Go.Proofs.Ytcbjfdeigpdbdaa.gt, List.getElem?_eq_getElem h1, List.getElem?_eq_getElem h2] using this
/-- A slice of int64 made by the call: block g from B on, all of it. -/
def NS (w : World) (B : Nat) (g : Nat) (xs : List Int) : Prop := B ≤ g ∧ ∃ cs : Array Value, BK w g 2 cs ∧ cs.size = xs.length ∧ ∀ k, k < xs.length → cs[k]? = some (.int .i64 (gt xs k))
theorem NS.is {w : World} {B g : Nat} {xs : List Int} (h : NS w B g xs) : IS w w.heap.size (some ⟨g, 0, none⟩) xs := fun _ => by
  obtain ⟨_, cs, h1, h2, h3⟩ := h
  exact ⟨g, 0, rfl, h1.lt, fun k hk => by rw [Nat.zero_add, h1.cell]; exact h3 k hk⟩
theorem NS.below {w w' : World} {B B' g : Nat} {xs : List Int} (h : NS w B g xs) (hb : Below B' w w') (hg : g < B') : NS w' B g xs := by
  obtain ⟨h0, cs, h1, h2, h3⟩ := h
  exact ⟨h0, cs, h1.below hb hg, h2, h3⟩
theorem NS.lt {w : World} {B g : Nat} {xs : List Int} (h : NS w B g xs) : g < w.heap.size := by
  obtain ⟨h0, cs, h1, h2, h3⟩ := h
  exact h1.lt
theorem infoI64 : (Try.prog.info? 2).map (fun i => (i.zero, i.size, i.bytes)) = some (some (.int .i64 0), 1, 8) := by kernel_rfl
set_option maxHeartbeats 1000000 in
theorem l_toInt64S (A : Option Addr) (n c : Nat) (xs : List Int) (w : World) (hn : n = xs.length) (hl : n ≤ 1048576) (hs : IS w w.heap.size A xs) :
    Calls Try.prog 10 #[.slice A n c] w fun e w' => ∃ g, e = .returned (.slice (some ⟨g, 0, none⟩) n n) ∧ NS w' w.heap.size g xs ∧ Below w.heap.size w w' := by
  have hmk := fun W => run_make_row' (P := Try.prog) 22 2 (.int .i64 0) 8 Try.underlying22 infoI64 rfl .i64 .i64 n (by omega) (by omega) W
  have HN := Lib.hid hn
  clear hn
  go_enter Try.func10, Try.ntmps10
  go_wp2_with (fail)
  go_loopw [4] (fun u wr => ∃ k : Nat, k ≤ n ∧ u = .int .i64 k ∧ Below w.heap.size w wr ∧ ∃ cs : Array Value, BK wr w.heap.size 2 cs ∧ cs.size = n ∧ ∀ j, j < k → cs[j]? = some (.int .i64 (gt xs j))) (fun u _ => n - (intOf u).toNat)
  case atStart => exact ⟨0, Nat.zero_le _, rfl, (Below.refl _ _).alloc (Nat.le_refl _) _, _, BK.new _ _ _, by simp [madeCells], fun j hj => by omega⟩
  case round =>
    obtain ⟨k, hk, rfl, hb, cs, hB, hz, hj⟩ := hrel
    have HZ := Lib.hid hz
    have HJ := Lib.hid hj
    clear hz hj
    by_cases hlt : k < n
    · obtain ⟨b, off, rfl, hbb, hcell⟩ := IS.at hs (k := k) (by rw [← HN.out]; exact hlt)
      have hin := (hb.cell (p := ⟨b, off + k, none⟩) hbb).trans (hcell k (by rw [← HN.out]; exact hlt))
      have hf := hB.frozen k
      have hout := hB.cell k
      rw [Array.getElem?_eq_getElem (by rw [HZ.out]; exact hlt)] at hout
      have HC := Lib.hid hcell
      clear hcell
      generalize cs[k]'(by rw [HZ.out]; exact hlt) = ov at hout
      go_wp2_with (fail)
      go_roundw
      case rel =>
        refine ⟨k + 1, by omega, by go_num, hb.setCell (Nat.le_refl _) _, _, hB.set k _, by rw [Array.size_setIfInBounds]; exact HZ.out, fun j hj => ?_⟩
        rw [Array.getElem?_setIfInBounds]
        by_cases hx : k = j
        · subst hx
          rw [if_pos rfl, if_pos (by rw [HZ.out]; exact hlt)]
        · rw [if_neg hx]
          exact HJ.out j (by omega)
      case measure => simp [intOf]; omega
    · obtain rfl : k = n := by omega
      go_wp2_with (fail)
      go_ret
      exact ⟨_, rfl, ⟨Nat.le_refl _, cs, hB, by rw [HZ.out, HN.out], fun j hj => HJ.out j (by rw [HN.out]; exact hj)⟩, hb⟩

set_option maxHeartbeats 1000000 in
theorem l_eqInt64S (A A' : Option Addr) (n c n' c' : Nat) (xs : List Int) (w : World) (B B' : Nat) (hn : n = xs.length) (hn' : n' = xs.length) (hl : n ≤ 9223372036854775807) (hs : IS w B A xs) (hs' : IS w B' A' xs) :
    Calls Try.prog 12 #[.slice A n c, .slice A' n' c'] w (Q (.bool true) w) := by
  obtain rfl : n' = n := by omega
  have HN := Lib.hid hn
  clear hn hn'
  go_enter Try.func12, Try.ntmps12
  go_wp2_with (fail)
  go_loopw [5] (fun u wr => ∃ k : Nat, k ≤ n' ∧ u = .int .i64 k ∧ ∃ m, wr = w.drewN m) (fun u _ => n' - (intOf u).toNat)
  case atStart => exact ⟨0, Nat.zero_le _, rfl, 0, rfl⟩
  case round =>
    obtain ⟨k, hk, rfl, m, rfl⟩ := hrel
    by_cases hlt : k < n'
    · obtain ⟨b, off, rfl, hbb, hcell⟩ := IS.at hs (k := k) (by rw [← HN.out]; exact hlt)
      obtain ⟨b', off', rfl, hbb', hcell'⟩ := IS.at hs' (k := k) (by rw [← HN.out]; exact hlt)
      have h1 := hcell k (by rw [← HN.out]; exact hlt)
      have h2 := hcell' k (by rw [← HN.out]; exact hlt)
      clear hcell hcell'
      go_wp2_with (go_quiet (fail))
      go_roundw
      case rel => exact ⟨k + 1, by omega, by go_num, by first | exact dq1 | exact dq2⟩
      case measure => simp [intOf]; omega
    · obtain rfl : k = n' := by omega
      go_wp2_with (fail)
      go_ret
      exact ⟨rfl, dq1⟩
end Go.Proofs.Ytcbjfdeigpdbdaa
