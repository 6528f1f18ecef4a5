/- Contracts: trim, sums and products of polynomials, copies. -/
import Derived.Test.YtcbjfdeigpdbdaaA120
import Derived.Test.YtcbjfdeigpdbdaaA22
import Derived.Test.YtcbjfdeigpdbdaaA16
namespace Go.Proofs.Ytcbjfdeigpdbdaa
set_option linter.unusedVariables false
set_option linter.unusedSimpArgs false
open Go.RowKit

theorem NS.cell {w : World} {B g : Nat} {xs : List Int} (h : NS w B g xs) {j : Nat} (hj : j < xs.length) : w.cell? ⟨g, j, none⟩ = some (.int .i64 (gt xs j)) := by
  obtain ⟨_, cs, h1, _, h3⟩ := h
  exact (h1.cell j).trans (h3 j hj)
theorem NS.fz {w : World} {B g : Nat} {xs : List Int} (h : NS w B g xs) (j : Nat) : w.frozen? ⟨g, j, none⟩ = false := by
  obtain ⟨_, cs, h1, _, _⟩ := h
  exact h1.frozen j
theorem NS.set {w : World} {B g r : Nat} {xs : List Int} (h : NS w B g xs) (v : Int) (hr : r < xs.length) : NS (w.setCell ⟨g, r, none⟩ (.int .i64 v)) B g (xs.set r v) := by
  obtain ⟨h0, cs, h1, h2, h3⟩ := h
  refine ⟨h0, _, h1.set r (.int .i64 v), by simp [h2], fun j hj => ?_⟩
  simp at hj
  rw [Array.getElem?_setIfInBounds, gt_setI j hr]
  by_cases hx : r = j
  · subst hx
    rw [if_pos rfl, if_pos (by omega), if_pos rfl]
  · rw [if_neg hx, if_neg hx]
    exact h3 j hj
theorem NS.zero (w : World) (n B : Nat) (hB : B ≤ w.heap.size) : NS (w.alloc (.cells (madeCells (.int .i64 0 : Value).cells n) 2)) B w.heap.size (List.replicate n 0) := by
  refine ⟨hB, _, BK.new _ _ _, by simp [madeCells, Value.cells], fun j hj => ?_⟩
  rw [gt_rep]
  simp at hj
  simp [madeCells, Value.cells, hj, Nat.mod_one]
theorem nat_bd {x : Int} {m : Nat} (h : x.natAbs ≤ m) : -(m : Int) ≤ x ∧ x ≤ (m : Int) := by omega
/-- A slice of a call's own, behind a call. -/
theorem RV.pre {w w1 : World} {l : List Int} {e : Ending} {w' : World} (h : RV l w1 e w') (hb : Below w.heap.size w w1) : RV l w e w' := by
  obtain ⟨A, cap, h1, h2, h3⟩ := h
  exact ⟨A, cap, h1, own_mono h2 hb.size, bel_call hb h3⟩
set_option maxRecDepth 10000 in
set_option maxHeartbeats 1000000 in
theorem i_clone (ad : Addr) (n c : Nat) (l : List Int) (w : World) (hn : n = l.length) (hl : n ≤ 1048576) (hsrc : ∀ j u, (ints l)[j]? = some u → w.cell? (ad.add j) = some u) (hlt : ∀ j, (ad.add j).block < w.heap.size) :
    Calls Try.prog 145 #[.slice (some ad) n c] w (RV l w) := by
  have HN := Lib.hid hn
  clear hn
  obtain ⟨i0, hi, hz0, hz1, hz2⟩ := info_parts infoI64
  have ho := World.ownsRow_lit (base := w.heap.size) (e := 2) (size := 1) w #[] 0 (Nat.le_refl _) (by simp [maxLen]) rfl
  have hb := (Below.refl w.heap.size w).alloc (Nat.le_refl _) (.cells #[] 2)
  have hs2 : ∀ j u, (ints l)[j]? = some u → (w.alloc (.cells #[] 2)).cell? (ad.add j) = some u := fun j u hj => (hb.cell (hlt j)).trans (hsrc j u hj)
  clear hsrc
  have q22 : ∀ (W : World) (a : Option Addr) (n c n' c' : Nat), (binOp .eql 22 (.slice a n c) (.slice none n' c')).run Try.prog W = .ok (.bool a.isNone) W := fun W a n c n' c' => Lib.run_eql_slice_nil W _ _ a n c n' c' Try.underlying22
  go_enter Try.func145, Try.ntmps145
  go_wp2_with (at_builtin; refine wpList_append_src rfl (.tmp 5) (.tmp 6) 22 rfl w.heap.size 2 i0 (.int .i64 0) 1 8 Try.underlying22 hi hz0 hz1 hz2 rfl (by omega) (.slice (some ⟨w.heap.size, 0, none⟩) 0 0) 0 [] rfl ho (some ad) n c (ints l) rfl (by rw [ints_length, Nat.mul_one]; exact HN.out.symm) (fun ad' h j u hj => by injection h with h; subst h; exact hs2 j u hj) (by intro h; cases h) (ints_one _) (by simp only [maxLen]; omega) (by omega) (by simp) ?_; intro v1 w1 hown1 hg1 hat1)
  go_ret
  rw [Nat.zero_add, List.nil_append] at hown1
  obtain ⟨A1, c1, rfl, _⟩ := own_slice' hown1
  rw [HN.out] at hown1 ⊢
  exact ⟨A1, c1, rfl, hown1, hb.grown hg1 (by simp) (fun g hg => by simp [Value.ownBlock] at hg; omega)⟩
set_option maxRecDepth 10000 in
set_option maxHeartbeats 1000000 in
theorem s_own1 (ad : Addr) (n c : Nat) (l : List Int) (w : World) (hn : n = l.length) (hl : n ≤ 1048576) (hsrc : ∀ j u, (ints l)[j]? = some u → w.cell? (ad.add j) = some u) (hlt : ∀ j, (ad.add j).block < w.heap.size) :
    Calls Try.prog 41 #[.slice (some ad) n c] w (RV l w) := by
  have HN := Lib.hid hn
  clear hn
  obtain ⟨i0, hi, hz0, hz1, hz2⟩ := info_parts infoI64
  have ho := World.ownsRow_lit (base := w.heap.size) (e := 2) (size := 1) w #[] 0 (Nat.le_refl _) (by simp [maxLen]) rfl
  have hb := (Below.refl w.heap.size w).alloc (Nat.le_refl _) (.cells #[] 2)
  have hs2 : ∀ j u, (ints l)[j]? = some u → (w.alloc (.cells #[] 2)).cell? (ad.add j) = some u := fun j u hj => (hb.cell (hlt j)).trans (hsrc j u hj)
  clear hsrc
  have q22 : ∀ (W : World) (a : Option Addr) (n c n' c' : Nat), (binOp .eql 22 (.slice a n c) (.slice none n' c')).run Try.prog W = .ok (.bool a.isNone) W := fun W a n c n' c' => Lib.run_eql_slice_nil W _ _ a n c n' c' Try.underlying22
  go_enter Try.func41, Try.ntmps41
  go_wp2_with (at_builtin; refine wpList_append_src rfl (.tmp 3) (.tmp 4) 22 rfl w.heap.size 2 i0 (.int .i64 0) 1 8 Try.underlying22 hi hz0 hz1 hz2 rfl (by omega) (.slice (some ⟨w.heap.size, 0, none⟩) 0 0) 0 [] rfl ho (some ad) n c (ints l) rfl (by rw [ints_length, Nat.mul_one]; exact HN.out.symm) (fun ad' h j u hj => by injection h with h; subst h; exact hs2 j u hj) (by intro h; cases h) (ints_one _) (by simp only [maxLen]; omega) (by omega) (by simp) ?_; intro v1 w1 hown1 hg1 hat1)
  go_ret
  rw [Nat.zero_add, List.nil_append] at hown1
  obtain ⟨A1, c1, rfl, _⟩ := own_slice' hown1
  rw [HN.out] at hown1 ⊢
  exact ⟨A1, c1, rfl, hown1, hb.grown hg1 (by simp) (fun g hg => by simp [Value.ownBlock] at hg; omega)⟩
/-- The cells of a block, from its first on, hold f. -/
def CS (w : World) (g : Nat) (f : List Int) : Prop := g < w.heap.size ∧ ∀ j, j < f.length → w.cell? ⟨g, j, none⟩ = some (.int .i64 (gt f j))
theorem NS.cs {w : World} {B g : Nat} {f : List Int} (h : NS w B g f) : CS w g f := ⟨h.lt, fun _ hj => h.cell hj⟩
theorem CS.drewN {w : World} {g : Nat} {f : List Int} (h : CS w g f) (n : Nat) : CS (w.drewN n) g f := h
theorem own_cs {w : World} {base g n c : Nat} {f : List Int} (h : w.ownsRow base 2 1 (.slice (some ⟨g, 0, none⟩) n c) n (ints f)) (hn : n = f.length) (h0 : 0 < n) : CS w g f := by
  obtain ⟨g', h1, _, h2, h3⟩ := own_src h h0
  injection h1 with h1
  injection h1 with h1
  subst h1
  exact ⟨h2, fun j hj => h3 j _ (ints_at hj)⟩
theorem CS.src {w : World} {g : Nat} {f : List Int} (h : CS w g f) (t : Nat) : ∀ j u, (ints (f.take t))[j]? = some u → w.cell? ((⟨g, 0, none⟩ : Addr).add j) = some u := by
  intro j u hu
  have hj : j < (f.take t).length := by
    rcases Nat.lt_or_ge j (f.take t).length with h | h
    · exact h
    · rw [List.getElem?_eq_none (by rw [ints_length]; exact h)] at hu; cases hu
  rw [ints_at hj] at hu
  have hjt : j < f.length := by simp at hj; omega
  have h2 := h.2 j hjt
  rw [gt_take, if_pos (by simp at hj; omega)] at hu
  rw [← hu]
  by_cases h0 : j = 0
  · subst h0; simpa [Addr.add] using h2
  · simpa [Addr.add, h0] using h2
theorem RV.und {w : World} {n : Nat} {l : List Int} {e : Ending} {w' : World} (h : RV l (w.drewN n) e w') : RV l w e w' := by
  obtain ⟨A, cap, h1, h2, h3⟩ := h
  exact ⟨A, cap, h1, h2, Go.Proofs.Ytcbjfdeigpdbdaa.undrew h3⟩
set_option maxRecDepth 10000 in
set_option maxHeartbeats 1000000 in
theorem i_trim (g n c : Nat) (f : List Int) (w : World) (hn : n = f.length) (hl : n ≤ 1000) (hcap : n ≤ c) (hs : CS w g f) :
    Calls Try.prog 95 #[.slice (some ⟨g, 0, none⟩) n c] w (RV (trimL f) w) := by
  have hlt : ∀ m j, ((⟨g, 0, none⟩ : Addr).add j).block < (w.drewN m).heap.size := fun m j => by
    have h := hs.1
    rw [show ((⟨g, 0, none⟩ : Addr).add j).block = g by unfold Addr.add; split <;> rfl]
    exact h
  have hT : trimL f = f.take (trimN f f.length) := rfl
  have hle := trimN_le f f.length
  have hTL := trimL_len f
  have HN := Lib.hid hn
  rw [← hn] at hT hle hTL
  clear hn
  generalize htt : trimN f n = t at *
  have hsrc := fun m => (hs.drewN m).src t
  rw [← hT] at hsrc
  have HTT := Lib.hid htt
  have HTL := Lib.hid hTL.symm
  clear htt hT hTL
  generalize trimL f = tf at *
  go_enter Try.func95, Try.ntmps95
  go_wp2_with (fail)
  go_loopw [3] (fun u3 wr => ∃ k : Nat, k ≤ n ∧ u3 = .int .i64 k ∧ Hid (trimN f k = t) ∧ ∃ m, wr = w.drewN m) (fun u3 _ => (intOf u3).toNat)
  case atStart => exact ⟨n, Nat.le_refl _, rfl, HTT.out, 0, rfl⟩
  case round =>
    obtain ⟨k, hk, rfl, HI, m, rfl⟩ := hrel
    by_cases h0 : 0 < k
    · have hc := (hs.drewN m).2 (k - 1) (by rw [← HN.out]; omega)
      have hs1 : IntKind.i64.wrap ((k : Int) - 1) = (k : Int) - 1 := IntWalk.i64_in _ (by omega)
      have hs2 : ((k : Int) - 1).toNat = k - 1 := by omega
      have hs3 : 1 ≤ (k : Int) := by omega
      have hs4 : 0 ≤ (k : Int) - 1 := by omega
      have hs5 : (k : Int) - 1 < (n : Int) := by omega
      have hT : Hid (trimN f k = if gt f (k - 1) = 0 then trimN f (k - 1) else k) := by
        obtain ⟨q, rfl⟩ : ∃ q, k = q + 1 := ⟨k - 1, by omega⟩
        exact rfl
      by_cases hz : gt f (k - 1) = 0
      · have hI : trimN f (k - 1) = t := by have h := HI.out; rw [hT.out, if_pos hz] at h; exact h
        have HI2 := Lib.hid hI
        rw [hz] at hc
        clear hI hz HI hT hsrc
        go_wp2_with (go_quiet (fail))
        go_roundw
        case rel => exact ⟨k - 1, by omega, by go_num, HI2.out, by first | exact dq1 | exact dq2⟩
        case measure => simp [intOf]; omega
      · have hI : k = t := by have h := HI.out; rw [hT.out, if_neg hz] at h; exact h
        subst hI
        have hzb : (gt f (k - 1) == 0) = false := by rw [beq_eq_false_iff_ne]; exact hz
        clear hz HI hT
        generalize gt f (k - 1) = x at *
        go_wp2_with (first | (go_at_call 145; refine (i_clone _ _ _ tf _ HTL.out (by omega) (hsrc _) (hlt _)).mono ?_; rintro e w2 ⟨A2, c2, rfl, ho2, hb2⟩) | go_quiet (fail))
        go_ret
        exact RV.und ⟨A2, c2, rfl, ho2, hb2⟩
    · obtain rfl : k = 0 := by omega
      have hI : 0 = t := HI.out
      subst hI
      clear HI
      go_wp2_with (first | (go_at_call 145; refine (i_clone _ _ _ tf _ HTL.out (by omega) (hsrc _) (hlt _)).mono ?_; rintro e w2 ⟨A2, c2, rfl, ho2, hb2⟩) | go_quiet (fail))
      go_ret
      exact RV.und ⟨A2, c2, rfl, ho2, hb2⟩
set_option maxRecDepth 10000 in
set_option maxHeartbeats 1000000 in
theorem s_trim (g n c : Nat) (f : List Int) (w : World) (hn : n = f.length) (hl : n ≤ 1000) (hcap : n ≤ c) (hs : CS w g f) :
    Calls Try.prog 91 #[.slice (some ⟨g, 0, none⟩) n c] w (RV (trimL f) w) := by
  have hlt : ∀ m j, ((⟨g, 0, none⟩ : Addr).add j).block < (w.drewN m).heap.size := fun m j => by
    have h := hs.1
    rw [show ((⟨g, 0, none⟩ : Addr).add j).block = g by unfold Addr.add; split <;> rfl]
    exact h
  have hT : trimL f = f.take (trimN f f.length) := rfl
  have hle := trimN_le f f.length
  have hTL := trimL_len f
  have HN := Lib.hid hn
  rw [← hn] at hT hle hTL
  clear hn
  generalize htt : trimN f n = t at *
  have hsrc := fun m => (hs.drewN m).src t
  rw [← hT] at hsrc
  have HTT := Lib.hid htt
  have HTL := Lib.hid hTL.symm
  clear htt hT hTL
  generalize trimL f = tf at *
  go_enter Try.func91, Try.ntmps91
  go_wp2_with (fail)
  go_loopw [3] (fun u3 wr => ∃ k : Nat, k ≤ n ∧ u3 = .int .i64 k ∧ Hid (trimN f k = t) ∧ ∃ m, wr = w.drewN m) (fun u3 _ => (intOf u3).toNat)
  case atStart => exact ⟨n, Nat.le_refl _, rfl, HTT.out, 0, rfl⟩
  case round =>
    obtain ⟨k, hk, rfl, HI, m, rfl⟩ := hrel
    by_cases h0 : 0 < k
    · have hc := (hs.drewN m).2 (k - 1) (by rw [← HN.out]; omega)
      have hs1 : IntKind.i64.wrap ((k : Int) - 1) = (k : Int) - 1 := IntWalk.i64_in _ (by omega)
      have hs2 : ((k : Int) - 1).toNat = k - 1 := by omega
      have hs3 : 1 ≤ (k : Int) := by omega
      have hs4 : 0 ≤ (k : Int) - 1 := by omega
      have hs5 : (k : Int) - 1 < (n : Int) := by omega
      have hT : Hid (trimN f k = if gt f (k - 1) = 0 then trimN f (k - 1) else k) := by
        obtain ⟨q, rfl⟩ : ∃ q, k = q + 1 := ⟨k - 1, by omega⟩
        exact rfl
      by_cases hz : gt f (k - 1) = 0
      · have hI : trimN f (k - 1) = t := by have h := HI.out; rw [hT.out, if_pos hz] at h; exact h
        have HI2 := Lib.hid hI
        rw [hz] at hc
        clear hI hz HI hT hsrc
        go_wp2_with (go_quiet (fail))
        go_roundw
        case rel => exact ⟨k - 1, by omega, by go_num, HI2.out, by first | exact dq1 | exact dq2⟩
        case measure => simp [intOf]; omega
      · have hI : k = t := by have h := HI.out; rw [hT.out, if_neg hz] at h; exact h
        subst hI
        have hzb : (gt f (k - 1) == 0) = false := by rw [beq_eq_false_iff_ne]; exact hz
        clear hz HI hT
        generalize gt f (k - 1) = x at *
        go_wp2_with (first | (go_at_call 41; refine (s_own1 _ _ _ tf _ HTL.out (by omega) (hsrc _) (hlt _)).mono ?_; rintro e w2 ⟨A2, c2, rfl, ho2, hb2⟩) | go_quiet (fail))
        go_ret
        exact RV.und ⟨A2, c2, rfl, ho2, hb2⟩
    · obtain rfl : k = 0 := by omega
      have hI : 0 = t := HI.out
      subst hI
      clear HI
      go_wp2_with (first | (go_at_call 41; refine (s_own1 _ _ _ tf _ HTL.out (by omega) (hsrc _) (hlt _)).mono ?_; rintro e w2 ⟨A2, c2, rfl, ho2, hb2⟩) | go_quiet (fail))
      go_ret
      exact RV.und ⟨A2, c2, rfl, ho2, hb2⟩
end Go.Proofs.Ytcbjfdeigpdbdaa
