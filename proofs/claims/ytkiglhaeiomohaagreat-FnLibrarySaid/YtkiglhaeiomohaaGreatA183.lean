/- The name of a group: both sides. -/
import Derived.Test.YtkiglhaeiomohaaGreatA182
import Derived.Test.YtkiglhaeiomohaaGreatA177
namespace Go.Proofs.YtkiglhaeiomohaaGreat
set_option linter.unusedVariables false
set_option linter.unusedSimpArgs false
open Go.RowKit

theorem find_at {q : Nat → Bool} : ∀ {ks : List Nat} {j : Nat}, j < ks.length → (∀ i, i < j → q (ks.getD i 0) = false) → q (ks.getD j 0) = true → ks.find? q = some (ks.getD j 0)
  | [], j, h, _, _ => by simp at h
  | a :: ks, 0, _, _, h => by
    have h0 : q a = true := by simpa using h
    simp [h0]
  | a :: ks, j + 1, h, h1, h2 => by
    have h0 : q a = false := by simpa using h1 0 (by omega)
    have h3 := find_at (q := q) (ks := ks) (j := j) (by simpa using h) (fun i hi => by simpa using h1 (i + 1) (by omega)) (by simpa using h2)
    rw [List.find?_cons_of_neg (by rw [h0]; decide)]
    simpa using h3
theorem find_no {q : Nat → Bool} {ks : List Nat} (h : ∀ i, i < ks.length → q (ks.getD i 0) = false) : ks.find? q = none := by
  rw [List.find?_eq_none]
  intro x hx
  obtain ⟨j, hj, e⟩ := List.mem_iff_getElem.1 hx
  have h1 := h j hj
  rw [show ks.getD j 0 = x by simp [List.getElem?_eq_getElem hj, e]] at h1
  simp [h1]
/-- What NameOf answers. -/
def NM (p : Int) (l : List Int) (nm : List UInt8) (code : Int) : Prop :=
  (grpB p l = false ∧ nm = [] ∧ code = 1) ∨
  (∃ n : Nat, p = n ∧ grpB n l = true ∧ ¬ (orL n l 0).length = n ∧ nm = [] ∧ code = 5) ∨
  (∃ n : Nat, p = n ∧ grpB n l = true ∧ (orL n l 0).length = n ∧ 5 < n ∧ nm = [] ∧ code = 2) ∨
  (∃ n k0 : Nat, ∃ rest, p = n ∧ grpB n l = true ∧ (orL n l 0).length = n ∧ n ≤ 5 ∧ (nmK n 14).filter (nmQI n l) = k0 :: rest ∧ (nmK n 14).find? (nmQS n l) = some k0 ∧ k0 < 14 ∧ nm = lbN k0 ∧ code = 0)
theorem NM_all (p : Int) (l : List Int) : ∃ nm code, NM p l nm code := by
  cases hg : grpB p l
  · exact ⟨[], 1, .inl ⟨hg, rfl, rfl⟩⟩
  · obtain ⟨n, rfl, h1, _⟩ := grpB_t hg
    by_cases ht : (orL n l 0).length = n
    · by_cases h5 : n ≤ 5
      · obtain ⟨k0, rest, h2, h3, h4⟩ := name_ex h1 h5 hg ht
        exact ⟨lbN k0, 0, .inr (.inr (.inr ⟨n, k0, rest, rfl, hg, ht, h5, h2, h3, h4, rfl, rfl⟩))⟩
      · exact ⟨[], 2, .inr (.inr (.inl ⟨n, rfl, hg, ht, by omega, rfl, rfl⟩))⟩
    · exact ⟨[], 5, .inr (.inl ⟨n, rfl, hg, ht, rfl, rfl⟩)⟩
def SC (nm : List UInt8) (code : Int) (w : World) (e : Ending) (w' : World) : Prop := ∃ nb : ByteArray, e = .returned (.tuple #[.string nb, .int .i64 code]) ∧ nb.toList = nm ∧ Below w.heap.size w w'
theorem nil_list : (⟨#[]⟩ : ByteArray).toList = [] := by first | rfl | simp | decide +kernel | (simp [ByteArray.toList, ByteArray.toList.loop])
set_option maxRecDepth 10000 in
set_option maxHeartbeats 2000000 in
theorem i_NameOf (p : Int) (A : Option Addr) (L c : Nat) (l : List Int) (nm : List UInt8) (code : Int) (w : World) (hL : L = l.length) (hl : L ≤ 1048576) (hs : IS w w.heap.size A l) (h : NM p l nm code) :
    Calls Tryz.prog 23 #[.agg #[.int .i64 p, .slice A L c]] w (SC nm code w) := by
  have B0 := BK.new w 41 #[.int .i64 p, .slice A L c]
  obtain ⟨c0, c1, _, _⟩ := B0.two
  have hb0 := (Below.refl w.heap.size w).alloc (Nat.le_refl _) (.cells #[.int .i64 p, .slice A L c] 41)
  have hs0 := hs.call hb0
  have hB0 := fun W (h : Below (w.alloc (.cells #[.int .i64 p, .slice A L c] 41)).heap.size (w.alloc (.cells #[.int .i64 p, .slice A L c] 41)) W) => (B0.below h (by simp)).two
  have hmv := i_IsGroup p A L c l _ hL hl hs0
  rcases h with ⟨hg, rfl, rfl⟩ | ⟨n, rfl, hg, ht, rfl, rfl⟩ | ⟨n, rfl, hg, ht, h5, rfl, rfl⟩ | ⟨n, k0, rest, rfl, hg, ht, h5, hf, _, hk14, rfl, rfl⟩
  · rw [hg] at hmv
    clear hg hL hs hs0 B0 hB0
    go_enter Tryz.func23, Tryz.ntmps23
    go_wp2_with (go_at_call 64; refine hmv.mono ?_; rintro e w2 ⟨rfl, hb2⟩)
    go_ret2
    exact ⟨_, rfl, nil_list, bel_call hb0 hb2⟩
  · rw [hg] at hmv
    obtain ⟨n', hn, h1, h2, h3, h4, hk⟩ := grpB_t hg
    obtain rfl : n = n' := by omega
    have htr := fun W h => i_trans n A L c l W h1 h2 hL (by omega) (by omega) hk h
    rw [decide_eq_false ht] at htr
    clear hg hL hs B0 hk ht hn h3 h4
    go_enter Tryz.func23, Tryz.ntmps23
    go_wp2_with (first
      | (go_at_call 64; refine hmv.mono ?_; rintro e w2 ⟨rfl, hb2⟩; obtain ⟨d0, d1, _, _⟩ := hB0 _ hb2)
      | (go_at_call 65; refine (htr _ (hs0.call hb2)).mono ?_; rintro e w3 ⟨rfl, hb3⟩))
    go_ret2
    exact ⟨_, rfl, nil_list, bel_call (bel_call hb0 hb2) hb3⟩
  · rw [hg] at hmv
    obtain ⟨n', hn, h1, h2, h3, h4, hk⟩ := grpB_t hg
    obtain rfl : n = n' := by omega
    have htr := fun W h => i_trans n A L c l W h1 h2 hL (by omega) (by omega) hk h
    rw [decide_eq_true ht] at htr
    have hin : inB (n : Int) 1 5 = false := by unfold inB; simp; omega
    clear hg hL hs B0 hk ht hn h3 h4
    go_enter Tryz.func23, Tryz.ntmps23
    go_wp2_with (first
      | (go_at_call 64; refine hmv.mono ?_; rintro e w2 ⟨rfl, hb2⟩; obtain ⟨d0, d1, _, _⟩ := hB0 _ hb2)
      | (go_at_call 65; refine (htr _ (hs0.call hb2)).mono ?_; rintro e w3 ⟨rfl, hb3⟩; obtain ⟨e0, e1, _, _⟩ := hB0 _ (bel_call hb2 hb3))
      | (go_at_call 66; go_in)
      | (go_at_call 56; refine (i_within _ _ _ _).mono ?_; rintro e w' ⟨rfl, nq, rfl⟩; rw [hin]))
    go_ret2
    exact ⟨_, rfl, nil_list, below_drewN (bel_call (bel_call hb0 hb2) hb3) _⟩
  · rw [hg] at hmv
    obtain ⟨n', hn, h1, h2, h3, h4, hk⟩ := grpB_t hg
    obtain rfl : n = n' := by omega
    have htr := fun W h => i_trans n A L c l W h1 h2 hL (by omega) (by omega) hk h
    rw [decide_eq_true ht] at htr
    have hin : inB (n : Int) 1 5 = true := inB_mk (by omega) (by omega)
    have hnl : ∀ W gx, IS W W.heap.size A l → gx < W.heap.size → W.cell? ⟨gx, 0, none⟩ = some (.int .i64 (n : Int)) → W.cell? ⟨gx, 1, none⟩ = some (.slice A L c) →
        Calls Tryz.prog 37 #[.int .i64 (n : Int), .func (.func 67) #[] #[.pointer (some ⟨gx, 0, none⟩)]] W (fun e w' => ∃ g m cap nb, 0 < m ∧ e = .returned (.slice (some ⟨g, 0, none⟩) m cap) ∧ w'.cell? ⟨g, 0, none⟩ = some (.string nb) ∧ nb.toList = lbN k0 ∧ Below W.heap.size W w') := fun W gx hss hgx g0 g1 => by
      have hnm := i_namesName (n : Int) gx (nmQI n l) W (fun k hk' hp nb A2 G c2 W2 hb hG hii => i_nameE k hk' nb A2 A G c2 L c gx n l W2 h1 h2 hG hii hL (by omega) (by omega) hk (hss.call hb) (by have := hb.size; omega) ((hb.cell (p := ⟨gx, 0, none⟩) hgx).trans g0) ((hb.cell (p := ⟨gx, 1, none⟩) hgx).trans g1))
      have e : snK (n : Int) (nmQI n l) 14 = k0 :: rest := hf
      rw [e] at hnm
      refine hnm.mono ?_
      rintro e w' ⟨v, rfl, ⟨bs, ho, hbs⟩, hb⟩
      obtain ⟨A2, c2, rfl, _⟩ := own_slice' ho
      obtain ⟨g, rfl, _, _, hc⟩ := own_src ho (by simp)
      cases bs with
      | nil => simp at hbs
      | cons nb bs =>
        refine ⟨g, _, c2, nb, by simp, rfl, hc 0 _ rfl, ?_, hb⟩
        simpa using congrArg List.head? hbs
    have hnl : ∀ W gx, IS W W.heap.size A l → gx < W.heap.size → W.cell? ⟨gx, 0, none⟩ = some (.int .i64 (n : Int)) → W.cell? ⟨gx, 1, none⟩ = some (.slice A L c) → _ := fun W gx a b c d => hnl W gx a b c d
    clear hg hL hs B0 hk ht hn h3 h4 hf
    go_enter Tryz.func23, Tryz.ntmps23
    go_wp2_with (first
      | (go_at_call 64; refine hmv.mono ?_; rintro e w2 ⟨rfl, hb2⟩; obtain ⟨d0, d1, _, _⟩ := hB0 _ hb2)
      | (go_at_call 65; refine (htr _ (hs0.call hb2)).mono ?_; rintro e w3 ⟨rfl, hb3⟩; have hb23 := bel_call hb2 hb3; obtain ⟨e0, e1, _, _⟩ := hB0 _ hb23; have hs3 := hs0.call hb23)
      | (go_at_call 66; go_in)
      | (go_at_call 56; refine (i_within _ _ _ _).mono ?_; rintro e w' ⟨rfl, nq, rfl⟩; rw [hin])
      | (go_at_call 37; refine (hnl _ w.heap.size (hs3.drewN _) (by have := hb23.size; simp at this; show w.heap.size < w3.heap.size; omega) e0 e1).mono ?_; rintro e w5 ⟨g5, m5, cap5, nb5, hm5, rfl, hc5, hnb5, hb5⟩))
    go_ret2
    exact ⟨_, rfl, hnb5, bel_call (below_drewN (bel_call hb0 hb23) _) hb5⟩
end Go.Proofs.YtkiglhaeiomohaaGreat
