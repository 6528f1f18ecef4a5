/- BlockWith: the reference's side, and the law. -/
import Derived.Test.YtglijcdnnaekkaaGreatA208
import Derived.Test.YtglijcdnnaekkaaGreatA206
import Derived.Test.YtglijcdnnaekkaaGreatA176
namespace Go.Proofs.YtglijcdnnaekkaaGreat
set_option linter.unusedVariables false
set_option linter.unusedSimpArgs false
open Go.RowKit

theorem mvL_two {n : Nat} {l : List Int} {a b : Int} (hg : grpB n l = true) : mvL n l [a, b] = if (!inB a 0 ((n : Int) - 1) || !inB b 0 ((n : Int) - 1)) = true then 2 else 0 := by
  unfold mvL
  rw [hg]
  simp
theorem mvL_no {p : Int} {l pts : List Int} (hg : grpB p l = false) : mvL p l pts = 1 := by unfold mvL; rw [hg]; rfl
set_option maxRecDepth 20000 in
set_option maxHeartbeats 1000000 in
theorem s_l23Code (p a b : Int) (A : Option Addr) (L c : Nat) (l : List Int) (w : World) (hL : L = l.length) (hl : L ≤ 1048576) (hs : IS w w.heap.size A l) :
    Calls Tryz.prog 74 #[.agg #[.int .i64 p, .slice A L c], .int .i64 a, .int .i64 b] w (M (.int .i64 (mvL p l [a, b])) w) := by
  have B0 := BK.new w 26 #[.int .i64 p, .slice A L c]
  obtain ⟨c0, c1, _, _⟩ := B0.two
  have hb0 := (Below.refl w.heap.size w).alloc (Nat.le_refl _) (.cells #[.int .i64 p, .slice A L c] 26)
  have hs0 := hs.call hb0
  have hB0 := fun W (h : Below (w.alloc (.cells #[.int .i64 p, .slice A L c] 26)).heap.size (w.alloc (.cells #[.int .i64 p, .slice A L c] 26)) W) => (B0.below h (by simp)).two
  have hg := s_IsGroup p A L c l _ hL hl hs0
  cases hgb : grpB p l
  · rw [hgb] at hg
    rw [mvL_no hgb]
    clear hL hs hs0 hgb B0 hB0
    go_enter Tryz.func74, Tryz.ntmps74
    go_wp2_with (go_at_call 63; refine hg.mono ?_; rintro e w2 ⟨rfl, hb2⟩)
    go_ret
    exact ⟨rfl, bel_call hb0 hb2⟩
  · rw [hgb] at hg
    obtain ⟨n, rfl, h1, h2, _⟩ := grpB_t hgb
    rw [mvL_two hgb]
    have hw : IntKind.i64.wrap ((n : Int) - 1) = (n : Int) - 1 := IntWalk.i64_in _ (by omega)
    have hia := fun W => s_l01In a 0 ((n : Int) - 1) W
    have hib := fun W => s_l01In b 0 ((n : Int) - 1) W
    generalize inB a 0 ((n : Int) - 1) = ia at *
    generalize inB b 0 ((n : Int) - 1) = ib at *
    clear hL hs hs0 hgb B0
    cases ia
    · go_enter Tryz.func74, Tryz.ntmps74
      go_wp2_with (first
        | (go_at_call 63; refine hg.mono ?_; rintro e w2 ⟨rfl, hb2⟩; obtain ⟨d0, d1, _, _⟩ := hB0 _ hb2)
        | (go_at_call 64; refine (hia _).mono ?_; rintro e w3 ⟨rfl, q3, rfl⟩))
      go_ret
      exact ⟨by simp, below_drewN (bel_call hb0 hb2) _⟩
    · cases ib
      all_goals
        go_enter Tryz.func74, Tryz.ntmps74
        go_wp2_with (first
          | (go_at_call 63; refine hg.mono ?_; rintro e w2 ⟨rfl, hb2⟩; obtain ⟨d0, d1, _, _⟩ := hB0 _ hb2)
          | (go_at_call 64; have q9 := q3; refine (hib _).mono ?_; rintro e w4 ⟨rfl, q4, rfl⟩)
          | (go_at_call 64; refine (hia _).mono ?_; rintro e w3 ⟨rfl, q3, rfl⟩))
        go_ret
        refine ⟨by simp, ?_⟩
        repeat (first | exact bel_call hb0 hb2 | refine below_drewN ?_ _)
set_option maxRecDepth 20000 in
set_option maxHeartbeats 1000000 in
theorem s_BlockWith (p a b : Int) (A : Option Addr) (L c : Nat) (l : List Int) (w : World) (hL : L = l.length) (hl : L ≤ 1048576) (hs : IS w w.heap.size A l) :
    Calls Tryz.prog 13 #[.agg #[.int .i64 p, .slice A L c], .int .i64 a, .int .i64 b] w (fun e w' => ∃ out code, BWP p l a b out code ∧ RVC out code w e w') := by
  have B0 := BK.new w 26 #[.int .i64 p, .slice A L c]
  obtain ⟨c0, c1, _, _⟩ := B0.two
  have hb0 := (Below.refl w.heap.size w).alloc (Nat.le_refl _) (.cells #[.int .i64 p, .slice A L c] 26)
  have hs0 := hs.call hb0
  have hB0 := fun W (h : Below (w.alloc (.cells #[.int .i64 p, .slice A L c] 26)).heap.size (w.alloc (.cells #[.int .i64 p, .slice A L c] 26)) W) => (B0.below h (by simp)).two
  have hcd := s_l23Code p a b A L c l _ hL hl hs0
  by_cases hm : mvL p l [a, b] = 0
  · rw [hm] at hcd
    have hgb : grpB p l = true := by
      cases h : grpB p l
      · rw [mvL_no h] at hm; exact absurd hm (by decide)
      · rfl
    obtain ⟨n, rfl, h1, h2, h3, h4, hk⟩ := grpB_t hgb
    have htr := fun W h => s_trans n A L c l W h1 h2 hL (by omega) (by omega) hk h
    by_cases ht : (orL n l 0).length = n
    · have hin := hm
      rw [mvL_two hgb] at hin
      have hia : inB a 0 ((n : Int) - 1) = true := by cases h : inB a 0 ((n : Int) - 1) <;> simp [h] at hin ⊢
      have hib : inB b 0 ((n : Int) - 1) = true := by cases h : inB b 0 ((n : Int) - 1) <;> simp [h] at hin ⊢
      obtain ⟨a0, a1⟩ := inB_true hia
      obtain ⟨b0, b1⟩ := inB_true hib
      obtain ⟨x, rfl⟩ := Int.eq_ofNat_of_zero_le a0
      obtain ⟨y, rfl⟩ := Int.eq_ofNat_of_zero_le b0
      have hx : x < n := by omega
      have hy : y < n := by omega
      rw [decide_eq_true ht] at htr
      have hG := pg_of hgb
      have htj := fun W => two_isn W (x : Int) (y : Int)
      have hbl := fun Ap W h h' => s_l23Block n A Ap L c 2 2 l [x, y] W h1 h2 hL (by omega) (by omega) hk hG (orL_all h1 hk ht) h rfl (by omega) (by omega) (fun j => by
        rcases j with _ | _ | j
        · exact hx
        · exact hy
        · simp; omega) h' x rfl
      have HPOST := Lib.hid (show ∀ cl (e : Ending) (w' : World), Cls n (memL n l) [x, y] cl → Cong n (memL n l) cl → Tog [x, y] cl 2 → RVC (tJ (clsN n cl x)) 0 w e w' → ∃ out code, BWP n l x y out code ∧ RVC out code w e w' from fun cl e w' g1 g2 g3 g4 =>
        ⟨_, 0, .inr (.inr ⟨n, x, y, cl, rfl, rfl, rfl, hx, hy, hgb, hm, ht, g1, g2, by have := g3 1 (by omega); simpa using this.symm, rfl, rfl⟩), g4⟩)
      clear hin hia hib hL hs B0 hk ht hm hgb h3 h4 hG a0 a1 b0 b1 hx hy
      go_enter Tryz.func13, Tryz.ntmps13
      go_wp2_with (first
        | (go_at_call 74; refine hcd.mono ?_; rintro e w2 ⟨rfl, hb2⟩; obtain ⟨d0, d1, _, _⟩ := hB0 _ hb2)
        | (go_at_call 65; refine (htr _ (hs0.call hb2)).mono ?_; rintro e w3 ⟨rfl, hb3⟩; have b3 := bel_call hb2 hb3; obtain ⟨f0, f1, _, _⟩ := hB0 _ b3; have hs3 := hs0.call b3; have hbt := (Below.refl w3.heap.size w3).alloc (Nat.le_refl _) (.cells #[.int .i64 (x : Int), .int .i64 (y : Int)] 2)))
      refine (hbl _ _ (hs3.call hbt) (htj w3)).mono ?_
      rintro e w4 ⟨cl, g1, g2, g3, v4, rfl, o4, hb4⟩
      obtain ⟨A4, c4, rfl, _⟩ := own_slice' o4
      have HP := Lib.hid (fun e w' => HPOST.out cl e w' g1 g2 g3)
      have hz3 := (bel_call hb0 b3).size
      generalize tJ (clsN n cl x) = out at *
      clear g1 g2 g3
      go_wp2_with (fail)
      go_ret2
      exact HP.out _ _ ⟨A4, c4, rfl, own_mono o4 (by simp; omega), bel_call (bel_call (bel_call hb0 b3) hbt) hb4⟩
    · rw [decide_eq_false ht] at htr
      have HPOST := Lib.hid (show BWP n l a b [] 5 from .inr (.inl ⟨n, rfl, hgb, hm, ht, rfl, rfl⟩))
      clear hL hs B0 hk ht hm hgb h3 h4
      go_enter Tryz.func13, Tryz.ntmps13
      go_wp2_with (first
        | (go_at_call 74; refine hcd.mono ?_; rintro e w2 ⟨rfl, hb2⟩; obtain ⟨d0, d1, _, _⟩ := hB0 _ hb2)
        | (go_at_call 65; refine (htr _ (hs0.call hb2)).mono ?_; rintro e w3 ⟨rfl, hb3⟩))
      go_ret2
      exact ⟨[], 5, HPOST.out, rvc_none _ _ _ (bel_call (bel_call hb0 hb2) hb3)⟩
  · have HPOST := Lib.hid (show BWP p l a b [] (mvL p l [a, b]) from .inl ⟨hm, rfl, rfl⟩)
    generalize mvL p l [a, b] = cd at *
    have h1 : (cd == 0) = false := by rw [beq_eq_false_iff_ne]; exact hm
    have h2 : (cd != 0) = true := by rw [bne_iff_ne]; exact hm
    clear hL hs B0 hB0 hm
    go_enter Tryz.func13, Tryz.ntmps13
    go_wp2_with (first
      | (go_at_call 74; refine hcd.mono ?_; rintro e w2 ⟨rfl, hb2⟩))
    go_ret2
    exact ⟨[], cd, HPOST.out, rvc_none _ _ _ (bel_call hb0 hb2)⟩
/-- A slice of int64 of the call's own, its block between two bounds. -/
structure OB (w : World) (lo hi : Nat) (A : Option Addr) (n c : Nat) (l : List Int) : Prop where
  own : w.ownsRow lo 2 1 (.slice A n c) n (ints l)
  lt : ∀ g, (Value.slice A n c).ownBlock = some g → g < hi
section
variable {w w' : World} {lo hi n c : Nat} {A : Option Addr} {l : List Int}
theorem OB.mk' (h : w.ownsRow lo 2 1 (.slice A n c) n (ints l)) : OB w lo w.heap.size A n c l := ⟨h, fun g hg => (h.lt g hg).2⟩
theorem OB.is (h : OB w lo hi A n c l) (hn : n = l.length) : IS w w.heap.size A l := own_isn h.own hn
theorem OB.below (h : OB w lo hi A n c l) (hb : Below w.heap.size w w') : OB w' lo hi A n c l := ⟨own_below h.own hb, h.lt⟩
theorem OB.dr (h : OB w lo hi A n c l) (k : Nat) : OB (w.drewN k) lo hi A n c l := ⟨own_dr h.own k, h.lt⟩
theorem OB.grown {row : Option Nat} (h : OB w lo hi A n c l) (hg : w.grownBy w' row) (hr : ∀ g, row = some g → g < lo ∨ hi ≤ g) : OB w' lo hi A n c l := by
  refine ⟨h.own.kept hg ?_, h.lt⟩
  cases hb : (Value.slice A n c).ownBlock with
  | none => exact .inl rfl
  | some g => exact .inr fun e => by have h1 := h.own.lt g hb; have h2 := h.lt g hb; have := hr g e.symm; omega
end
end Go.Proofs.YtglijcdnnaekkaaGreat
