/- The law of GroupNamed. -/
import Derived.Test.YtkhadipfibllnaaA83
namespace Go.Proofs.Ytkhadipfibllnaa
set_option linter.unusedVariables false
set_option linter.unusedSimpArgs false
open Go.RowKit

set_option maxHeartbeats 1000000 in
theorem l_eqGroup (p : Int) (A A' : Option Addr) (n c c' : Nat) (l : List Int) (w : World) (B B' : Nat) (hn : n = l.length) (hl : n ≤ 1048576) (hB : B ≤ w.heap.size) (hB' : B' ≤ w.heap.size) (hs : IS w B A l) (hs' : IS w B' A' l) :
    Calls Try.prog 20 #[.agg #[.int .i64 p, .slice A n c], .agg #[.int .i64 p, .slice A' n c']] w (M (.bool true) w) := by
  have hb := two_alloc w (.cells #[.int .i64 p, .slice A n c] 30) (.cells #[.int .i64 p, .slice A' n c'] 30)
  obtain ⟨B1, B2⟩ := two_boxes w 30 30 #[.int .i64 p, .slice A n c] #[.int .i64 p, .slice A' n c']
  have h1 := hs.below (hb.mono hB)
  have h2 := hs'.below (hb.mono hB')
  obtain ⟨c0, c1, _, _⟩ := B1.two
  obtain ⟨d0, d1, _, _⟩ := B2.two
  have HN := Lib.hid hn
  clear hn hs hs' B1 B2
  go_enter Try.func20, Try.ntmps20
  go_wp2_with (first
    | (go_at_call 32; refine (l_eqInt64S _ _ n _ n _ l _ _ _ HN.out HN.out (by omega) h1 h2).mono ?_; rintro e w1 ⟨rfl, q, rfl⟩))
  go_ret
  exact ⟨rfl, below_drewN hb _⟩
set_option maxHeartbeats 1000000 in
theorem l_markGroup (p : Int) (A : Option Addr) (n c base : Nat) (l : List Int) (w : World) (hn : n = l.length) (hl : n ≤ 1048576) (ho : w.ownsRow base 2 1 (.slice A n c) n (ints l)) :
    Calls Try.prog 21 #[.agg #[.int .i64 p, .slice A n c], .int .i64 1] w (fun e w' => e = .returned (.int .i64 (1 + (n : Int))) ∧ w'.ownsRow base 2 1 (.slice A n c) n (ints (marks 1 n)) ∧ w.grownBy w' (Value.slice A n c).ownBlock) := by
  obtain ⟨c0, c1, _, _⟩ := (BK.new w 30 #[.int .i64 p, .slice A n c]).two
  have ho1 := World.ownsRow.alloc ho (.cells #[.int .i64 p, .slice A n c] 30)
  have hg0 := World.grownBy_alloc w (.cells #[.int .i64 p, .slice A n c] 30) (Value.slice A n c).ownBlock
  have HN := Lib.hid hn
  clear hn ho
  go_enter Try.func21, Try.ntmps21
  go_wp2_with (first
    | (go_at_call 56; refine (l_mark1 A n c base l _ HN.out hl ho1).mono ?_; rintro e w1 ⟨rfl, hm, hg⟩))
  go_ret
  exact ⟨rfl, hm, grown_trans hg0 hg⟩
set_option maxHeartbeats 1000000 in
theorem l_heldGroup (p : Int) (A : Option Addr) (n c B : Nat) (w : World) (hl : n ≤ 1048576) (hB : B ≤ w.heap.size) (hs : IS w B A (marks 1 n)) :
    Calls Try.prog 22 #[.agg #[.int .i64 p, .slice A n c], .int .i64 1] w (M (.int .i64 (1 + (n : Int))) w) := by
  obtain ⟨c0, c1, _, _⟩ := (BK.new w 30 #[.int .i64 p, .slice A n c]).two
  have hb := (Below.refl w.heap.size w).alloc (Nat.le_refl _) (.cells #[.int .i64 p, .slice A n c] 30)
  have h1 := hs.below (hb.mono hB)
  clear hs
  go_enter Try.func22, Try.ntmps22
  go_wp2_with (first
    | (go_at_call 57; refine (l_held1 A n c _ _ hl h1).mono ?_; rintro e w1 ⟨rfl, q, rfl⟩))
  go_ret
  exact ⟨rfl, below_drewN hb _⟩
set_option maxHeartbeats 4000000 in
theorem law_GroupNamed (s : ByteArray) (w : World) : Calls Try.prog 4 #[.string s] w (M (.bool true) w) := by
  obtain ⟨p, l, code, h⟩ := nv_ex s
  have h1 := fun W => s_GroupNamed s p l code h W
  have h2 := fun W => i_GroupNamed s p l code h W
  have hlen := (nv_code h).2
  clear h
  generalize hL : l.length = L at *
  have HL := Lib.hid hL.symm
  have h1 : ∀ W, Calls Try.prog 18 #[.string s] W (fun e w' => ∃ A c, e = .returned (.tuple #[.agg #[.int .i64 p, .slice A L c], .int .i64 code]) ∧ w'.ownsRow W.heap.size 2 1 (.slice A L c) L (ints l) ∧ Below W.heap.size W w') := fun W => (h1 W).mono fun e w' ⟨v, e1, e2, e3⟩ => by
    rw [hL] at e2
    obtain ⟨A, c, rfl, _⟩ := own_slice' e2
    exact ⟨A, c, e1, e2, e3⟩
  have h2 : ∀ W, Calls Try.prog 19 #[.string s] W (fun e w' => ∃ A c, e = .returned (.tuple #[.agg #[.int .i64 p, .slice A L c], .int .i64 code]) ∧ w'.ownsRow W.heap.size 2 1 (.slice A L c) L (ints l) ∧ Below W.heap.size W w') := fun W => (h2 W).mono fun e w' ⟨v, e1, e2, e3⟩ => by
    rw [hL] at e2
    obtain ⟨A, c, rfl, _⟩ := own_slice' e2
    exact ⟨A, c, e1, e2, e3⟩
  clear hL
  by_cases hbig : 1048576 < s.size
  · go_enter Try.func4, Try.ntmps4
    go_wp2_with (fail)
    go_ret
    exact ⟨rfl, Below.refl _ _⟩
  · go_enter Try.func4, Try.ntmps4
    go_wp2_with (fail)
    refine (h1 _).mono ?_
    rintro e w1 ⟨A0, c0, rfl, o0, b1⟩
    have hA0 := fun g hg => (o0.lt g hg).2
    have B3 := BK.new w1 30 #[.int .i64 p, .slice A0 L c0]
    have o0 := World.ownsRow.alloc o0 (.cells #[.int .i64 p, .slice A0 L c0] 30)
    have b1 := b1.alloc b1.size (.cells #[.int .i64 p, .slice A0 L c0] 30)
    go_wp2_with (fail)
    have z1 : w1.heap.size + 1 = (w1.alloc (.cells #[.int .i64 p, .slice A0 L c0] 30)).heap.size := by simp
    have l3 := B3.lt
    generalize hg3 : w1.heap.size = g3 at *
    generalize w1.alloc (.cells #[.int .i64 p, .slice A0 L c0] 30) = w1' at *
    refine (h2 _).mono ?_
    rintro e w2 ⟨A1, c1, rfl, o1, hb2⟩
    have hA1 := o1.lt
    have B5 := BK.new w2 30 #[.int .i64 p, .slice A1 L c1]
    have o0 := World.ownsRow.alloc (own_below o0 hb2) (.cells #[.int .i64 p, .slice A1 L c1] 30)
    have o1 := World.ownsRow.alloc o1 (.cells #[.int .i64 p, .slice A1 L c1] 30)
    have B3 := (B3.below hb2 l3).alloc (.cells #[.int .i64 p, .slice A1 L c1] 30)
    have z2 := hb2.size
    have b2 := (bel_call b1 hb2).alloc (by have := b1.size; omega) (.cells #[.int .i64 p, .slice A1 L c1] 30)
    obtain ⟨f0, f1, _, _⟩ := B3.two
    obtain ⟨d0, d1, _, _⟩ := B5.two
    go_wp2_with (fail)
    have z3 : w2.heap.size + 1 = (w2.alloc (.cells #[.int .i64 p, .slice A1 L c1] 30)).heap.size := by simp
    have l5 := B5.lt
    generalize hg5 : w2.heap.size = g5 at *
    generalize w2.alloc (.cells #[.int .i64 p, .slice A1 L c1] 30) = w2' at *
    clear f0 f1 d0 d1
    refine (l_eqGroup p A1 A0 L c1 c0 l _ _ _ HL.out (by omega) (Nat.le_refl _) (Nat.le_refl _) (own_isn o1 HL.out) (own_isn o0 HL.out)).mono ?_
    rintro e w3 ⟨rfl, hb3⟩
    have o0 := own_below o0 hb3
    have o1 := own_below o1 hb3
    have B3 := B3.below hb3 (by omega)
    have B5 := B5.below hb3 l5
    have b3 := bel_call b2 hb3
    have z4 := hb3.size
    obtain ⟨d0, d1, _, _⟩ := B5.two
    go_wp2_with (fail)
    clear d0 d1
    have hne : (Value.slice A0 L c0).ownBlock = none ∨ (Value.slice A0 L c0).ownBlock ≠ (Value.slice A1 L c1).ownBlock := by
      cases h : (Value.slice A0 L c0).ownBlock with
      | none => exact .inl rfl
      | some g => exact .inr fun e => by have h1 := hA0 g h; have h2 := (hA1 g e.symm).1; omega
    refine (l_markGroup p A1 L c1 _ l _ HL.out (by omega) o1).mono ?_
    rintro e w4 ⟨rfl, m1, g4⟩
    have o0 := World.ownsRow.kept o0 g4 hne
    have B3 := BK.kept B3 g4 (fun e => by have h2 := (hA1 g3 e.symm).1; omega)
    have B5 := BK.kept B5 g4 (fun e => by have h2 := (hA1 g5 e.symm).2; omega)
    have b4 := b3.grown g4 (by have := b3.size; omega) (fun g hg => by have h2 := (hA1 g hg).1; have h3 := b1.size; omega)
    have z5 := g4.size
    obtain ⟨d0, d1, _, _⟩ := B5.two
    go_wp2_with (fail)
    clear d0 d1
    refine (l_heldGroup p A1 L c1 _ _ (by omega) (Nat.le_refl _) (own_isn m1 (by rw [marks_length]))).mono ?_
    rintro e w5 ⟨rfl, hb5⟩
    have o0 := own_below o0 hb5
    have m1 := own_below m1 hb5
    have B3 := B3.below hb5 (by omega)
    have B5 := B5.below hb5 (by omega)
    have b5 := bel_call b4 hb5
    have z6 := hb5.size
    go_wp2_with (fail)
    refine (h2 _).mono ?_
    rintro e w6 ⟨A2, c2, rfl, o2, hb6⟩
    have B9 := BK.new w6 30 #[.int .i64 p, .slice A2 L c2]
    have o0 := World.ownsRow.alloc (own_below o0 hb6) (.cells #[.int .i64 p, .slice A2 L c2] 30)
    have m1 := World.ownsRow.alloc (own_below m1 hb6) (.cells #[.int .i64 p, .slice A2 L c2] 30)
    have o2 := World.ownsRow.alloc o2 (.cells #[.int .i64 p, .slice A2 L c2] 30)
    have B3 := (B3.below hb6 (by omega)).alloc (.cells #[.int .i64 p, .slice A2 L c2] 30)
    have B5 := (B5.below hb6 (by omega)).alloc (.cells #[.int .i64 p, .slice A2 L c2] 30)
    have z7 := hb6.size
    have b6 := (bel_call b5 hb6).alloc (by have := b5.size; omega) (.cells #[.int .i64 p, .slice A2 L c2] 30)
    obtain ⟨f0, f1, _, _⟩ := B3.two
    obtain ⟨d0, d1, _, _⟩ := B9.two
    go_wp2_with (fail)
    have z8 : w6.heap.size + 1 = (w6.alloc (.cells #[.int .i64 p, .slice A2 L c2] 30)).heap.size := by simp
    generalize w6.heap.size = g9 at *
    generalize w6.alloc (.cells #[.int .i64 p, .slice A2 L c2] 30) = w6' at *
    clear f0 f1 d0 d1
    refine (l_eqGroup p A2 A0 L c2 c0 l _ _ _ HL.out (by omega) (Nat.le_refl _) (Nat.le_refl _) (own_isn o2 HL.out) (own_isn o0 HL.out)).mono ?_
    rintro e w7 ⟨rfl, hb7⟩
    have m1 := own_below m1 hb7
    have B5 := B5.below hb7 (by omega)
    have b7 := bel_call b6 hb7
    have z9 := hb7.size
    obtain ⟨d0, d1, _, _⟩ := B5.two
    go_wp2_with (fail)
    clear d0 d1
    refine (l_heldGroup p A1 L c1 _ _ (by omega) (Nat.le_refl _) (own_isn m1 (by rw [marks_length]))).mono ?_
    rintro e w8 ⟨rfl, hb8⟩
    have b8 := bel_call b7 hb8
    go_wp2_with (fail)
    go_ret
    exact ⟨rfl, b8⟩
end Go.Proofs.Ytkhadipfibllnaa
