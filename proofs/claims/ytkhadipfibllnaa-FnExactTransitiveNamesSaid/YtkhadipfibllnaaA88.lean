/- The law of TransitiveNames. -/
import Derived.Test.YtkhadipfibllnaaA87
namespace Go.Proofs.Ytkhadipfibllnaa
set_option linter.unusedVariables false
set_option linter.unusedSimpArgs false
open Go.RowKit

theorem tnL_len (n : Int) : (tnL n).length ≤ 5 := by
  unfold tnL
  split
  · rename_i h
    obtain ⟨h1, h2⟩ := inB_true h
    obtain ⟨m, rfl⟩ := Int.eq_ofNat_of_zero_le (show 0 ≤ n by omega)
    have hm : m < 6 := by omega
    have : ∀ m : Fin 6, (nmK ((m : Nat) : Int) 14).length ≤ 5 := by decide +kernel
    exact this ⟨m, hm⟩
  · simp
theorem ownS_below {w w' : World} {base m : Nat} {v : Value} {E : List (List UInt8)} (h : OwnS w base v m E) (hb : Below w.heap.size w w') : OwnS w' base v m E := by
  obtain ⟨bs, h1, h2⟩ := h
  exact ⟨bs, own_below h1 hb, h2⟩
set_option maxHeartbeats 4000000 in
theorem law_TransitiveNames (n : Int) (w : World) (_ : -9223372036854775808 ≤ n ∧ n ≤ 9223372036854775807) : Calls Try.prog 3 #[.int .i64 n] w (M (.bool true) w) := by
  have h1 := fun W => s_TransitiveNames n W
  have h2 := fun W => i_TransitiveNames n W
  have hlen := tnL_len n
  generalize tnL n = is at *
  generalize tnC n = code at *
  generalize hE : is.map lbN = E at *
  have hEl : E.length = is.length := by rw [← hE]; simp
  unfold OSC at h1 h2
  rw [hE] at h1 h2
  generalize is.length = m at *
  have HEL := Lib.hid hEl
  clear hE hEl
  have hbl : ∀ {bs : List ByteArray}, bs.map (·.toList) = E → m = bs.length := fun h => by have := congrArg List.length h; simp at this; rw [this, HEL.out]
  have HBL := @hbl
  go_enter Try.func3, Try.ntmps3
  go_wp2_with (fail)
  refine (h1 _).mono ?_
  rintro e w1 ⟨A0, c0, rfl, ⟨bs0, o0, hs0⟩, b1⟩
  go_wp2_with (fail)
  refine (h2 _).mono ?_
  rintro e w2 ⟨A1, c1, rfl, ⟨bs1, o1, hs1⟩, hb2⟩
  have hA0 := fun g hg => (o0.lt g hg).2
  have hA1 := o1.lt
  have o0 := own_below o0 hb2
  have b2 := bel_call b1 hb2
  have n0 := Lib.hid (hbl hs0)
  have n1 := Lib.hid (hbl hs1)
  have s01 := Lib.hid (hs1.trans hs0.symm)
  clear hs1
  have HS0 := Lib.hid hs0
  clear hs0
  go_wp2_with (fail)
  refine (l_eqStringS A1 A0 m c1 c0 bs1 bs0 _ _ _ n1.out n0.out (by omega) (own_ib o1 n1.out) (own_ib o0 n0.out) s01.out).mono ?_
  rintro e w3 ⟨rfl, q3, rfl⟩
  have z2 := hb2.size
  have hne : (Value.slice A0 m c0).ownBlock = none ∨ (Value.slice A0 m c0).ownBlock ≠ (Value.slice A1 m c1).ownBlock := by
    cases h : (Value.slice A0 m c0).ownBlock with
    | none => exact .inl rfl
    | some g => exact .inr fun e => by have h1 := hA0 g h; have h2 := (hA1 g e.symm).1; omega
  go_wp2_with (fail)
  refine (l_markStringS A1 m c1 _ bs1 _ n1.out hlen (show w1.heap.size ≤ (w2.drewN q3).heap.size from z2) (own_dr o1 q3)).mono ?_
  rintro e w4 ⟨rfl, m1, g4⟩
  have g4 := undrewG g4
  have o0 := World.ownsRow.kept o0 g4 hne
  have b4 := b2.grown g4 b2.size (fun g hg => by have h2 := (hA1 g hg).1; have h3 := b1.size; omega)
  clear g4
  go_wp2_with (fail)
  refine (l_heldStringS A1 m c1 _ _ hlen (Nat.le_refl _) (own_ib m1 (by rw [mks_length]))).mono ?_
  rintro e w5 ⟨rfl, hb5⟩
  have o0 := own_below o0 hb5
  have m1 := own_below m1 hb5
  have b5 := bel_call b4 hb5
  go_wp2_with (fail)
  refine (h2 _).mono ?_
  rintro e w6 ⟨A2, c2, rfl, ⟨bs2, o2, hs2⟩, hb6⟩
  have o0 := own_below o0 hb6
  have m1 := own_below m1 hb6
  have b6 := bel_call b5 hb6
  have n2 := Lib.hid (hbl hs2)
  have s02 := Lib.hid (hs2.trans HS0.out.symm)
  clear hs2
  go_wp2_with (fail)
  refine (l_eqStringS A2 A0 m c2 c0 bs2 bs0 _ _ _ n2.out n0.out (by omega) (own_ib o2 n2.out) (own_ib o0 n0.out) s02.out).mono ?_
  rintro e w7 ⟨rfl, q7, rfl⟩
  go_wp2_with (fail)
  refine (l_heldStringS A1 m c1 _ _ hlen (Nat.le_refl _) (own_ib (own_dr m1 q7) (by rw [mks_length]))).mono ?_
  rintro e w8 ⟨rfl, hb8⟩
  have b8 := bel_call (below_drewN b6 q7) hb8
  go_wp2_with (fail)
  go_ret
  exact ⟨rfl, b8⟩
end Go.Proofs.Ytkhadipfibllnaa
