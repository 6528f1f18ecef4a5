/- TypeText: both sides and the law. -/
import Derived.Test.YtjfinniebijgbaaDoorA318
namespace Go.Proofs.YtjfinniebijgbaaDoor
set_option linter.unusedVariables false
set_option linter.unusedSimpArgs false
open Go.RowKit
open Go.Lib hiding intOf

noncomputable def txV (xs : List Int) : List UInt8 := if typeB xs then jn 46 (itx xs) else []
noncomputable def txC (xs : List Int) : Int := if typeB xs then 0 else 1
set_option maxHeartbeats 1000000 in
theorem i_TypeText (A : Option Addr) (n c : Nat) (xs : List Int) (w : World) (hn : n = xs.length) (hl : n ≤ 1048576) (hs : IS w w.heap.size A xs) (hm : MW w) :
    Calls Tryd.prog 9 #[.slice A n c] w (M (.tuple #[.string (bl (txV xs)), .int .i64 (txC xs)]) w) := by
  have ht := i_IsType A n c xs w w.heap.size hn hl hs
  unfold txV txC
  cases hb : typeB xs
  · rw [hb] at ht
    have e : bl [] = (⟨#[]⟩ : ByteArray) := rfl
    simp only [Bool.false_eq_true, if_false]
    rw [e]
    clear hb hn hs e
    go_enter Tryd.func9, Tryd.ntmps9
    go_wp2_with (go_at_call 23; refine ht.mono ?_; rintro e w2 ⟨rfl, q2, rfl⟩)
    go_ret2
    exact ⟨rfl, below_drewN (Below.refl _ _) _⟩
  · rw [hb] at ht
    have hx := fun q => i_typeText A n c xs (w.drewN q) hn (typeB_p hb) (hs.drewN q) (fun W hW => hm W (undrew hW))
    simp only [if_true]
    generalize bl (jn 46 (itx xs)) = tx at *
    clear hb hn hs
    go_enter Tryd.func9, Tryd.ntmps9
    go_wp2_with (first
      | (go_at_call 23; refine ht.mono ?_; rintro e w2 ⟨rfl, q2, rfl⟩)
      | (go_at_call 24; refine (hx _).mono ?_; rintro e w3 ⟨rfl, hb3⟩))
    go_ret2
    exact ⟨rfl, undrew hb3⟩
set_option maxHeartbeats 1000000 in
theorem s_TypeText (A : Option Addr) (n c : Nat) (xs : List Int) (w : World) (hn : n = xs.length) (hl : n ≤ 1048576) (hs : IS w w.heap.size A xs)  :
    Calls Tryd.prog 7 #[.slice A n c] w (M (.tuple #[.string (bl (txV xs)), .int .i64 (txC xs)]) w) := by
  have ht := s_IsType A n c xs w w.heap.size hn hl hs
  unfold txV txC
  cases hb : typeB xs
  · rw [hb] at ht
    have e : bl [] = (⟨#[]⟩ : ByteArray) := rfl
    simp only [Bool.false_eq_true, if_false]
    rw [e]
    clear hb hn hs e
    go_enter Tryd.func7, Tryd.ntmps7
    go_wp2_with (go_at_call 21; refine ht.mono ?_; rintro e w2 ⟨rfl, q2, rfl⟩)
    go_ret2
    exact ⟨rfl, below_drewN (Below.refl _ _) _⟩
  · rw [hb] at ht
    have hx := fun q => s_l01Join A n c xs (w.drewN q) hn (typeB_p hb) (hs.drewN q)
    simp only [if_true]
    generalize bl (jn 46 (itx xs)) = tx at *
    clear hb hn hs
    go_enter Tryd.func7, Tryd.ntmps7
    go_wp2_with (first
      | (go_at_call 21; refine ht.mono ?_; rintro e w2 ⟨rfl, q2, rfl⟩)
      | (go_at_call 22; refine (hx _).mono ?_; rintro e w3 ⟨rfl, hb3⟩))
    go_ret2
    exact ⟨rfl, undrew hb3⟩
set_option maxHeartbeats 2000000 in
theorem law_TypeText (A : Option Addr) (n c : Nat) (xs : List Int) (w : World) (hn : n = xs.length) (hc : n ≤ c) (hm : c ≤ maxLen) (hr : R64 xs) (hs : IS w w.heap.size A xs) (hv : MW w) :
    Calls Tryd.prog 3 #[.slice A n c] w (M (.bool true) w) := by
  unfold maxLen at hm
  have HN := Lib.hid hn
  clear hn hr
  by_cases hbig : 1048576 < n
  · clear hv
    go_enter Tryd.func3, Tryd.ntmps3
    go_wp2_with (fail)
    go_ret
    exact ⟨rfl, Below.refl _ _⟩
  have hl : n ≤ 1048576 := by omega
  clear hbig
  have HV := Lib.hid hv
  have h1 := fun A W h => s_TypeText A n n xs W HN.out hl h
  have h2 := fun A W h h' => i_TypeText A n n xs W HN.out hl h h'
  generalize bl (txV xs) = tx at *
  generalize txC xs = cd at *
  clear hv
  have htt : (tx.toList == tx.toList) = true := by simp
  go_enter Tryd.func3, Tryd.ntmps3
  go_wp2_with (fail)
  refine (l_toInt64S A n c xs _ HN.out hl hs).mono ?_
  rintro e w1 ⟨g1, rfl, hN1, b1⟩
  go_wp2_with (fail)
  refine (h1 _ _ hN1.is).mono ?_
  rintro e w2 ⟨rfl, hb2⟩
  have b2 := bel_call b1 hb2
  go_wp2_with (fail)
  refine (l_toInt64S A n c xs _ HN.out hl (hs.call b2)).mono ?_
  rintro e w3 ⟨g3, rfl, hN3, hb3⟩
  have b3 := bel_call b2 hb3
  go_wp2_with (fail)
  refine (h2 _ _ hN3.is (HV.out.below b3)).mono ?_
  rintro e w4 ⟨rfl, hb4⟩
  have b4 := bel_call b3 hb4
  have x4 := hN3.below hb4 hN3.lt
  go_wp2_with (fail)
  refine (l_toInt64S A n c xs _ HN.out hl (hs.call b4)).mono ?_
  rintro e w5 ⟨g5, rfl, hN5, hb5⟩
  have b5 := bel_call b4 hb5
  have x5 := x4.below hb5 x4.lt
  go_wp2_with (fail)
  refine (l_eqInt64S _ _ n _ n _ xs _ _ _ HN.out HN.out (by omega) x5.is hN5.is).mono ?_
  rintro e w6 ⟨rfl, q6, rfl⟩
  go_wp2_with (fail)
  go_ret
  exact ⟨rfl, below_drewN b5 _⟩
end Go.Proofs.YtjfinniebijgbaaDoor
