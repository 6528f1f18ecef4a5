/- Draws of type texts; what is written is read and what is read is written. -/
import Derived.Test.YtjfinniebijgbaaDoorA324
import Derived.Test.YtjfinniebijgbaaDoorA319
import Derived.Test.YtjfinniebijgbaaDoorA322
namespace Go.Proofs.YtjfinniebijgbaaDoor
set_option linter.unusedVariables false
set_option linter.unusedSimpArgs false
open Go.RowKit
open Go.Lib hiding intOf

set_option maxHeartbeats 1000000 in
theorem s_DrawTypeText (A : Option Addr) (n c : Nat) (w : World) (hn : n ≤ 4096) (hs : YB w w.heap.size A n) : Calls Tryd.prog 18 #[.slice A n c] w (LCD w) := by
  have hf := s_l01From A n c w hn hs
  have hd := fun W h => s_l25Draw w.heap.size W h
  clear hn hs
  go_enter Tryd.func18, Tryd.ntmps18
  go_wp2_with (fail)
  refine hf.mono ?_
  rintro e w1 ⟨rfl, hs1, hb1⟩
  go_wp2_with (fail)
  refine (hd _ hs1).mono ?_
  rintro e w2 ⟨A2, L, c2, l, rfl, hL, hl, _, hi, hs2, hu2⟩
  have HL := Lib.hid hL
  clear hL
  go_wp2_with (fail)
  go_ret
  exact ⟨A2, L, c2, l, rfl, HL.out, hl, hi.is, hb1.trans ((hu2.mono (B' := w.heap.size) hb1.size).below (Nat.le_refl _))⟩
/-- A drawn text. -/
def TCD (w : World) (e : Ending) (w' : World) : Prop := ∃ r : ByteArray, e = .returned (.string r) ∧ r.size ≤ 2001 ∧ Below w.heap.size w w'
set_option maxRecDepth 20000 in
set_option maxHeartbeats 2000000 in
theorem s_DrawReadType (A : Option Addr) (n c : Nat) (w : World) (hn : n ≤ 4096) (hs : YB w w.heap.size A n) : Calls Tryd.prog 19 #[.slice A n c] w (TCD w) := by
  have hf := s_l01From A n c w hn hs
  have hva := fun W h => s_l21Valid w.heap.size W h
  have hnx := fun W h => s_nextI w.heap.size 3 (by omega) W h
  have hdm := fun t W h ht => s_damage w.heap.size t W h ht
  clear hn hs
  go_enter Tryd.func19, Tryd.ntmps19
  go_wp2_with (fail)
  refine hf.mono ?_
  rintro e w1 ⟨rfl, hs1, hb1⟩
  go_wp2_with (fail)
  refine (hva _ hs1).mono ?_
  rintro e w2 ⟨m, r, c2, A2, h1, h6, hr, rfl, ho2, hs2, hu2⟩
  have hin := wrL_in hr
  have hty := s_l21Type A2 m c2 (wrL m r) w2 h1 h6 hin (own_isn ho2 hin.1.symm)
  have hdg := tyS_dg (a := wrL m r) (by rw [hin.1]; exact h6)
  have htl := tyS_len (wrL m r)
  clear ho2 hin hr h1 h6 hva hs1
  generalize tyS (wrL m r) = ty at *
  generalize (cycL (wrL m r)).length = T at *
  have HTL := Lib.hid htl.symm
  have HDG := Lib.hid hdg
  have hjs := jn_dig hdg
  have hj := fun A c W h => s_l01JoinD A T c ty W HTL.out HDG.out h
  clear htl hdg
  generalize bl (jn 46 (itx ty)) = tx at *
  have htx : tx.size ≤ 1000 := by omega
  go_wp2_with (fail)
  refine hty.mono ?_
  rintro e w3 ⟨v, rfl, ho3, hb3⟩
  obtain ⟨A3, c3, rfl, _⟩ := own_slice' ho3
  go_wp2_with (fail)
  refine (hj _ _ _ (own_isn ho3 HTL.out)).mono ?_
  rintro e w4 ⟨rfl, hb4⟩
  have hs4 : SRC w4 w.heap.size := (hs2.call hb3).call hb4
  have hu4 : Up w.heap.size w1.heap.size w1 w4 := (hu2.thenB hb3).thenB hb4
  clear hty hj ho3
  go_wp2_with (fail)
  refine (hnx _ hs4).mono ?_
  rintro e w5 ⟨k, rfl, hk, hs5, hu5⟩
  have u5 := hu4.call hu5
  have b5 : Below w.heap.size w w5 := hb1.trans ((u5.mono (B' := w.heap.size) hb1.size).below (Nat.le_refl _))
  cases hk0 : ((k : Int) == 0)
  · go_wp2_with (fail)
    go_ret
    exact ⟨_, rfl, by omega, b5⟩
  · have hdm := hdm tx w5 hs5 htx
    go_wp2_with (fail)
    refine hdm.mono ?_
    rintro e w6 ⟨r6, rfl, hr6, hs6, hu6⟩
    have u6 := u5.call hu6
    have b6 : Below w.heap.size w w6 := hb1.trans ((u6.mono (B' := w.heap.size) hb1.size).below (Nat.le_refl _))
    go_wp2_with (fail)
    go_ret
    exact ⟨_, rfl, hr6, b6⟩
theorem rt_back {l : List UInt8} (h : rtyC l = 0) : txC (rtyL l) = 0 ∧ txV (rtyL l) = l := by
  unfold rtyC at h
  cases hb : rtyB l
  · rw [hb] at h; simp at h
  · have hb2 := hb
    unfold rtyB at hb2
    rw [Bool.and_eq_true, beq_iff_eq] at hb2
    unfold rtyL txC txV
    rw [hb, if_pos rfl, hb2.1]
    exact ⟨rfl, hb2.2⟩
theorem tx_back {xs : List Int} (h : txC xs = 0) : rtyC (txV xs) = 0 ∧ rtyL (txV xs) = xs := by
  unfold txC at h
  cases hb : typeB xs
  · rw [hb] at h; simp at h
  · have ht := typeB_p hb
    have hne : itx xs ≠ [] := fun e => by
      have := congrArg List.length e
      rw [itx_len, List.length_nil] at this
      have := ht.len.1
      omega
    have hv : txV xs = jn 46 (itx xs) := by unfold txV; rw [hb]; rfl
    have hs : spl 46 (jn 46 (itx xs)) = itx xs := spl_jn hne (fun l' hl x hx => ((itx_one ht l' hl).2 x hx).2)
    have hc : cyR (jn 46 (itx xs)) = xs := by
      rw [cy_ou (by rw [hs]; exact (itx_sg ht).1)]
      unfold ouS
      rw [hs]
      exact (itx_sg ht).2
    have hr : rtyB (jn 46 (itx xs)) = true := by
      unfold rtyB
      rw [hc, hb]
      simp
    rw [hv]
    unfold rtyC rtyL
    rw [hr]
    exact ⟨rfl, hc⟩
theorem tx_small (xs : List Int) : (txV xs).length ≤ 14 := by
  unfold txV
  cases hb : typeB xs
  · simp
  · rw [if_pos rfl]
    have ht := typeB_p hb
    have h1 := jn_len 46 (itx xs) (fun l hl => by rw [(itx_one ht l hl).1]; omega)
    rw [itx_len] at h1
    have := ht.len.2
    omega
end Go.Proofs.YtjfinniebijgbaaDoor
