/- Draws: a name and a type. -/
import Derived.Test.YtkiglhaeiomohaaGreatA116
import Derived.Test.YtkiglhaeiomohaaGreatA92
namespace Go.Proofs.YtkiglhaeiomohaaGreat
set_option linter.unusedVariables false
set_option linter.unusedSimpArgs false
open Go.RowKit

/-- A name and a list of at most six numbers. -/
def NT (w : World) (e : Ending) (w' : World) : Prop := ∃ (nb : ByteArray) (B : Option Addr) (m d : Nat) (xs : List Int), e = .returned (.tuple #[.string nb, .slice B m d]) ∧ m = xs.length ∧ m ≤ 6 ∧ IS w' w'.heap.size B xs ∧ Below w.heap.size w w'
theorem own_nt {w : World} {base n : Nat} {v : Value} {l : List Int} (h : w.ownsRow base 2 1 v n (ints l)) (hn : n = l.length) : ∃ A c, v = .slice A n c ∧ IS w w.heap.size A l := by
  obtain ⟨A, c, rfl, _⟩ := own_slice' h
  exact ⟨A, c, rfl, own_isn h hn⟩
set_option maxRecDepth 10000 in
set_option maxHeartbeats 1000000 in
theorem s_DrawIsSuitable (A : Option Addr) (n c : Nat) (w : World) (hn : n ≤ 4096) (hs : YB w w.heap.size A n) : Calls Tryz.prog 11 #[.slice A n c] w (NT w) := by
  have hf := s_l01From A n c w hn hs
  have hd := fun W h => s_l24DrawName w.heap.size W h
  have hnx := fun W n h1 h => s_nextI w.heap.size n h1 W h
  clear hn hs
  go_enter Tryz.func11, Tryz.ntmps11
  go_wp2_with (fail)
  refine hf.mono ?_
  rintro e w1 ⟨rfl, hs1, hb1⟩
  go_wp2_with (fail)
  refine (hd _ hs1).mono ?_
  rintro e w2 ⟨v, rfl, ⟨nb, rfl⟩, hs2, hu2⟩
  have hb2 : Below w.heap.size w w2 := hb1.trans ((hu2.mono (B' := w.heap.size) hb1.size).below (Nat.le_refl _))
  clear hb1 hu2 hs1
  by_cases hno : NoN nb
  · have hp := fun W => s_l24Points_no nb hno W
    clear hno
    go_wp2_with (fail)
    refine (hp _).mono ?_
    rintro e w3 ⟨rfl, nq, rfl⟩
    go_wp2_with (fail)
    go_ret2
    exact ⟨nb, _, _, _, [2, 1, 1], rfl, rfl, by omega, own_isn (World.ownsRow_lit (base := (w2.drewN nq).heap.size) (w2.drewN nq) #[.int .i64 2, .int .i64 1, .int .i64 1] 3 (Nat.le_refl _) (by simp [maxLen]) rfl) rfl, (below_drewN hb2 nq).alloc hb2.size _⟩
  · have hex : ∃ i, i < 14 ∧ nb.toList = lbN i := by
      apply Classical.byContradiction
      intro h
      exact hno fun i hi e => h ⟨i, hi, e⟩
    obtain ⟨i, hi, hnb⟩ := hex
    have hp := fun W => s_l24Points i hi nb hnb W
    obtain ⟨p1, p2, _⟩ := lb_in i hi
    clear hno hnb hi
    generalize lbP i = p at *
    have hfac := fun W => s_factN p W (by omega)
    have hwith := fun r W h => s_l21With p r W p1 (by omega) h
    have hty := fun B d r W h hi => s_l21Type B p d (wrL p r) W p1 (by omega) (wrL_in (n := p) (r := r) h) hi
    go_wp2_with (fail)
    refine (hp _).mono ?_
    rintro e w3 ⟨rfl, hb3⟩
    have hs3 := hs2.call hb3
    have hb4 := hb2.trans (hb3.mono hb2.size)
    have hpz : ((p : Int) == 0) = false := by rw [beq_eq_false_iff_ne]; omega
    clear hb3 hb2 hs2
    have HP1 := Lib.hid p1
    have HP2 := Lib.hid p2
    clear p1 p2
    go_wp2_with (fail)
    refine (hnx _ 12 (by omega) hs3).mono ?_
    rintro e w4 ⟨r, rfl, hr, hs4, hu4⟩
    have hb5 := hb4.trans ((hu4.mono (B' := w.heap.size) hb4.size).below (Nat.le_refl _))
    clear hu4 hs3 hb4 hr
    by_cases hr0 : r = 0
    · have hz : ((r : Int) == 0) = true := by rw [beq_iff_eq]; omega
      clear hr0
      go_wp2_with (fail)
      go_ret2
      exact ⟨nb, _, _, _, [2, 1, 1], rfl, rfl, by omega, own_isn (World.ownsRow_lit (base := w4.heap.size) w4 #[.int .i64 2, .int .i64 1, .int .i64 1] 3 (Nat.le_refl _) (by simp [maxLen]) rfl) rfl, hb5.alloc hb5.size _⟩
    · have hz : ((r : Int) == 0) = false := by rw [beq_eq_false_iff_ne]; omega
      clear hr0
      go_wp2_with (fail)
      refine (hfac _).mono ?_
      rintro e w5 ⟨rfl, nq, rfl⟩
      go_wp2_with (fail)
      refine (hnx _ (fact p : Nat) (by have := fact_pos p; omega) (hs4.drewN nq)).mono ?_
      rintro e w6 ⟨k, rfl, hk, hs6, hu6⟩
      have hb6 := (below_drewN hb5 nq).trans ((hu6.mono (B' := w.heap.size) hb5.size).below (Nat.le_refl _))
      have hk := Int.ofNat_lt.mp hk
      clear hu6 hs4 hb5
      go_wp2_with (fail)
      refine (hwith k _ hk).mono ?_
      rintro e w7 ⟨v, rfl, ho7, hb7⟩
      obtain ⟨B, d, rfl, hi7⟩ := own_nt ho7 (wrL_in hk).1.symm
      go_wp2_with (fail)
      refine (hty B d k _ hk hi7).mono ?_
      rintro e w8 ⟨v, rfl, ho8, hb8⟩
      obtain ⟨B2, d2, rfl, hi8⟩ := own_nt ho8 (tyS_len _).symm
      go_wp2_with (fail)
      go_ret2
      exact ⟨nb, _, _, _, _, rfl, (tyS_len _).symm, by have h1 := cycL_len (wrL p k); rw [(wrL_in hk).1] at h1; have := HP2.out; omega, hi8, (hb6.trans (hb7.mono hb6.size)).trans (hb8.mono (Nat.le_trans hb6.size hb7.size))⟩
end Go.Proofs.YtkiglhaeiomohaaGreat
