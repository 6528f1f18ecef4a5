/- Several parts of the proof in one text; each part says what it shows. Nothing is assumed. -/
import Derived.Test.YtglijcdnnaekkaaGreatA116
import Derived.Test.YtglijcdnnaekkaaGreatA92
import Derived.Test.YtglijcdnnaekkaaGreatA142
/- Draws: a name and a type. -/
namespace Go.Proofs.YtglijcdnnaekkaaGreat
set_option linter.unusedVariables false
set_option linter.unusedSimpArgs false
open Go.RowKit

/-- A name and a list of at most six numbers. -/
def NT (w : World) (e : Ending) (w' : World) : Prop := ∃ (nb : ByteArray) (B : Option Addr) (m d : Nat) (xs : List Int), e = .returned (.tuple #[.string nb, .slice B m d]) ∧ m = xs.length ∧ m ≤ 6 ∧ IS w' w'.heap.size B xs ∧ Below w.heap.size w w'
theorem own_nt {w : World} {base n : Nat} {v : Value} {l : List Int} (h : w.ownsRow base 2 1 v n (ints l)) (hn : n = l.length) : ∃ A c, v = .slice A n c ∧ IS w w.heap.size A l := by
  obtain ⟨A, c, rfl, _⟩ := own_slice' h
  exact ⟨A, c, rfl, own_isn h hn⟩
set_option maxRecDepth 10000 in
set_option maxHeartbeats 1000000 in
theorem s_DrawIsSuitable (A : Option Addr) (n c : Nat) (w : World) (hn : n ≤ 4096) (hs : YB w w.heap.size A n) : Calls Tryz.prog 93 #[.slice A n c] w (NT w) := by
  have hf := s_l01From A n c w hn hs
  have hd := fun W h => s_l24DrawName w.heap.size W h
  have hnx := fun W n h1 h => s_nextI w.heap.size n h1 W h
  clear hn hs
  go_enter Tryz.func93, Tryz.ntmps93
  go_wp2_with (fail)
  refine hf.mono ?_
  rintro e w1 ⟨rfl, hs1, hb1⟩
  go_wp2_with (fail)
  refine (hd _ hs1).mono ?_
  rintro e w2 ⟨v, rfl, ⟨nb, rfl⟩, hs2, hu2⟩
  have hb2 : Below w.heap.size w w2 := hb1.trans ((hu2.mono (B' := w.heap.size) hb1.size).below (Nat.le_refl _))
  clear hb1 hu2 hs1
  by_cases hno : NoN nb
  · have hp := fun W => s_l24Points_no nb hno W
    clear hno
    go_wp2_with (fail)
    refine (hp _).mono ?_
    rintro e w3 ⟨rfl, nq, rfl⟩
    go_wp2_with (fail)
    go_ret2
    exact ⟨nb, _, _, _, [2, 1, 1], rfl, rfl, by omega, own_isn (World.ownsRow_lit (base := (w2.drewN nq).heap.size) (w2.drewN nq) #[.int .i64 2, .int .i64 1, .int .i64 1] 3 (Nat.le_refl _) (by simp [maxLen]) rfl) rfl, (below_drewN hb2 nq).alloc hb2.size _⟩
  · have hex : ∃ i, i < 14 ∧ nb.toList = lbN i := by
      apply Classical.byContradiction
      intro h
      exact hno fun i hi e => h ⟨i, hi, e⟩
    obtain ⟨i, hi, hnb⟩ := hex
    have hp := fun W => s_l24Points i hi nb hnb W
    obtain ⟨p1, p2, _⟩ := lb_in i hi
    clear hno hnb hi
    generalize lbP i = p at *
    have hfac := fun W => s_factN p W (by omega)
    have hwith := fun r W h => s_l21With p r W p1 (by omega) h
    have hty := fun B d r W h hi => s_l21Type B p d (wrL p r) W p1 (by omega) (wrL_in (n := p) (r := r) h) hi
    go_wp2_with (fail)
    refine (hp _).mono ?_
    rintro e w3 ⟨rfl, hb3⟩
    have hs3 := hs2.call hb3
    have hb4 := hb2.trans (hb3.mono hb2.size)
    have hpz : ((p : Int) == 0) = false := by rw [beq_eq_false_iff_ne]; omega
    clear hb3 hb2 hs2
    have HP1 := Lib.hid p1
    have HP2 := Lib.hid p2
    clear p1 p2
    go_wp2_with (fail)
    refine (hnx _ 12 (by omega) hs3).mono ?_
    rintro e w4 ⟨r, rfl, hr, hs4, hu4⟩
    have hb5 := hb4.trans ((hu4.mono (B' := w.heap.size) hb4.size).below (Nat.le_refl _))
    clear hu4 hs3 hb4 hr
    by_cases hr0 : r = 0
    · have hz : ((r : Int) == 0) = true := by rw [beq_iff_eq]; omega
      clear hr0
      go_wp2_with (fail)
      go_ret2
      exact ⟨nb, _, _, _, [2, 1, 1], rfl, rfl, by omega, own_isn (World.ownsRow_lit (base := w4.heap.size) w4 #[.int .i64 2, .int .i64 1, .int .i64 1] 3 (Nat.le_refl _) (by simp [maxLen]) rfl) rfl, hb5.alloc hb5.size _⟩
    · have hz : ((r : Int) == 0) = false := by rw [beq_eq_false_iff_ne]; omega
      clear hr0
      go_wp2_with (fail)
      refine (hfac _).mono ?_
      rintro e w5 ⟨rfl, nq, rfl⟩
      go_wp2_with (fail)
      refine (hnx _ (fact p : Nat) (by have := fact_pos p; omega) (hs4.drewN nq)).mono ?_
      rintro e w6 ⟨k, rfl, hk, hs6, hu6⟩
      have hb6 := (below_drewN hb5 nq).trans ((hu6.mono (B' := w.heap.size) hb5.size).below (Nat.le_refl _))
      have hk := Int.ofNat_lt.mp hk
      clear hu6 hs4 hb5
      go_wp2_with (fail)
      refine (hwith k _ hk).mono ?_
      rintro e w7 ⟨v, rfl, ho7, hb7⟩
      obtain ⟨B, d, rfl, hi7⟩ := own_nt ho7 (wrL_in hk).1.symm
      go_wp2_with (fail)
      refine (hty B d k _ hk hi7).mono ?_
      rintro e w8 ⟨v, rfl, ho8, hb8⟩
      obtain ⟨B2, d2, rfl, hi8⟩ := own_nt ho8 (tyS_len _).symm
      go_wp2_with (fail)
      go_ret2
      exact ⟨nb, _, _, _, _, rfl, (tyS_len _).symm, by have h1 := cycL_len (wrL p k); rw [(wrL_in hk).1] at h1; have := HP2.out; omega, hi8, (hb6.trans (hb7.mono hb6.size)).trans (hb8.mono (Nat.le_trans hb6.size hb7.size))⟩
end Go.Proofs.YtglijcdnnaekkaaGreat
/- Texts alike, a text among texts. -/
namespace Go.Proofs.YtglijcdnnaekkaaGreat
set_option linter.unusedVariables false
set_option linter.unusedSimpArgs false
open Go.RowKit

set_option maxHeartbeats 1000000 in
theorem l_likeTexts (A A' : Option Addr) (n c c' : Nat) (bs bs' : List ByteArray) (w : World) (B B' : Nat) (hn : n = bs.length) (hn' : n = bs'.length) (hl : n ≤ 1048576) (hs : IB w B A bs) (hs' : IB w B' A' bs') (he : bs.map (·.toList) = bs'.map (·.toList)) :
    Calls Tryz.prog 45 #[.slice A n c, .slice A' n c'] w (Q (.bool true) w) := by
  have hel : ∀ k, k < n → ((gs bs k).toList == (gs bs' k).toList) = true := fun k hk => by
    have h1 : (bs.map (·.toList))[k]? = (bs'.map (·.toList))[k]? := by rw [he]
    rw [List.getElem?_map, List.getElem?_map, List.getElem?_eq_getElem (by omega), List.getElem?_eq_getElem (by omega)] at h1
    simp at h1
    simp [gs, List.getElem?_eq_getElem (show k < bs.length by omega), List.getElem?_eq_getElem (show k < bs'.length by omega), h1]
  have HN := Lib.hid hn
  have HN' := Lib.hid hn'
  have HEL := Lib.hid hel
  clear hn hn' he hel
  go_enter Tryz.func45, Tryz.ntmps45
  go_wp2_with (fail)
  go_loopw [5] (fun u wr => ∃ k : Nat, k ≤ n ∧ u = .int .i64 k ∧ DR w wr) (fun u _ => n - (intOf u).toNat)
  case atStart => exact ⟨0, Nat.zero_le _, rfl, DR.refl _⟩
  case round =>
    obtain ⟨k, hk, rfl, hdr⟩ := hrel
    by_cases hlt : k < n
    · obtain ⟨b, off, rfl, hbb, hcell⟩ := hs (by rw [← HN.out]; omega)
      obtain ⟨b', off', rfl, hbb', hcell'⟩ := hs' (by rw [← HN'.out]; omega)
      have e1 := (hdr.cell _).trans (hcell k (by rw [← HN.out]; exact hlt))
      have e2 := (hdr.cell _).trans (hcell' k (by rw [← HN'.out]; exact hlt))
      have ht := HEL.out k hlt
      have ht' : ((gs bs k).toList != (gs bs' k).toList) = false := by rw [bne, ht]; rfl
      clear hcell hcell'
      go_wp2_with (go_quiet (fail))
      go_roundw
      case rel => exact ⟨k + 1, by omega, by go_num, by repeat (first | exact hdr | refine DR.step ?_ _)⟩
      case measure => simp [intOf]; omega
    · obtain rfl : k = n := by omega
      go_wp2_with (fail)
      go_ret
      exact ⟨rfl, hdr⟩
set_option maxHeartbeats 1000000 in
theorem l_hasText (A : Option Addr) (n c j : Nat) (bs : List ByteArray) (s : ByteArray) (w : World) (B : Nat) (hn : n = bs.length) (hl : n ≤ 1048576) (hs : IB w B A bs) (hj : j < n) (he : (gs bs j).toList = s.toList) :
    Calls Tryz.prog 46 #[.slice A n c, .string s] w (Q (.bool true) w) := by
  have HN := Lib.hid hn
  have HE := Lib.hid he
  clear hn he
  go_enter Tryz.func46, Tryz.ntmps46
  go_wp2_with (fail)
  go_loopw [5] (fun u wr => ∃ k : Nat, k ≤ j ∧ u = .int .i64 k ∧ DR w wr) (fun u _ => n - (intOf u).toNat)
  case atStart => exact ⟨0, Nat.zero_le _, rfl, DR.refl _⟩
  case round =>
    obtain ⟨k, hk, rfl, hdr⟩ := hrel
    have hlt : k < n := by omega
    obtain ⟨b, off, rfl, hbb, hcell⟩ := hs (by rw [← HN.out]; omega)
    have e1 := (hdr.cell _).trans (hcell k (by rw [← HN.out]; exact hlt))
    clear hcell
    by_cases heq : (gs bs k).toList = s.toList
    · have ht : ((gs bs k).toList == s.toList) = true := by rw [heq]; simp
      clear heq
      go_wp2_with (go_quiet (fail))
      go_ret
      exact ⟨rfl, by repeat (first | exact hdr | refine DR.step ?_ _)⟩
    · have ht : ((gs bs k).toList == s.toList) = false := by rw [beq_eq_false_iff_ne]; exact heq
      have hkj : k ≠ j := fun h => heq (by rw [h]; exact HE.out)
      clear heq
      go_wp2_with (go_quiet (fail))
      go_roundw
      case rel => exact ⟨k + 1, by omega, by go_num, by repeat (first | exact hdr | refine DR.step ?_ _)⟩
      case measure => simp [intOf]; omega
end Go.Proofs.YtglijcdnnaekkaaGreat
/- A permutation is one; its type. -/
namespace Go.Proofs.YtglijcdnnaekkaaGreat
set_option linter.unusedVariables false
set_option linter.unusedSimpArgs false
open Go.RowKit

theorem wr_distinct : ∀ n : Fin 6, ∀ r : Fin 120, r.val < fact n.val → ∀ k : Fin 6, k.val < n.val → ((wrL n r).take k.val).contains (gt (wrL n r) k) = false := by decide +kernel
theorem wr_distinct' {n r : Nat} (hn : n ≤ 5) (hr : r < fact n) {k : Nat} (hk : k < n) : ((wrL n r).take k).contains (gt (wrL n r) k) = false := by
  have h1 : r < 120 := by have h2 : ∀ m : Fin 6, fact m.val ≤ 120 := by decide
                          have := h2 ⟨n, by omega⟩
                          simp at this; omega
  exact wr_distinct ⟨n, by omega⟩ ⟨r, h1⟩ hr ⟨k, by omega⟩ hk
set_option maxRecDepth 10000 in
set_option maxHeartbeats 1000000 in
theorem i_PermutationWith (n r : Nat) (w : World) (hn : 1 ≤ n) (hn6 : n ≤ 6) (hr : r < fact n) :
    Calls Tryz.prog 21 #[.int .i64 n, .int .i64 r] w (fun e w' => ∃ A c, e = .returned (.tuple #[.slice A n c, .int .i64 0]) ∧ n ≤ c ∧ IS w' w'.heap.size A (wrL n r) ∧ Below w.heap.size w w') := by
  have hfac := fun W => i_factN n W hn6
  have hwith := fun W => i_withRank n r W hn hn6 hr
  have hin : inB (n : Int) 1 6 = true := by simp [inB]; omega
  have hin2 : inB (r : Int) 0 ((fact n : Nat) - 1) = true := by simp [inB]; omega
  have hf7 : fact n ≤ 720 := fact_720 hn6
  have hL := (wrL_in hr).1
  generalize fact n = F at *
  go_enter Tryz.func21, Tryz.ntmps21
  go_wp2_with (first
    | (go_at_call 77; refine (hfac _).mono ?_; rintro e w1 ⟨rfl, nq, rfl⟩)
    | (go_at_call 76; refine (i_within _ _ _ _).mono ?_; rintro e w1 ⟨rfl, nq, rfl⟩; first | rw [hin] | rw [hin2])
    | (go_at_call 78; refine (hwith _).mono ?_; rintro e w2 ⟨v, rfl, ho, hb⟩; obtain ⟨B, d, rfl, hd⟩ := own_slice' ho))
  go_ret2
  exact ⟨_, _, rfl, hd, own_isn ho hL.symm, (below_drewN (Below.refl _ _) _).trans hb⟩
end Go.Proofs.YtglijcdnnaekkaaGreat
