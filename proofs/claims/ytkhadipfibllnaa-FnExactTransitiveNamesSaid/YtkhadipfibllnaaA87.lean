/- Walks: impl.namesWith, TransitiveNames, the law. -/
import Derived.Test.YtkhadipfibllnaaA86
import Derived.Test.YtkhadipfibllnaaA81
namespace Go.Proofs.Ytkhadipfibllnaa
set_option linter.unusedVariables false
set_option linter.unusedSimpArgs false
open Go.RowKit

set_option maxRecDepth 10000 in
set_option maxHeartbeats 2000000 in
theorem i_namesAll (n : Int) (w : World) : Calls Try.prog 50 #[.int .i64 n, .func (.func 51) #[] #[]] w (OS (nmK n 14) w) := by
  obtain ⟨i0, hi, hz0, hz1, hz2⟩ := info_parts infoStr
  go_enter Try.func50, Try.ntmps50
  go_wp2_with (go_at_call 94; refine (i_library _).mono ?_; rintro e w1 ⟨b, rfl, hlib, hb1⟩)
  have hz1' := hb1.size
  go_loopw [5, 10] (fun u3 u5 wr => ∃ k m : Nat, k ≤ 14 ∧ m ≤ k ∧ u5 = .int .i64 k ∧ OwnS wr w1.heap.size u3 m ((nmK n k).map lbN) ∧ Hid (m = (nmK n k).length) ∧ Below w1.heap.size w1 wr) (fun _ u5 _ => 14 - (intOf u5).toNat)
  case atStart => exact ⟨0, 0, Nat.zero_le _, Nat.le_refl _, rfl, ⟨[], World.ownsRow_nil _ _ _ _, rfl⟩, rfl, Below.refl _ _⟩
  case round =>
    obtain ⟨ws, rfl⟩ : ∃ ws : World, ws = wr := ⟨_, rfl⟩
    obtain ⟨k, m, hk, hm, rfl, ⟨bs, hown, hbs⟩, HM, hb⟩ := hrel
    obtain ⟨A1, c1, rfl, _⟩ := own_slice' hown
    have hsz := hb.size
    by_cases hlt : k < 14
    · obtain ⟨nb, A, c, hn, e0, e1, e2, hii⟩ := (hlib.below hb).2 k hlt
      have HBS := Lib.hid hbs
      have HN := Lib.hid hn
      clear hbs hn hii
      generalize (lbG k).length = G at *
      by_cases hpn : (lbP k : Int) = n
      · have hy := nmK_yes hpn
        have ht : ((lbP k : Int) == n) = true := by rw [beq_iff_eq]; exact hpn
        have HY := Lib.hid hy
        clear hy hpn
        generalize lbP k = pk at *
        obtain ⟨d0, d1, d2⟩ := BK.tri (BK.new ws 62 #[.string nb, .int .i64 (pk : Int), .slice A G c])
        go_wp2_with (first
          | (at_builtin; refine wpList_append_src rfl (.tmp 23) (.tmp 26) 22 rfl w1.heap.size 9 i0 (.string ⟨#[]⟩) 1 16 Try.underlying22 hi hz0 hz1 hz2 rfl (by omega) (.slice A1 m c1) m (strs bs) rfl (World.ownsRow.alloc (World.ownsRow.alloc (World.ownsRow.alloc hown (.cells #[.string nb, .int .i64 (pk : Int), .slice A G c] 62)) (.cells #[.string nb, .int .i64 (pk : Int), .slice A G c] 62)) _) (some ⟨ws.heap.size + 1 + 1, 0, none⟩) 1 1 [.string nb] rfl rfl (by have h := one_src ((ws.alloc (.cells #[.string nb, .int .i64 (pk : Int), .slice A G c] 62)).alloc (.cells #[.string nb, .int .i64 (pk : Int), .slice A G c] 62)) (.string nb) 9; rw [World.size_alloc, World.size_alloc] at h; exact h) (by intro h; cases h) (by intro u hu; simp at hu; subst hu; rfl) (by simp only [maxLen]; omega) (by omega) (by simp; omega) ?_; intro v5 w5 hown5 hg5 hat5)
          | go_in)
        go_roundw
        case rel =>
          refine ⟨k + 1, m + 1, by omega, by omega, by go_num, ⟨bs ++ [nb], by simpa [strs] using hown5, ?_⟩, ?_, ?_⟩
          · rw [HY.out, List.map_append, List.map_append, HBS.out]; simp [HN.out]
          · unfold Hid; rw [HY.out, List.length_append, HM.out]; rfl
          · exact (((hb.alloc hsz _).alloc (by simp; omega) _).alloc (by simp; omega) _).grown hg5 (by simp; omega) (fun g hg => (hown.lt g hg).1)
        case measure => simp [intOf]; omega
      · have hy := nmK_no hpn
        have ht : ((lbP k : Int) == n) = false := by rw [beq_eq_false_iff_ne]; exact hpn
        have HY := Lib.hid hy
        clear hy hpn
        generalize lbP k = pk at *
        obtain ⟨d0, d1, d2⟩ := BK.tri (BK.new ws 62 #[.string nb, .int .i64 (pk : Int), .slice A G c])
        go_wp2_with (go_in)
        go_roundw
        case rel => exact ⟨k + 1, m, by omega, by omega, by go_num, ⟨bs, World.ownsRow.alloc hown _, by rw [HY.out]; exact HBS.out⟩, by unfold Hid; rw [HY.out]; exact HM.out, hb.alloc hsz _⟩
        case measure => simp [intOf]; omega
    · obtain rfl : k = 14 := by omega
      go_wp2_with (fail)
      go_ret
      exact ⟨_, rfl, ⟨bs, by rw [← HM.out]; exact own_mono hown hz1', hbs⟩, bel_call hb1 hb⟩
def tnL (n : Int) : List Nat := if inB n 1 5 then nmK n 14 else []
def tnC (n : Int) : Int := if inB n 1 5 then 0 else 2
def OSC (is : List Nat) (c : Int) (w : World) (e : Ending) (w' : World) : Prop := ∃ A cap, e = .returned (.tuple #[.slice A is.length cap, .int .i64 c]) ∧ OwnS w' w.heap.size (.slice A is.length cap) is.length (is.map lbN) ∧ Below w.heap.size w w'
set_option maxHeartbeats 1000000 in
theorem s_TransitiveNames (n : Int) (w : World) : Calls Try.prog 13 #[.int .i64 n] w (OSC (tnL n) (tnC n) w) := by
  cases h : inB n 1 5
  · have HL : Hid (tnL n = []) := by unfold Hid tnL; rw [h]; rfl
    have HC : Hid (tnC n = 2) := by unfold Hid tnC; rw [h]; rfl
    go_enter Try.func13, Try.ntmps13
    go_wp2_with (go_at_call 47; refine (s_l01In _ _ _ _).mono ?_; rintro e w' ⟨rfl, nq, rfl⟩; rw [h])
    go_ret2
    rw [HL.out, HC.out]
    exact ⟨_, _, rfl, ⟨[], World.ownsRow_nil _ _ _ _, rfl⟩, below_drewN (Below.refl _ _) _⟩
  · have HL : Hid (tnL n = nmK n 14) := by unfold Hid tnL; rw [h]; rfl
    have HC : Hid (tnC n = 0) := by unfold Hid tnC; rw [h]; rfl
    have hnl : ∀ W, Calls Try.prog 48 #[.int .i64 n] W (OS (nmK n 14) W) := fun W => s_l24List n W
    generalize nmK n 14 = is at *
    generalize hm : is.length = m at *
    have HM := Lib.hid hm
    have hnl : ∀ W, Calls Try.prog 48 #[.int .i64 n] W (fun e w' => ∃ A cap, e = .returned (.slice A m cap) ∧ OwnS w' W.heap.size (.slice A m cap) m (is.map lbN) ∧ Below W.heap.size W w') := fun W => (hnl W).mono fun e w' ⟨v, e1, ⟨bs, e2, e3⟩, e4⟩ => by
      rw [hm] at e2
      obtain ⟨A, c, rfl, _⟩ := own_slice' e2
      exact ⟨A, c, e1, ⟨bs, e2, e3⟩, e4⟩
    clear hm
    go_enter Try.func13, Try.ntmps13
    go_wp2_with (first | (go_at_call 47; refine (s_l01In _ _ _ _).mono ?_; rintro e w' ⟨rfl, nq, rfl⟩; rw [h]) | (go_at_call 48; refine (hnl _).mono ?_; rintro e w2 ⟨A, cap, rfl, ho, hb⟩))
    go_ret2
    rw [HL.out, HC.out]
    unfold OSC
    rw [HM.out]
    exact ⟨_, _, rfl, ho, bel_call (below_drewN (Below.refl _ _) _) hb⟩
set_option maxHeartbeats 1000000 in
theorem i_TransitiveNames (n : Int) (w : World) : Calls Try.prog 14 #[.int .i64 n] w (OSC (tnL n) (tnC n) w) := by
  cases h : inB n 1 5
  · have HL : Hid (tnL n = []) := by unfold Hid tnL; rw [h]; rfl
    have HC : Hid (tnC n = 2) := by unfold Hid tnC; rw [h]; rfl
    go_enter Try.func14, Try.ntmps14
    go_wp2_with (first | (go_at_call 89; refine (i_within _ _ _ _).mono ?_; rintro e w' ⟨rfl, nq, rfl⟩; rw [h]) | (go_at_call 49; go_in))
    go_ret2
    rw [HL.out, HC.out]
    exact ⟨_, _, rfl, ⟨[], World.ownsRow_nil _ _ _ _, rfl⟩, below_drewN (Below.refl _ _) _⟩
  · have HL : Hid (tnL n = nmK n 14) := by unfold Hid tnL; rw [h]; rfl
    have HC : Hid (tnC n = 0) := by unfold Hid tnC; rw [h]; rfl
    have hnl : ∀ W, Calls Try.prog 50 #[.int .i64 n, .func (.func 51) #[] #[]] W (OS (nmK n 14) W) := fun W => i_namesAll n W
    generalize nmK n 14 = is at *
    generalize hm : is.length = m at *
    have HM := Lib.hid hm
    have hnl : ∀ W, Calls Try.prog 50 #[.int .i64 n, .func (.func 51) #[] #[]] W (fun e w' => ∃ A cap, e = .returned (.slice A m cap) ∧ OwnS w' W.heap.size (.slice A m cap) m (is.map lbN) ∧ Below W.heap.size W w') := fun W => (hnl W).mono fun e w' ⟨v, e1, ⟨bs, e2, e3⟩, e4⟩ => by
      rw [hm] at e2
      obtain ⟨A, c, rfl, _⟩ := own_slice' e2
      exact ⟨A, c, e1, ⟨bs, e2, e3⟩, e4⟩
    clear hm
    go_enter Try.func14, Try.ntmps14
    go_wp2_with (first | (first | (go_at_call 89; refine (i_within _ _ _ _).mono ?_; rintro e w' ⟨rfl, nq, rfl⟩; rw [h]) | (go_at_call 49; go_in)) | (go_at_call 50; refine (hnl _).mono ?_; rintro e w2 ⟨A, cap, rfl, ho, hb⟩))
    go_ret2
    rw [HL.out, HC.out]
    unfold OSC
    rw [HM.out]
    exact ⟨_, _, rfl, ho, bel_call (below_drewN (Below.refl _ _) _) hb⟩
end Go.Proofs.Ytkhadipfibllnaa
