/- RationalRoots: both sides whole. -/
import Derived.Test.YtglijcdnnaekkaaA302
import Derived.Test.YtglijcdnnaekkaaA298
namespace Go.Proofs.Ytglijcdnnaekkaa
set_option linter.unusedVariables false
set_option linter.unusedSimpArgs false
open Go.RowKit

noncomputable def rtL (xs : List Int) : List (Int × Int) := if smallPB xs then srtQ (rrD (prR xs) 60 60) else []
theorem small_all {xs : List Int} (h : smallPB xs = true) : polyB xs = true ∧ (∀ k, k < xs.length → -60 ≤ gt xs k ∧ gt xs k ≤ 60) ∧ xs.getLast? = some (gt xs (xs.length - 1)) ∧ gt xs (xs.length - 1) ≠ 0 := by
  have hl := smallPB_len h
  unfold smallPB at h
  rw [Bool.and_eq_true, Bool.and_eq_true] at h
  obtain ⟨h1, h2, _⟩ := h
  refine ⟨h2, fun k hk => inB_true (allB_p h1 k hk), ?_, ?_⟩
  · rw [List.getLast?_eq_getElem?]
    simp [gt, List.getElem?_eq_getElem (show xs.length - 1 < xs.length by omega)]
  · unfold polyB at h2
    rw [Bool.and_eq_true, Bool.and_eq_true, Bool.or_eq_true] at h2
    rcases h2.2.2 with h | h
    · have := of_decide_eq_true h; omega
    · unfold lastI at h
      simpa using h
theorem rtL_len (xs : List Int) : (rtL xs).length ≤ 4 := by
  unfold rtL
  split
  · rename_i h
    obtain ⟨_, _, h3, h4⟩ := small_all h
    have hl := smallPB_len h
    have := rr_len (P := prR xs) h3 h4 (fun n d hp => prR_p hp) 60 60
    rw [srtQ_len]
    omega
  · simp
theorem rr_part {P : Int → Int → Bool} {f : List Int} {z : Int} (hz : f.getLast? = some z) (hz0 : z ≠ 0) (h : ∀ n d : Int, P n d = true → Int.gcd n d = 1 ∧ hvL n d f = 0) (hl : f.length ≤ 5) (B D i : Nat) : (rrD P B D ++ rrN P ((D : Int) + 1) (-(B : Int)) i).length ≤ 1000 := by
  have h1 := rr_len hz hz0 h B D
  have h2 : ∀ i, (rrN P ((D : Int) + 1) (-(B : Int)) i).length ≤ 4 := fun i => by
    have h3 := rr_len hz hz0 h (B + i) (D + 1)
    rw [rrD, List.length_append] at h3
    have h4 : (rrN P ((D : Int) + 1) (-((B + i : Nat) : Int)) (2 * (B + i) + 1)) = rrN P ((D : Int) + 1) (-((B + i : Nat) : Int)) i ++ (rrN P ((D : Int) + 1) (-(B : Int)) i ++ rrN P ((D : Int) + 1) (-(B : Int) + (i : Int)) (2 * B + 1)) := by
      rw [show 2 * (B + i) + 1 = i + (i + (2 * B + 1)) by omega, rrN_add, rrN_add]
      rw [show -((B + i : Nat) : Int) + (i : Int) = -(B : Int) by omega]
    rw [h4, List.length_append, List.length_append] at h3
    omega
  have := h2 i
  rw [List.length_append]
  omega
def QRS (l : List (Int × Int)) (c : Int) (w : World) (e : Ending) (w' : World) : Prop :=
  ∃ A cap, e = .returned (.tuple #[.slice A l.length cap, .int .i64 c]) ∧ w'.ownsRow w.heap.size 46 2 (.slice A l.length cap) l.length (rC l) ∧ Below w.heap.size w w'
theorem c_insSort0 (A : Option Addr) (c : Nat) (w : World) : Calls Try.prog 143 #[.slice A 0 c, .int .i64 0, .int .i64 0, .func (.func 71) #[] #[]] w (fun e w' => e = .returned (.tuple #[]) ∧ ∃ q, w' = w.drewN q) := by
  go_enter Try.func143, Try.ntmps143
  go_wp2_with (fail)
  go_loopw [8] (fun u8 wr => u8 = .int .i64 1 ∧ wr = w) (fun _ _ => 0)
  case atStart => exact ⟨rfl, rfl⟩
  case round =>
    obtain ⟨rfl, rfl⟩ := hrel
    go_wp2_with (fail)
    go_end0
    exact ⟨rfl, 0, rfl⟩
theorem c_pdq0 (A : Option Addr) (c : Nat) (lim : Int) (w : World) : Calls Try.prog 118 #[.slice A 0 c, .int .i64 0, .int .i64 0, .int .i64 lim, .func (.func 71) #[] #[]] w (fun e w' => e = .returned (.tuple #[]) ∧ ∃ q, w' = w.drewN q) := by
  have hins := fun W => c_insSort0 A c W
  go_enter Try.func118, Try.ntmps118
  go_wp2_with (fail)
  go_loopw [1, 2] (fun u1 u2 wr => u1 = .int .i64 0 ∧ u2 = .int .i64 0 ∧ wr = w) (fun _ _ _ => 0)
  case atStart => exact ⟨rfl, rfl, rfl⟩
  case round =>
    obtain ⟨rfl, rfl, rfl⟩ := hrel
    go_wp2_with (go_at_call 143; refine (hins _).mono ?_; rintro e w2 ⟨rfl, q2, rfl⟩)
    first
      | go_end0
      | refine bodyPost_ret (results_none rfl _ _ _) rfl ?_
    exact ⟨rfl, q2, rfl⟩
set_option maxRecDepth 100000 in
theorem c_len0 (w : World) : Calls Try.prog 119 #[.int .u64 0] w (fun e w' => ∃ v : Int, e = .returned (.int .i64 v) ∧ ∃ m, w' = w.drewN m) := by
  go_enter Try.func119, Try.ntmps119
  go_wp2_with (go_at_call 152; go_in)
  go_ret
  exact ⟨_, rfl, 0, rfl⟩
theorem c_sortFn0 (A : Option Addr) (c : Nat) (w : World) : Calls Try.prog 70 #[.slice A 0 c, .func (.func 71) #[] #[]] w (fun e w' => e = .returned (.tuple #[]) ∧ ∃ q, w' = w.drewN q) := by
  have hp := fun lim W => c_pdq0 A c lim W
  have hlen := fun W => c_len0 W
  go_enter Try.func70, Try.ntmps70
  go_wp2_with (first
    | (go_at_call 119; refine (hlen _).mono ?_; rintro e w2 ⟨v, rfl, m, rfl⟩)
    | (go_at_call 118; refine (hp _ _).mono ?_; rintro e w3 ⟨rfl, q3, rfl⟩))
  first
    | go_end0
    | refine bodyPost_ret (results_none rfl _ _ _) rfl ?_
  exact ⟨rfl, _, rfl⟩
theorem i_rats (A : Option Addr) (m c : Nat) (f : List Int) (w : World) (hm : m = f.length) (hsm : smallPB f = true) (hs : IS w w.heap.size A f) :
    Calls Try.prog 32 #[.slice A m c] w (fun e w' => ∃ v, e = .returned v ∧ w'.ownsRow w.heap.size 46 2 v (rrD (prR f) 60 60).length (rC (srtQ (rrD (prR f) 60 60))) ∧ Below w.heap.size w w') := by
  obtain ⟨_, hf, hz, hz0⟩ := small_all hsm
  have hl := smallPB_len hsm
  refine i_rootsLoop A m c f w _ rfl hm (by omega) (by omega) hf (fun D i => rr_part hz hz0 (fun n d hp => prR_p hp) hl.2 60 D i) hs ?_
  intro v W ho hb
  have hlen := rr_len (P := prR f) hz hz0 (fun n d hp => prR_p hp) 60 60
  have hbd := prR_bd (f := f) (B := 60) (D := 0) (k := 60) (by omega) (by omega)
  generalize rrD (prR f) 60 60 = l at *
  obtain ⟨A', c', rfl, _⟩ := own_slice' ho
  by_cases h0 : l.length = 0
  · have hnil : l = [] := List.eq_nil_of_length_eq_zero h0
    subst hnil
    refine (c_sortFn0 A' c' W).mono ?_
    rintro e w' ⟨rfl, q, rfl⟩
    exact ⟨rfl, own_dr ho q, below_drewN hb q⟩
  · obtain ⟨g, rfl, hg, _⟩ := own_src ho (by omega)
    refine (c_sortFnQ g l.length c' w.heap.size l W rfl (by omega) (by omega) hbd ho).mono ?_
    rintro e w' ⟨rfl, ho', hg'⟩
    exact ⟨rfl, ho', hb.grown hg' hb.size (fun g' hg2 => by injection hg2 with hg2; subst hg2; exact (ho.lt g rfl).1)⟩
theorem s_ratsAll (A : Option Addr) (m c : Nat) (f : List Int) (w : World) (hm : m = f.length) (hsm : smallPB f = true) (hs : IS w w.heap.size A f) :
    Calls Try.prog 30 #[.slice A m c] w (fun e w' => ∃ v, e = .returned v ∧ w'.ownsRow w.heap.size 46 2 v (rrD (prR f) 60 60).length (rC (srtQ (rrD (prR f) 60 60))) ∧ Below w.heap.size w w') := by
  obtain ⟨_, hf, hz, hz0⟩ := small_all hsm
  have hl := smallPB_len hsm
  have hlow := lowC_ne hz hz0
  obtain ⟨k, hk, hk1, _⟩ := lowC_at f hlow
  have hb := hf k hk
  have hb2 := hf (f.length - 1) (by omega)
  have hbl : (lowC f).natAbs ≤ 60 := by rw [← hk1]; omega
  have e := prR_same hz hz0 hlow (by omega) hbl
  rw [e]
  refine (s_rats A m c f w hm (by omega) (by omega) hf hlow hbl (fun D i => rr_part hz hz0 (fun n d hp => prR_p hp) hl.2 _ D i) hs).mono ?_
  rintro e2 w' ⟨g, m', c3, rfl, rfl, ho, hb⟩
  exact ⟨_, rfl, ho, hb⟩
set_option maxHeartbeats 1000000 in
theorem i_RationalRoots (A : Option Addr) (n c : Nat) (xs : List Int) (w : World) (hn : n = xs.length) (hl : n ≤ 1048576) (hc : n ≤ c) (hm : c ≤ maxLen) (hs : IS w w.heap.size A xs) :
    Calls Try.prog 9 #[.slice A n c] w (QRS (rtL xs) (rtC xs) w) := by
  have hb0 := (Below.refl w.heap.size w).alloc (Nat.le_refl _) (.cells #[.slice A n c] 22)
  have hcode := i_codeS w.heap.size 1 xs (w.alloc (.cells #[.slice A n c] 22)) (by omega) (ii_one hn hc hm hs)
  have hs0 := hs.call hb0
  cases hp : smallPB xs
  · have e1 : rtL xs = [] := by unfold rtL; rw [hp]; rfl
    have e2 : (rtC xs == 0) = false := by unfold rtC; rw [hp]; cases polyB xs <;> rfl
    have e3 : (rtC xs != 0) = true := by unfold bne; rw [e2]; rfl
    rw [e1]
    generalize rtC xs = cd at *
    clear hp hs hs0 hn e1
    go_enter Try.func9, Try.ntmps9
    go_wp2_with (go_at_call 31; refine hcode.mono ?_; rintro e w2 ⟨rfl, hb2⟩)
    go_ret2
    exact ⟨none, 0, rfl, World.ownsRow_nil _ _ _ _, bel_call hb0 hb2⟩
  · have e2 : rtC xs = 0 := by unfold rtC; rw [hp, (small_all hp).1]; rfl
    have e1 : rtL xs = srtQ (rrD (prR xs) 60 60) := by unfold rtL; rw [hp]; rfl
    have hr := fun W h => i_rats A n c xs W hn hp h
    have e4 : (rrD (prR xs) 60 60).length = (srtQ (rrD (prR xs) 60 60)).length := (srtQ_len _).symm
    rw [e4] at hr
    rw [e2] at hcode
    rw [e1, e2]
    generalize srtQ (rrD (prR xs) 60 60) = l at *
    clear hp hs hn e1 e2 e4
    go_enter Try.func9, Try.ntmps9
    go_wp2_with (first
      | (go_at_call 31; refine hcode.mono ?_; rintro e w2 ⟨rfl, hb2⟩)
      | (go_at_call 32; refine (hr _ (hs0.call hb2)).mono ?_; rintro e w3 ⟨v, rfl, o3, hb3⟩; obtain ⟨A3, c3, rfl, _⟩ := own_slice' o3))
    have hz : w.heap.size ≤ w2.heap.size := (bel_call hb0 hb2).size
    go_ret2
    exact ⟨A3, c3, rfl, own_mono o3 hz, bel_call (bel_call hb0 hb2) hb3⟩
set_option maxHeartbeats 1000000 in
theorem s_RationalRoots (A : Option Addr) (n c : Nat) (xs : List Int) (w : World) (hn : n = xs.length) (hl : n ≤ 1048576) (hc : n ≤ c) (hm : c ≤ maxLen) (hs : IS w w.heap.size A xs) :
    Calls Try.prog 7 #[.slice A n c] w (QRS (rtL xs) (rtC xs) w) := by
  have hb0 := (Below.refl w.heap.size w).alloc (Nat.le_refl _) (.cells #[.slice A n c] 22)
  have hcode := s_codeS w.heap.size 1 xs (w.alloc (.cells #[.slice A n c] 22)) (by omega) (ii_one hn hc hm hs)
  have hs0 := hs.call hb0
  cases hp : smallPB xs
  · have e1 : rtL xs = [] := by unfold rtL; rw [hp]; rfl
    have e2 : (rtC xs == 0) = false := by unfold rtC; rw [hp]; cases polyB xs <;> rfl
    have e3 : (rtC xs != 0) = true := by unfold bne; rw [e2]; rfl
    rw [e1]
    generalize rtC xs = cd at *
    clear hp hs hs0 hn e1
    go_enter Try.func7, Try.ntmps7
    go_wp2_with (go_at_call 29; refine hcode.mono ?_; rintro e w2 ⟨rfl, hb2⟩)
    go_ret2
    exact ⟨none, 0, rfl, World.ownsRow_nil _ _ _ _, bel_call hb0 hb2⟩
  · have e2 : rtC xs = 0 := by unfold rtC; rw [hp, (small_all hp).1]; rfl
    have e1 : rtL xs = srtQ (rrD (prR xs) 60 60) := by unfold rtL; rw [hp]; rfl
    have hr := fun W h => s_ratsAll A n c xs W hn hp h
    have e4 : (rrD (prR xs) 60 60).length = (srtQ (rrD (prR xs) 60 60)).length := (srtQ_len _).symm
    rw [e4] at hr
    rw [e2] at hcode
    rw [e1, e2]
    generalize srtQ (rrD (prR xs) 60 60) = l at *
    clear hp hs hn e1 e2 e4
    go_enter Try.func7, Try.ntmps7
    go_wp2_with (first
      | (go_at_call 29; refine hcode.mono ?_; rintro e w2 ⟨rfl, hb2⟩)
      | (go_at_call 30; refine (hr _ (hs0.call hb2)).mono ?_; rintro e w3 ⟨v, rfl, o3, hb3⟩; obtain ⟨A3, c3, rfl, _⟩ := own_slice' o3))
    have hz : w.heap.size ≤ w2.heap.size := (bel_call hb0 hb2).size
    go_ret2
    exact ⟨A3, c3, rfl, own_mono o3 hz, bel_call (bel_call hb0 hb2) hb3⟩
end Go.Proofs.Ytglijcdnnaekkaa
