/- TypesOf: sorting as a whole, both sides, and the law. -/
import Derived.Test.YtglijcdnnaekkaaGreatA163
import Derived.Test.YtglijcdnnaekkaaGreatA176
namespace Go.Proofs.YtglijcdnnaekkaaGreat
set_option linter.unusedVariables false
set_option linter.unusedSimpArgs false
open Go.RowKit

theorem c_len1 (w : World) : Calls Tryz.prog 151 #[.int .u64 1] w (fun e w' => ∃ v : Int, e = .returned (.int .i64 v) ∧ ∃ m, w' = w.drewN m) := by
  go_enter Tryz.func151, Tryz.ntmps151
  go_wp2_with (go_at_call 190; go_in)
  go_ret
  exact ⟨_, rfl, 0, rfl⟩
theorem c_len2 (w : World) : Calls Tryz.prog 151 #[.int .u64 2] w (fun e w' => ∃ v : Int, e = .returned (.int .i64 v) ∧ ∃ m, w' = w.drewN m) := by
  go_enter Tryz.func151, Tryz.ntmps151
  go_wp2_with (go_at_call 190; go_in)
  go_ret
  exact ⟨_, rfl, 0, rfl⟩
theorem c_len3 (w : World) : Calls Tryz.prog 151 #[.int .u64 3] w (fun e w' => ∃ v : Int, e = .returned (.int .i64 v) ∧ ∃ m, w' = w.drewN m) := by
  go_enter Tryz.func151, Tryz.ntmps151
  go_wp2_with (go_at_call 190; go_in)
  go_ret
  exact ⟨_, rfl, 0, rfl⟩
theorem c_len4 (w : World) : Calls Tryz.prog 151 #[.int .u64 4] w (fun e w' => ∃ v : Int, e = .returned (.int .i64 v) ∧ ∃ m, w' = w.drewN m) := by
  go_enter Tryz.func151, Tryz.ntmps151
  go_wp2_with (go_at_call 190; go_in)
  go_ret
  exact ⟨_, rfl, 0, rfl⟩
theorem c_len5 (w : World) : Calls Tryz.prog 151 #[.int .u64 5] w (fun e w' => ∃ v : Int, e = .returned (.int .i64 v) ∧ ∃ m, w' = w.drewN m) := by
  go_enter Tryz.func151, Tryz.ntmps151
  go_wp2_with (go_at_call 190; go_in)
  go_ret
  exact ⟨_, rfl, 0, rfl⟩
theorem c_len6 (w : World) : Calls Tryz.prog 151 #[.int .u64 6] w (fun e w' => ∃ v : Int, e = .returned (.int .i64 v) ∧ ∃ m, w' = w.drewN m) := by
  go_enter Tryz.func151, Tryz.ntmps151
  go_wp2_with (go_at_call 190; go_in)
  go_ret
  exact ⟨_, rfl, 0, rfl⟩
theorem c_len7 (w : World) : Calls Tryz.prog 151 #[.int .u64 7] w (fun e w' => ∃ v : Int, e = .returned (.int .i64 v) ∧ ∃ m, w' = w.drewN m) := by
  go_enter Tryz.func151, Tryz.ntmps151
  go_wp2_with (go_at_call 190; go_in)
  go_ret
  exact ⟨_, rfl, 0, rfl⟩
theorem c_len8 (w : World) : Calls Tryz.prog 151 #[.int .u64 8] w (fun e w' => ∃ v : Int, e = .returned (.int .i64 v) ∧ ∃ m, w' = w.drewN m) := by
  go_enter Tryz.func151, Tryz.ntmps151
  go_wp2_with (go_at_call 190; go_in)
  go_ret
  exact ⟨_, rfl, 0, rfl⟩
theorem c_len9 (w : World) : Calls Tryz.prog 151 #[.int .u64 9] w (fun e w' => ∃ v : Int, e = .returned (.int .i64 v) ∧ ∃ m, w' = w.drewN m) := by
  go_enter Tryz.func151, Tryz.ntmps151
  go_wp2_with (go_at_call 190; go_in)
  go_ret
  exact ⟨_, rfl, 0, rfl⟩
theorem c_len10 (w : World) : Calls Tryz.prog 151 #[.int .u64 10] w (fun e w' => ∃ v : Int, e = .returned (.int .i64 v) ∧ ∃ m, w' = w.drewN m) := by
  go_enter Tryz.func151, Tryz.ntmps151
  go_wp2_with (go_at_call 190; go_in)
  go_ret
  exact ⟨_, rfl, 0, rfl⟩
theorem c_len11 (w : World) : Calls Tryz.prog 151 #[.int .u64 11] w (fun e w' => ∃ v : Int, e = .returned (.int .i64 v) ∧ ∃ m, w' = w.drewN m) := by
  go_enter Tryz.func151, Tryz.ntmps151
  go_wp2_with (go_at_call 190; go_in)
  go_ret
  exact ⟨_, rfl, 0, rfl⟩
theorem c_len12 (w : World) : Calls Tryz.prog 151 #[.int .u64 12] w (fun e w' => ∃ v : Int, e = .returned (.int .i64 v) ∧ ∃ m, w' = w.drewN m) := by
  go_enter Tryz.func151, Tryz.ntmps151
  go_wp2_with (go_at_call 190; go_in)
  go_ret
  exact ⟨_, rfl, 0, rfl⟩
theorem c_len (n : Nat) (h1 : 1 ≤ n) (h : n ≤ 12) (w : World) : Calls Tryz.prog 151 #[.int .u64 n] w (fun e w' => ∃ v : Int, e = .returned (.int .i64 v) ∧ ∃ m, w' = w.drewN m) := by
  have : n = 1 ∨ n = 2 ∨ n = 3 ∨ n = 4 ∨ n = 5 ∨ n = 6 ∨ n = 7 ∨ n = 8 ∨ n = 9 ∨ n = 10 ∨ n = 11 ∨ n = 12 := by omega
  rcases this with rfl | rfl | rfl | rfl | rfl | rfl | rfl | rfl | rfl | rfl | rfl | rfl
  · exact c_len1 w
  · exact c_len2 w
  · exact c_len3 w
  · exact c_len4 w
  · exact c_len5 w
  · exact c_len6 w
  · exact c_len7 w
  · exact c_len8 w
  · exact c_len9 w
  · exact c_len10 w
  · exact c_len11 w
  · exact c_len12 w
def SRT (g n c base : Nat) (ll : List (List Int)) (w : World) (e : Ending) (w' : World) : Prop := e = .returned (.tuple #[]) ∧ ∃ vs', w'.ownsRow base 24 1 (.slice (some ⟨g, 0, none⟩) n c) n vs' ∧ RowsO w' base vs' (srt ll n) ∧ w.grownBy w' (some g)
set_option maxHeartbeats 1000000 in
theorem c_pdq (g n c base : Nat) (lim : Int) (vs : List Value) (ll : List (List Int)) (w : World) (hn : n = ll.length) (h1 : 1 ≤ n) (hl : n ≤ 12) (hrow : ∀ k, k < n → (gl ll k).length ≤ 6) (ho : w.ownsRow base 24 1 (.slice (some ⟨g, 0, none⟩) n c) n vs) (hr : RowsO w base vs ll) :
    Calls Tryz.prog 150 #[.slice (some ⟨g, 0, none⟩) n c, .int .i64 0, .int .i64 n, .int .i64 lim, .func (.func 83) #[] #[]] w (SRT g n c base ll w) := by
  have hins := c_insSort g n c base vs ll w hn h1 hl hrow ho hr
  have h12 : (n : Int) ≤ 12 := by omega
  clear hn hrow ho hr
  go_enter Tryz.func150, Tryz.ntmps150
  go_wp2_with (fail)
  go_loopw [1, 2] (fun u1 u2 wr => u1 = .int .i64 0 ∧ u2 = .int .i64 n ∧ wr = w) (fun _ _ _ => 0)
  case atStart => exact ⟨rfl, rfl, rfl⟩
  case round =>
    obtain ⟨rfl, rfl, rfl⟩ := hrel
    go_wp2_with (go_at_call 181; refine hins.mono ?_; rintro e w2 ⟨rfl, vs2, ho2, hr2, hg2⟩)
    first
      | go_end0
      | refine bodyPost_ret (results_none rfl _ _ _) rfl ?_
    exact ⟨rfl, vs2, ho2, hr2, hg2⟩
set_option maxHeartbeats 1000000 in
theorem c_sortFn (g n c base : Nat) (vs : List Value) (ll : List (List Int)) (w : World) (hn : n = ll.length) (h1 : 1 ≤ n) (hl : n ≤ 12) (hrow : ∀ k, k < n → (gl ll k).length ≤ 6) (ho : w.ownsRow base 24 1 (.slice (some ⟨g, 0, none⟩) n c) n vs) (hr : RowsO w base vs ll) :
    Calls Tryz.prog 82 #[.slice (some ⟨g, 0, none⟩) n c, .func (.func 83) #[] #[]] w (SRT g n c base ll w) := by
  have hp := fun lim m => c_pdq g n c base lim vs ll (w.drewN m) hn h1 hl hrow ho hr
  have hlen := fun W => c_len n h1 hl W
  have hw1 : IntKind.u64.wrap (n : Int) = (n : Int) := by first | exact IntWalk.u64_in _ (by omega) (by omega) | (unfold IntKind.wrap; simp [IntKind.bits, IntKind.signed]; omega)
  clear hn hrow ho hr
  go_enter Tryz.func82, Tryz.ntmps82
  go_wp2_with (first
    | (go_at_call 151; refine (hlen _).mono ?_; rintro e w2 ⟨v, rfl, m, rfl⟩)
    | (go_at_call 150; refine (hp _ _).mono ?_; rintro e w3 ⟨rfl, vs2, ho2, hr2, hg2⟩))
  first
    | go_end0
    | refine bodyPost_ret (results_none rfl _ _ _) rfl ?_
  exact ⟨rfl, vs2, ho2, hr2, undrewG hg2⟩
def cntF : Nat → Nat → Nat → Nat
  | 0, _, _ => 0
  | f + 1, k, n => if n = 0 then 1 else if k ≤ n then cntF f k (n - k) + cntF f (k + 1) n else 0
theorem ty_cnt : ∀ f n k, n + (n + 1 - k) ≤ f → 1 ≤ k → (tyL k n).length = cntF (f + 1) k n
  | 0, n, k, h, hk => by
    obtain rfl : n = 0 := by omega
    rw [tyL_zero]; rfl
  | f + 1, n, k, h, hk => by
    unfold cntF
    by_cases h0 : n = 0
    · subst h0; rw [tyL_zero]; rfl
    · rw [if_neg h0]
      by_cases h1 : k ≤ n
      · rw [if_pos h1, tyL_step hk h1, List.length_append, List.length_map, ty_cnt f (n - k) k (by omega) hk, ty_cnt f n (k + 1) (by omega) (by omega)]
      · rw [if_neg h1, tyL_end (by omega) (by omega)]; rfl
theorem ty_len {n : Nat} (h1 : 1 ≤ n) (h : n ≤ 6) : 1 ≤ (tyL 1 n).length ∧ (tyL 1 n).length ≤ 12 := by
  rw [ty_cnt 13 n 1 (by omega) (Nat.le_refl _)]
  have : n = 1 ∨ n = 2 ∨ n = 3 ∨ n = 4 ∨ n = 5 ∨ n = 6 := by omega
  rcases this with rfl | rfl | rfl | rfl | rfl | rfl <;> decide
theorem ty_rows {n : Nat} (h : n ≤ 6) : ∀ k, k < (tyL 1 n).length → (gl (tyL 1 n) k).length ≤ 6 := fun k hk => by
  have := tyL_row (n + (n + 1 - 1)) n 1 (Nat.le_refl _) (Nat.le_refl _) _ (gl_mem hk)
  omega
/-- All types of n points, in order. -/
def toT (n : Int) : List (List Int) := if inB n 1 6 then srt (tyL 1 n.toNat) (tyL 1 n.toNat).length else []
def toC (n : Int) : Int := if inB n 1 6 then 0 else 2
theorem toT_small (n : Int) : (toT n).length ≤ 12 ∧ ∀ k, k < (toT n).length → (gl (toT n) k).length ≤ 6 := by
  unfold toT
  cases h : inB n 1 6
  · exact ⟨by simp, fun k hk => by simp at hk⟩
  · obtain ⟨b1, b2⟩ := inB_true h
    obtain ⟨h1, h2⟩ := ty_len (n := n.toNat) (by omega) (by omega)
    simp only [if_true]
    rw [srt_len]
    exact ⟨h2, fun k hk => srt_row (ty_rows (by omega)) _ (Nat.le_refl _) k hk⟩
set_option maxHeartbeats 1000000 in
theorem i_TypesOf (n : Int) (w : World) : Calls Tryz.prog 28 #[.int .i64 n] w (RLS (toT n) (toC n) w) := by
  cases h : inB n 1 6
  · have e1 : toT n = [] := by unfold toT; rw [h]; rfl
    have e2 : toC n = 2 := by unfold toC; rw [h]; rfl
    rw [e1, e2]
    go_enter Tryz.func28, Tryz.ntmps28
    go_wp2_with (go_at_call 76; refine (i_within _ _ _ _).mono ?_; rintro e w' ⟨rfl, nq, rfl⟩; rw [h])
    go_ret2
    exact rls_none _ _ _ (below_drewN (Below.refl _ _) _)
  · obtain ⟨b1, b2⟩ := inB_true h
    obtain ⟨m, rfl⟩ : ∃ m : Nat, n = m := ⟨n.toNat, by omega⟩
    have e1 : toT m = srt (tyL 1 m) (tyL 1 m).length := by unfold toT; rw [h, Int.toNat_natCast]; rfl
    have e2 : toC m = 0 := by unfold toC; rw [h]; rfl
    obtain ⟨h1, h2⟩ := ty_len (n := m) (by omega) (by omega)
    have hrow := ty_rows (n := m) (by omega)
    have hty : ∀ W : World, Calls Tryz.prog 81 #[.int .i64 m, .int .i64 1] W (fun e w' => ∃ v, e = .returned v ∧ OwnII w' W.heap.size v (tyL 1 m) ∧ Below W.heap.size W w') := fun W => i_typesOf 6 m 1 W (by omega) (by omega) (by omega) (by omega)
    rw [e1, e2]
    generalize tyL 1 m = ll at *
    generalize hL : ll.length = L at *
    have hso := fun g c base vs W ho hr => c_sortFn g L c base vs ll W hL.symm h1 h2 hrow ho hr
    have HL := Lib.hid hL
    have HSL := Lib.hid (srt_len ll L)
    clear hL hrow e1 e2
    go_enter Tryz.func28, Tryz.ntmps28
    go_wp2_with (first
      | (go_at_call 76; refine (i_within _ _ _ _).mono ?_; rintro e w' ⟨rfl, nq, rfl⟩; rw [h])
      | (go_at_call 81; refine (hty _).mono ?_; rintro e w2 ⟨v, rfl, ⟨vs, ho, hr⟩, hb2⟩; rw [HL.out] at ho; obtain ⟨A, c, rfl, _⟩ := own_slice' ho; obtain ⟨g, rfl, hg1, hg2, _⟩ := own_src ho (by omega))
      | (go_at_call 82; refine (hso g c _ vs _ ho hr).mono ?_; rintro e w3 ⟨rfl, vs3, ho3, hr3, hg3⟩))
    go_ret2
    have hb3 : Below w.heap.size w w3 := (below_undrew' hb2).grown hg3 (below_undrew' hb2).size (fun x hx => by injection hx with hx; rw [← hx]; exact hg1)
    exact ⟨_, L, _, vs3, HSL.out.symm, rfl, ho3, hr3, hb3⟩
/-- A table that is only read, and a code. -/
def RLI (ll : List (List Int)) (code : Int) (w : World) (e : Ending) (w' : World) : Prop :=
  ∃ A m c, m = ll.length ∧ e = .returned (.tuple #[.slice A m c, .int .i64 code]) ∧ II w' w'.heap.size A ll ∧ Below w.heap.size w w'
set_option maxHeartbeats 1000000 in
theorem s_TypesOf (n : Int) (w : World) : Calls Tryz.prog 29 #[.int .i64 n] w (RLI (toT n) (toC n) w) := by
  cases h : inB n 1 6
  · have e1 : toT n = [] := by unfold toT; rw [h]; rfl
    have e2 : toC n = 2 := by unfold toC; rw [h]; rfl
    rw [e1, e2]
    go_enter Tryz.func29, Tryz.ntmps29
    go_wp2_with (go_at_call 64; refine (s_l01In _ _ _ _).mono ?_; rintro e w' ⟨rfl, nq, rfl⟩; rw [h])
    go_ret2
    exact ⟨none, 0, 0, rfl, rfl, fun h => by simp at h, below_drewN (Below.refl _ _) _⟩
  · obtain ⟨b1, b2⟩ := inB_true h
    obtain ⟨m, rfl⟩ : ∃ m : Nat, n = m := ⟨n.toNat, by omega⟩
    have e1 : toT m = srt (tyL 1 m) (tyL 1 m).length := by unfold toT; rw [h, Int.toNat_natCast]; rfl
    have e2 : toC m = 0 := by unfold toC; rw [h]; rfl
    obtain ⟨h1, h2⟩ := ty_len (n := m) (by omega) (by omega)
    have hrow := ty_rows (n := m) (by omega)
    have hty : ∀ W : World, Calls Tryz.prog 84 #[.int .i64 m, .int .i64 1] W (fun e w' => ∃ v, e = .returned v ∧ OwnII w' W.heap.size v (tyL 1 m) ∧ Below W.heap.size W w') := fun W => s_l25Types 6 m 1 W (by omega) (by omega) (by omega) (by omega)
    rw [e1, e2]
    refine (s_sortTypes (tyL 1 m) (tyL 1 m).length m w rfl (by omega) (by omega) (by omega) (by omega) hty hrow).mono ?_
    rintro e w' ⟨A, c, rfl, hii, hb⟩
    exact ⟨A, _, c, (srt_len _ _).symm, rfl, hii, hb⟩
end Go.Proofs.YtglijcdnnaekkaaGreat
