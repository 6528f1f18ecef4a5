/- RationalRoots: the codes of both sides, for a list of one. -/
import Derived.Test.YtglijcdnnaekkaaA266
import Derived.Test.YtglijcdnnaekkaaA13
namespace Go.Proofs.Ytglijcdnnaekkaa
set_option linter.unusedVariables false
set_option linter.unusedSimpArgs false
open Go.RowKit

theorem ii_one {w : World} {A : Option Addr} {n c : Nat} {xs : List Int} (hn : n = xs.length) (hc : n ≤ c) (hm : c ≤ maxLen) (hs : IS w w.heap.size A xs) : II (w.alloc (.cells #[.slice A n c] 22)) (w.alloc (.cells #[.slice A n c] 22)).heap.size (some ⟨w.heap.size, 0, none⟩) [xs] := fun _ => by
  refine ⟨w.heap.size, 0, rfl, by simp, fun k hk => ?_⟩
  obtain rfl : k = 0 := by simpa using hk
  have hb := (Below.refl w.heap.size w).alloc (Nat.le_refl _) (.cells #[.slice A n c] 22)
  refine ⟨A, c, ?_, by rw [show gl [xs] 0 = xs from rfl, ← hn]; exact hc, hm, hs.call hb⟩
  have h := (BK.new w 22 #[.slice A n c]).cell 0
  rw [Nat.zero_add, show gl [xs] 0 = xs from rfl, ← hn]
  exact h
theorem i_small1 (A : Option Addr) (n c : Nat) (xs : List Int) (w : World) (hn : n = xs.length) (hl : n ≤ 1048576) (hs : IS w w.heap.size A xs) :
    Calls Try.prog 64 #[.slice A n c] w (M (.bool (!polyB xs)) w) := by
  have hp := fun W h => i_IsPolynomial A n c xs W w.heap.size hn hl h
  clear hn
  generalize polyB xs = b at *
  go_enter Try.func64, Try.ntmps64
  go_wp2_with (go_at_call 65; refine (hp _ hs).mono ?_; rintro e w' ⟨rfl, nq, rfl⟩)
  go_ret
  exact ⟨rfl, below_drewN (Below.refl _ _) _⟩
theorem i_small2 (A : Option Addr) (n c : Nat) (xs : List Int) (w : World) (hn : n = xs.length) (hl : n ≤ 1048576) (hs : IS w w.heap.size A xs) :
    Calls Try.prog 66 #[.slice A n c] w (M (.bool (!smallPB xs)) w) := by
  have hp := fun W h => i_IsSmall A n c xs W w.heap.size hn hl h
  clear hn
  generalize smallPB xs = b at *
  go_enter Try.func66, Try.ntmps66
  go_wp2_with (go_at_call 67; refine (hp _ hs).mono ?_; rintro e w' ⟨rfl, nq, rfl⟩)
  go_ret
  exact ⟨rfl, below_drewN (Below.refl _ _) _⟩
set_option maxHeartbeats 1000000 in
theorem i_idxS1 (A : Option Addr) (L c n : Nat) (ll : List (List Int)) (w : World) (B : Nat) (hL : L = ll.length) (hl : L ≤ 1048576) (hB : B ≤ w.heap.size) (hs : II w B A ll) (hrm : ∀ k, k < L → (gl ll k).length ≤ 1048576) :
    Calls Try.prog 112 #[.slice A L c, .func (.func 64) #[] #[]] w (fun e w' => ∃ k : Int, e = .returned (.int .i64 k) ∧ decide (0 ≤ k) = (ll.any fun a => !polyB a) ∧ Below w.heap.size w w') := by
  have HL := Lib.hid hL
  clear hL
  go_enter Try.func112, Try.ntmps112
  go_wp2_with (fail)
  go_loopw [8] (fun u8 wr => ∃ k : Nat, k ≤ L ∧ u8 = .int .i64 k ∧ Hid (∀ j, j < k → (fun a : List Int => !polyB a) (gl ll j) = false) ∧ Below w.heap.size w wr) (fun u8 _ => L - (intOf u8).toNat)
  case atStart => exact ⟨0, Nat.zero_le _, rfl, fun j hj => by omega, Below.refl _ _⟩
  case round =>
    obtain ⟨ws, rfl⟩ : ∃ ws : World, ws = wr := ⟨_, rfl⟩
    obtain ⟨k, hk, rfl, HI, hb⟩ := hrel
    have hsz := hb.size
    by_cases hlt : k < L
    · obtain ⟨b, off, rfl, hbb, hcell⟩ := hs.at (k := k) (by rw [← HL.out]; exact hlt)
      obtain ⟨A', c', e1, _, _, his⟩ := hcell k (by rw [← HL.out]; exact hlt)
      have e1 := (hb.cell (p := ⟨b, off + k, none⟩) (by show b < _; omega)).trans e1
      have his := (his.below (hb.mono hB)).more (show B ≤ ws.heap.size by omega)
      have hml := hrm k hlt; have hp := fun W hW => i_small1 A' (gl ll k).length c' (gl ll k) W rfl hml (IS.call his hW)
      clear hcell
      by_cases hneg : (fun a : List Int => !polyB a) (gl ll k) = true
      · have hany : (ll.any fun a => !polyB a) = true := by
          rw [List.any_eq_true]
          exact ⟨gl ll k, gl_mem (by rw [← HL.out]; exact hlt), hneg⟩
        have HANY := Lib.hid hany
        have hneg : (fun a : List Int => !polyB a) (gl ll k) = true := hneg
        simp only [hneg] at hp
        clear hany his hs
        go_wp2_with (first | (go_at_call 64; refine (hp _ (Below.refl _ _)).mono ?_; rintro e w2 ⟨rfl, hb2⟩) | go_in)
        go_ret
        exact ⟨k, rfl, by rw [HANY.out]; simp, hb.trans (hb2.mono hsz)⟩
      · have hneg : (fun a : List Int => !polyB a) (gl ll k) = false := by rw [Bool.eq_false_iff]; exact hneg
        simp only [hneg] at hp
        have hn' : ∀ j, j < k + 1 → (fun a : List Int => !polyB a) (gl ll j) = false := fun j hj => by
          by_cases hjk : j = k
          · subst hjk; exact hneg
          · exact HI.out j (by omega)
        have HN' := Lib.hid hn'
        clear hn' his hs
        go_wp2_with (first | (go_at_call 64; refine (hp _ (Below.refl _ _)).mono ?_; rintro e w2 ⟨rfl, hb2⟩) | go_in)
        go_roundw
        case rel => exact ⟨k + 1, by omega, by go_num, HN'.out, hb.trans (hb2.mono hsz)⟩
        case measure => simp [intOf]; omega
    · obtain rfl : k = L := by omega
      have hany : (ll.any fun a => !polyB a) = false := by
        rw [List.any_eq_false]
        intro a ha
        obtain ⟨j, hj, rfl⟩ := mem_gl.1 ha
        have h9 := HI.out j (by rw [HL.out]; exact hj)
        exact Bool.eq_false_iff.1 h9
      have HANY := Lib.hid hany
      clear hany
      go_wp2_with (fail)
      go_ret
      exact ⟨-1, rfl, by rw [HANY.out]; simp, hb⟩
theorem i_idxS1C (A : Option Addr) (L c n : Nat) (ll : List (List Int)) (w : World) (B : Nat) (hL : L = ll.length) (hl : L ≤ 1048576) (hB : B ≤ w.heap.size) (hs : II w B A ll) (hrm : ∀ k, k < L → (gl ll k).length ≤ 1048576) :
    Calls Try.prog 63 #[.slice A L c, .func (.func 64) #[] #[]] w (M (.bool (ll.any fun a => !polyB a)) w) := c_contains A L c _ _ w (i_idxS1 A L c n ll w B hL hl hB hs hrm)
set_option maxHeartbeats 1000000 in
theorem i_idxS2 (A : Option Addr) (L c n : Nat) (ll : List (List Int)) (w : World) (B : Nat) (hL : L = ll.length) (hl : L ≤ 1048576) (hB : B ≤ w.heap.size) (hs : II w B A ll) (hrm : ∀ k, k < L → (gl ll k).length ≤ 1048576) :
    Calls Try.prog 112 #[.slice A L c, .func (.func 66) #[] #[]] w (fun e w' => ∃ k : Int, e = .returned (.int .i64 k) ∧ decide (0 ≤ k) = (ll.any fun a => !smallPB a) ∧ Below w.heap.size w w') := by
  have HL := Lib.hid hL
  clear hL
  go_enter Try.func112, Try.ntmps112
  go_wp2_with (fail)
  go_loopw [8] (fun u8 wr => ∃ k : Nat, k ≤ L ∧ u8 = .int .i64 k ∧ Hid (∀ j, j < k → (fun a : List Int => !smallPB a) (gl ll j) = false) ∧ Below w.heap.size w wr) (fun u8 _ => L - (intOf u8).toNat)
  case atStart => exact ⟨0, Nat.zero_le _, rfl, fun j hj => by omega, Below.refl _ _⟩
  case round =>
    obtain ⟨ws, rfl⟩ : ∃ ws : World, ws = wr := ⟨_, rfl⟩
    obtain ⟨k, hk, rfl, HI, hb⟩ := hrel
    have hsz := hb.size
    by_cases hlt : k < L
    · obtain ⟨b, off, rfl, hbb, hcell⟩ := hs.at (k := k) (by rw [← HL.out]; exact hlt)
      obtain ⟨A', c', e1, _, _, his⟩ := hcell k (by rw [← HL.out]; exact hlt)
      have e1 := (hb.cell (p := ⟨b, off + k, none⟩) (by show b < _; omega)).trans e1
      have his := (his.below (hb.mono hB)).more (show B ≤ ws.heap.size by omega)
      have hml := hrm k hlt; have hp := fun W hW => i_small2 A' (gl ll k).length c' (gl ll k) W rfl hml (IS.call his hW)
      clear hcell
      by_cases hneg : (fun a : List Int => !smallPB a) (gl ll k) = true
      · have hany : (ll.any fun a => !smallPB a) = true := by
          rw [List.any_eq_true]
          exact ⟨gl ll k, gl_mem (by rw [← HL.out]; exact hlt), hneg⟩
        have HANY := Lib.hid hany
        have hneg : (fun a : List Int => !smallPB a) (gl ll k) = true := hneg
        simp only [hneg] at hp
        clear hany his hs
        go_wp2_with (first | (go_at_call 66; refine (hp _ (Below.refl _ _)).mono ?_; rintro e w2 ⟨rfl, hb2⟩) | go_in)
        go_ret
        exact ⟨k, rfl, by rw [HANY.out]; simp, hb.trans (hb2.mono hsz)⟩
      · have hneg : (fun a : List Int => !smallPB a) (gl ll k) = false := by rw [Bool.eq_false_iff]; exact hneg
        simp only [hneg] at hp
        have hn' : ∀ j, j < k + 1 → (fun a : List Int => !smallPB a) (gl ll j) = false := fun j hj => by
          by_cases hjk : j = k
          · subst hjk; exact hneg
          · exact HI.out j (by omega)
        have HN' := Lib.hid hn'
        clear hn' his hs
        go_wp2_with (first | (go_at_call 66; refine (hp _ (Below.refl _ _)).mono ?_; rintro e w2 ⟨rfl, hb2⟩) | go_in)
        go_roundw
        case rel => exact ⟨k + 1, by omega, by go_num, HN'.out, hb.trans (hb2.mono hsz)⟩
        case measure => simp [intOf]; omega
    · obtain rfl : k = L := by omega
      have hany : (ll.any fun a => !smallPB a) = false := by
        rw [List.any_eq_false]
        intro a ha
        obtain ⟨j, hj, rfl⟩ := mem_gl.1 ha
        have h9 := HI.out j (by rw [HL.out]; exact hj)
        exact Bool.eq_false_iff.1 h9
      have HANY := Lib.hid hany
      clear hany
      go_wp2_with (fail)
      go_ret
      exact ⟨-1, rfl, by rw [HANY.out]; simp, hb⟩
theorem i_idxS2C (A : Option Addr) (L c n : Nat) (ll : List (List Int)) (w : World) (B : Nat) (hL : L = ll.length) (hl : L ≤ 1048576) (hB : B ≤ w.heap.size) (hs : II w B A ll) (hrm : ∀ k, k < L → (gl ll k).length ≤ 1048576) :
    Calls Try.prog 63 #[.slice A L c, .func (.func 66) #[] #[]] w (M (.bool (ll.any fun a => !smallPB a)) w) := c_contains A L c _ _ w (i_idxS2 A L c n ll w B hL hl hB hs hrm)
noncomputable def rtC (xs : List Int) : Int := if polyB xs then (if smallPB xs then 0 else 2) else 1
theorem i_codeS (g c : Nat) (xs : List Int) (w : World) (hl : xs.length ≤ 1048576) (hs : II w w.heap.size (some ⟨g, 0, none⟩) [xs]) :
    Calls Try.prog 31 #[.slice (some ⟨g, 0, none⟩) 1 c] w (M (.int .i64 (rtC xs)) w) := by
  have hrm : ∀ k, k < 1 → (gl [xs] k).length ≤ 1048576 := fun k hk => by
    obtain rfl : k = 0 := by omega
    exact hl
  have c1 := fun W B hB h => i_idxS1C (some ⟨g, 0, none⟩) 1 c 0 [xs] W B rfl (by omega) hB h hrm
  have c2 := fun W B hB h => i_idxS2C (some ⟨g, 0, none⟩) 1 c 0 [xs] W B rfl (by omega) hB h hrm
  simp only [List.any_cons, List.any_nil, Bool.or_false] at c1 c2
  unfold rtC
  clear hrm hl
  cases h1 : polyB xs <;> cases h2 : smallPB xs
  all_goals
    rw [h1] at c1
    rw [h2] at c2
    clear h1 h2
    go_enter Try.func31, Try.ntmps31
    go_wp2_with (first
      | (have q9 := hb2; go_at_call 63; refine (c2 _ _ hb2.size (hs.below hb2)).mono ?_; rintro e w3 ⟨rfl, hb3⟩)
      | (go_at_call 63; refine (c1 _ _ (Nat.le_refl _) hs).mono ?_; rintro e w2 ⟨rfl, hb2⟩))
    go_ret
    first
      | exact ⟨rfl, hb2⟩
      | exact ⟨rfl, bel_call hb2 hb3⟩
set_option maxHeartbeats 1000000 in
theorem s_code_falsefalse (g c : Nat) (A : Option Addr) (n ca : Nat) (w : World) (h1 : w.cell? ⟨g, 0 + 0, none⟩ = some (.slice A n ca)) (hp : ∀ W, DR w W → Calls Try.prog 57 #[.slice A n ca] W (Q (.bool false) W)) (hq : ∀ W, DR w W → Calls Try.prog 58 #[.slice A n ca] W (Q (.bool false) W)) :
    Calls Try.prog 29 #[.slice (some ⟨g, 0, none⟩) 1 c] w (M (.int .i64 (if false = true then (if false = true then 0 else 2) else 1)) w) := by
  go_enter Try.func29, Try.ntmps29
  go_wp2_with (fail)
  go_loopw [3] (fun u3 wr => ∃ i : Nat, i ≤ 1 ∧ u3 = .int .i64 i ∧ Hid (i = 0 ∨ false = true) ∧ DR w wr) (fun u3 _ => 1 - (intOf u3).toNat)
  case atStart => exact ⟨0, by omega, rfl, .inl rfl, DR.refl _⟩
  case round =>
    obtain ⟨ws, rfl⟩ : ∃ ws : World, ws = wr := ⟨_, rfl⟩
    obtain ⟨i, hi, rfl, HI, hdr⟩ := hrel
    have h2 := (hdr.cell _).trans h1
    have hp1 := hp _ hdr
    by_cases hlt : i < 1
    · obtain rfl : i = 0 := by omega
      go_wp2_with (go_at_call 57; refine hp1.mono ?_; rintro e w2 ⟨rfl, nq, rfl⟩)
      go_ret
      exact ⟨rfl, by obtain ⟨q, rfl⟩ := hdr; exact below_drewN (below_drewN (Below.refl _ _) _) _⟩
    · obtain rfl : i = 1 := by omega
      clear h2 hp1
      rcases HI.out with h | h <;> cases h
set_option maxHeartbeats 1000000 in
theorem s_code_falsetrue (g c : Nat) (A : Option Addr) (n ca : Nat) (w : World) (h1 : w.cell? ⟨g, 0 + 0, none⟩ = some (.slice A n ca)) (hp : ∀ W, DR w W → Calls Try.prog 57 #[.slice A n ca] W (Q (.bool false) W)) (hq : ∀ W, DR w W → Calls Try.prog 58 #[.slice A n ca] W (Q (.bool true) W)) :
    Calls Try.prog 29 #[.slice (some ⟨g, 0, none⟩) 1 c] w (M (.int .i64 (if false = true then (if true = true then 0 else 2) else 1)) w) := by
  go_enter Try.func29, Try.ntmps29
  go_wp2_with (fail)
  go_loopw [3] (fun u3 wr => ∃ i : Nat, i ≤ 1 ∧ u3 = .int .i64 i ∧ Hid (i = 0 ∨ false = true) ∧ DR w wr) (fun u3 _ => 1 - (intOf u3).toNat)
  case atStart => exact ⟨0, by omega, rfl, .inl rfl, DR.refl _⟩
  case round =>
    obtain ⟨ws, rfl⟩ : ∃ ws : World, ws = wr := ⟨_, rfl⟩
    obtain ⟨i, hi, rfl, HI, hdr⟩ := hrel
    have h2 := (hdr.cell _).trans h1
    have hp1 := hp _ hdr
    by_cases hlt : i < 1
    · obtain rfl : i = 0 := by omega
      go_wp2_with (go_at_call 57; refine hp1.mono ?_; rintro e w2 ⟨rfl, nq, rfl⟩)
      go_ret
      exact ⟨rfl, by obtain ⟨q, rfl⟩ := hdr; exact below_drewN (below_drewN (Below.refl _ _) _) _⟩
    · obtain rfl : i = 1 := by omega
      clear h2 hp1
      rcases HI.out with h | h <;> cases h
set_option maxHeartbeats 1000000 in
theorem s_code_truefalse (g c : Nat) (A : Option Addr) (n ca : Nat) (w : World) (h1 : w.cell? ⟨g, 0 + 0, none⟩ = some (.slice A n ca)) (hp : ∀ W, DR w W → Calls Try.prog 57 #[.slice A n ca] W (Q (.bool true) W)) (hq : ∀ W, DR w W → Calls Try.prog 58 #[.slice A n ca] W (Q (.bool false) W)) :
    Calls Try.prog 29 #[.slice (some ⟨g, 0, none⟩) 1 c] w (M (.int .i64 (if true = true then (if false = true then 0 else 2) else 1)) w) := by
  go_enter Try.func29, Try.ntmps29
  go_wp2_with (fail)
  go_loopw [3] (fun u3 wr => ∃ i : Nat, i ≤ 1 ∧ u3 = .int .i64 i ∧ Hid (i = 0 ∨ true = true) ∧ DR w wr) (fun u3 _ => 1 - (intOf u3).toNat)
  case atStart => exact ⟨0, by omega, rfl, .inl rfl, DR.refl _⟩
  case round =>
    obtain ⟨ws, rfl⟩ : ∃ ws : World, ws = wr := ⟨_, rfl⟩
    obtain ⟨i, hi, rfl, HI, hdr⟩ := hrel
    have h2 := (hdr.cell _).trans h1
    have hp1 := hp _ hdr
    by_cases hlt : i < 1
    · obtain rfl : i = 0 := by omega
      go_wp2_with (go_at_call 57; refine hp1.mono ?_; rintro e w2 ⟨rfl, nq, rfl⟩)
      go_roundw
      case rel => exact ⟨1, by omega, by go_num, .inr (by simp), hdr.step _⟩
      case measure => simp [intOf]
    · obtain rfl : i = 1 := by omega
      clear h2 hp1
      go_wp2_with (fail)
      go_loopw [4] (fun u4 wr => ∃ i : Nat, i ≤ 1 ∧ u4 = .int .i64 i ∧ Hid (i = 0 ∨ false = true) ∧ DR w wr) (fun u4 _ => 1 - (intOf u4).toNat)
      case atStart => exact ⟨0, by omega, rfl, .inl rfl, hdr⟩
      case round =>
        clear hdr HI
        obtain ⟨wt, rfl⟩ : ∃ wt : World, wt = wr := ⟨_, rfl⟩
        obtain ⟨j, hj, rfl, HJ, hdr⟩ := hrel
        have h2 := (hdr.cell _).trans h1
        have hq1 := hq _ hdr
        by_cases hlt2 : j < 1
        · obtain rfl : j = 0 := by omega
          go_wp2_with (go_at_call 58; refine hq1.mono ?_; rintro e w2 ⟨rfl, nq, rfl⟩)
          go_ret
          exact ⟨rfl, by obtain ⟨q, rfl⟩ := hdr; exact below_drewN (below_drewN (Below.refl _ _) _) _⟩
        · obtain rfl : j = 1 := by omega
          rcases HJ.out with h | h <;> cases h
set_option maxHeartbeats 1000000 in
theorem s_code_truetrue (g c : Nat) (A : Option Addr) (n ca : Nat) (w : World) (h1 : w.cell? ⟨g, 0 + 0, none⟩ = some (.slice A n ca)) (hp : ∀ W, DR w W → Calls Try.prog 57 #[.slice A n ca] W (Q (.bool true) W)) (hq : ∀ W, DR w W → Calls Try.prog 58 #[.slice A n ca] W (Q (.bool true) W)) :
    Calls Try.prog 29 #[.slice (some ⟨g, 0, none⟩) 1 c] w (M (.int .i64 (if true = true then (if true = true then 0 else 2) else 1)) w) := by
  go_enter Try.func29, Try.ntmps29
  go_wp2_with (fail)
  go_loopw [3] (fun u3 wr => ∃ i : Nat, i ≤ 1 ∧ u3 = .int .i64 i ∧ Hid (i = 0 ∨ true = true) ∧ DR w wr) (fun u3 _ => 1 - (intOf u3).toNat)
  case atStart => exact ⟨0, by omega, rfl, .inl rfl, DR.refl _⟩
  case round =>
    obtain ⟨ws, rfl⟩ : ∃ ws : World, ws = wr := ⟨_, rfl⟩
    obtain ⟨i, hi, rfl, HI, hdr⟩ := hrel
    have h2 := (hdr.cell _).trans h1
    have hp1 := hp _ hdr
    by_cases hlt : i < 1
    · obtain rfl : i = 0 := by omega
      go_wp2_with (go_at_call 57; refine hp1.mono ?_; rintro e w2 ⟨rfl, nq, rfl⟩)
      go_roundw
      case rel => exact ⟨1, by omega, by go_num, .inr (by simp), hdr.step _⟩
      case measure => simp [intOf]
    · obtain rfl : i = 1 := by omega
      clear h2 hp1
      go_wp2_with (fail)
      go_loopw [4] (fun u4 wr => ∃ i : Nat, i ≤ 1 ∧ u4 = .int .i64 i ∧ Hid (i = 0 ∨ true = true) ∧ DR w wr) (fun u4 _ => 1 - (intOf u4).toNat)
      case atStart => exact ⟨0, by omega, rfl, .inl rfl, hdr⟩
      case round =>
        clear hdr HI
        obtain ⟨wt, rfl⟩ : ∃ wt : World, wt = wr := ⟨_, rfl⟩
        obtain ⟨j, hj, rfl, HJ, hdr⟩ := hrel
        have h2 := (hdr.cell _).trans h1
        have hq1 := hq _ hdr
        by_cases hlt2 : j < 1
        · obtain rfl : j = 0 := by omega
          go_wp2_with (go_at_call 58; refine hq1.mono ?_; rintro e w2 ⟨rfl, nq, rfl⟩)
          go_roundw
          case rel => exact ⟨1, by omega, by go_num, .inr (by simp), hdr.step _⟩
          case measure => simp [intOf]
        · obtain rfl : j = 1 := by omega
          go_wp2_with (fail)
          go_ret
          exact ⟨rfl, by obtain ⟨q, rfl⟩ := hdr; exact below_drewN (Below.refl _ _) _⟩
theorem s_codeS (g c : Nat) (xs : List Int) (w : World) (hl : xs.length ≤ 1048576) (hs : II w w.heap.size (some ⟨g, 0, none⟩) [xs]) :
    Calls Try.prog 29 #[.slice (some ⟨g, 0, none⟩) 1 c] w (M (.int .i64 (rtC xs)) w) := by
  obtain ⟨b, off, e0, _, hc⟩ := hs.at (k := 0) (by simp)
  injection e0 with e0
  injection e0 with e1 e2
  subst e1
  subst e2
  obtain ⟨A, ca, h1, _, _, h4⟩ := hc 0 (by simp)
  have hp := fun W (d : DR w W) => s_IsPolynomial A xs.length ca xs W w.heap.size rfl hl (h4.dr d)
  have hq := fun W (d : DR w W) => s_IsSmall A xs.length ca xs W w.heap.size rfl hl (h4.dr d)
  rw [show gl [xs] 0 = xs from rfl] at h1
  unfold rtC
  cases hb1 : polyB xs <;> cases hb2 : smallPB xs <;> rw [hb1] at hp <;> rw [hb2] at hq
  · exact s_code_falsefalse g c A _ ca w h1 hp hq
  · exact s_code_falsetrue g c A _ ca w h1 hp hq
  · exact s_code_truefalse g c A _ ca w h1 hp hq
  · exact s_code_truetrue g c A _ ca w h1 hp hq
end Go.Proofs.Ytglijcdnnaekkaa
