/- Signs; IsEvenName. -/
import Derived.Test.YtkhadipfibllnaaA94
import Derived.Test.YtkhadipfibllnaaA83
namespace Go.Proofs.Ytkhadipfibllnaa
set_option linter.unusedVariables false
set_option linter.unusedSimpArgs false
open Go.RowKit

def parN (a : List Int) : Int := if (a.length - (cycL a).length) % 2 = 1 then -1 else 1
theorem cycL_len (a : List Int) : (cycL a).length ≤ a.length := by
  have := cyc_len a a.length 0 (List.replicate a.length false) []
  simpa [cycL] using this
theorem MII.len {ll : List (List Int)} {w : World} {e : Ending} {w' : World} {L : Nat} (hL : ll.length = L) (h : MII ll w e w') : ∃ A c, e = .returned (.slice A L c) ∧ Below w.heap.size w w' := by
  obtain ⟨A, c, vs, h1, _, _, h2⟩ := h
  subst hL
  exact ⟨A, c, h1, h2⟩
set_option maxHeartbeats 1000000 in
theorem i_parity (A : Option Addr) (n c : Nat) (a : List Int) (w : World) (hn1 : 1 ≤ n) (hn6 : n ≤ 6) (ha : InR n a) (hs : IS w w.heap.size A a) : Calls Try.prog 63 #[.slice A n c] w (M (.int .i64 (parN a)) w) := by
  have hc := fun W hW => i_cycles A n c a W hn1 hn6 ha (IS.call hs hW)
  have hc0 : ∀ W, Below w.heap.size w W → Calls Try.prog 101 #[.slice A n c] W (fun e w' => ∃ A c, e = .returned (.slice A (cycL a).length c) ∧ Below W.heap.size W w') := fun W hW => (hc W hW).mono fun e w' h => h.len rfl
  have hl := cycL_len a
  rw [ha.1] at hl
  have hp : parN a = if (n - (cycL a).length) % 2 = 1 then -1 else 1 := by unfold parN; rw [ha.1]
  clear hc
  generalize (cycL a).length = L at *
  by_cases h2 : (n - L) % 2 = 1
  · rw [if_pos h2] at hp
    have HP := Lib.hid hp
    have e1 : ((n : Int) - (L : Int)) % 2 = 1 := by omega
    clear hp
    go_enter Try.func63, Try.ntmps63
    go_wp2_with (first | (go_at_call 101; refine (hc0 _ (Below.refl _ _)).mono ?_; rintro e w1 ⟨A', c', rfl, hb1⟩) | go_in)
    go_ret
    exact ⟨ret_int HP.out.symm, hb1⟩
  · rw [if_neg h2] at hp
    have HP := Lib.hid hp
    have e1 : ((n : Int) - (L : Int)) % 2 = 0 := by omega
    clear hp
    go_enter Try.func63, Try.ntmps63
    go_wp2_with (first | (go_at_call 101; refine (hc0 _ (Below.refl _ _)).mono ?_; rintro e w1 ⟨A', c', rfl, hb1⟩) | go_in)
    go_ret
    exact ⟨ret_int HP.out.symm, hb1⟩
set_option maxHeartbeats 1000000 in
theorem s_l21Sign (A : Option Addr) (n c : Nat) (a : List Int) (w : World) (hn1 : 1 ≤ n) (hn6 : n ≤ 6) (ha : InR n a) (hs : IS w w.heap.size A a) : Calls Try.prog 134 #[.slice A n c] w (M (.int .i64 (parN a)) w) := by
  have hc := fun W hW => s_cycles A n c a W hn1 hn6 ha (IS.call hs hW)
  have hc0 : ∀ W, Below w.heap.size w W → Calls Try.prog 137 #[.slice A n c] W (fun e w' => ∃ A c, e = .returned (.slice A (cycL a).length c) ∧ Below W.heap.size W w') := fun W hW => (hc W hW).mono fun e w' h => h.len rfl
  have hl := cycL_len a
  rw [ha.1] at hl
  have hp : parN a = if (n - (cycL a).length) % 2 = 1 then -1 else 1 := by unfold parN; rw [ha.1]
  clear hc
  generalize (cycL a).length = L at *
  by_cases h2 : (n - L) % 2 = 1
  · rw [if_pos h2] at hp
    have HP := Lib.hid hp
    have e1 : ((n : Int) - (L : Int)) % 2 = 1 := by omega
    clear hp
    go_enter Try.func134, Try.ntmps134
    go_wp2_with (first | (go_at_call 137; refine (hc0 _ (Below.refl _ _)).mono ?_; rintro e w1 ⟨A', c', rfl, hb1⟩))
    go_ret
    exact ⟨ret_int HP.out.symm, hb1⟩
  · rw [if_neg h2] at hp
    have HP := Lib.hid hp
    have e1 : ((n : Int) - (L : Int)) % 2 = 0 := by omega
    clear hp
    go_enter Try.func134, Try.ntmps134
    go_wp2_with (first | (go_at_call 137; refine (hc0 _ (Below.refl _ _)).mono ?_; rintro e w1 ⟨A', c', rfl, hb1⟩))
    go_ret
    exact ⟨ret_int HP.out.symm, hb1⟩
set_option maxHeartbeats 1000000 in
theorem i_idxOdd (A : Option Addr) (L c n : Nat) (ll : List (List Int)) (w : World) (B : Nat) (hn1 : 1 ≤ n) (hn6 : n ≤ 6) (hL : L = ll.length) (hl : L ≤ 1048576) (hB : B ≤ w.heap.size) (hin : ∀ k, k < L → InR n (gl ll k)) (hs : II w B A ll) :
    Calls Try.prog 98 #[.slice A L c, .func (.func 62) #[] #[]] w (fun e w' => ∃ k : Int, e = .returned (.int .i64 k) ∧ decide (0 ≤ k) = (ll.any fun a => decide (parN a < 0)) ∧ Below w.heap.size w w') := by
  have HL := Lib.hid hL
  have HIN := Lib.hid hin
  clear hL hin
  go_enter Try.func98, Try.ntmps98
  go_wp2_with (fail)
  go_loopw [8] (fun u8 wr => ∃ k : Nat, k ≤ L ∧ u8 = .int .i64 k ∧ Hid (∀ j, j < k → ¬ parN (gl ll j) < 0) ∧ Below w.heap.size w wr) (fun u8 _ => L - (intOf u8).toNat)
  case atStart => exact ⟨0, Nat.zero_le _, rfl, fun j hj => by omega, Below.refl _ _⟩
  case round =>
    obtain ⟨ws, rfl⟩ : ∃ ws : World, ws = wr := ⟨_, rfl⟩
    obtain ⟨k, hk, rfl, HI, hb⟩ := hrel
    have hsz := hb.size
    by_cases hlt : k < L
    · obtain ⟨b, off, rfl, hbb, hcell⟩ := hs.at (k := k) (by rw [← HL.out]; exact hlt)
      obtain ⟨A', c', e1, _, _, his⟩ := hcell k (by rw [← HL.out]; exact hlt)
      have e1 := (hb.cell (p := ⟨b, off + k, none⟩) (by show b < _; omega)).trans e1
      have hR := HIN.out k hlt
      rw [hR.1] at e1
      have his := (his.below (hb.mono hB)).more (show B ≤ ws.heap.size by omega)
      have hp := fun W hW => i_parity A' n c' (gl ll k) W hn1 hn6 hR (IS.call his hW)
      clear hcell
      by_cases hneg : parN (gl ll k) < 0
      · have hany : (ll.any fun a => decide (parN a < 0)) = true := by
          rw [List.any_eq_true]
          exact ⟨gl ll k, gl_mem (by rw [← HL.out]; exact hlt), by simpa using hneg⟩
        have HANY := Lib.hid hany
        clear hany his hs
        generalize parN (gl ll k) = p at *
        go_wp2_with (first | (go_at_call 63; refine (hp _ (Below.refl _ _)).mono ?_; rintro e w2 ⟨rfl, hb2⟩) | go_in)
        go_ret
        exact ⟨k, rfl, by rw [HANY.out]; simp, hb.trans (hb2.mono hsz)⟩
      · have hn' : ∀ j, j < k + 1 → ¬ parN (gl ll j) < 0 := fun j hj => by
          by_cases hjk : j = k
          · subst hjk; exact hneg
          · exact HI.out j (by omega)
        have HN' := Lib.hid hn'
        clear hn' his hs
        generalize parN (gl ll k) = p at *
        go_wp2_with (first | (go_at_call 63; refine (hp _ (Below.refl _ _)).mono ?_; rintro e w2 ⟨rfl, hb2⟩) | go_in)
        go_roundw
        case rel => exact ⟨k + 1, by omega, by go_num, fun j hj => by have := HN'.out j hj; omega, hb.trans (hb2.mono hsz)⟩
        case measure => simp [intOf]; omega
    · obtain rfl : k = L := by omega
      have hany : (ll.any fun a => decide (parN a < 0)) = false := by
        rw [List.any_eq_false]
        intro a ha
        obtain ⟨j, hj, rfl⟩ := mem_gl.1 ha
        simpa using HI.out j (by rw [HL.out]; exact hj)
      have HANY := Lib.hid hany
      clear hany
      go_wp2_with (fail)
      go_ret
      exact ⟨-1, rfl, by rw [HANY.out]; simp, hb⟩
end Go.Proofs.Ytkhadipfibllnaa
