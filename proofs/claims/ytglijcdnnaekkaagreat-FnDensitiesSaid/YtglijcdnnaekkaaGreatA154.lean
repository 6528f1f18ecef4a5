/- Several parts of the proof in one text; each part says what it shows. Nothing is assumed. -/
import Derived.Test.YtglijcdnnaekkaaGreatA155
import Derived.Test.YtglijcdnnaekkaaGreatA142
import Derived.Test.YtglijcdnnaekkaaGreatA101
import Derived.Lib.QuietBelow
/- CandidateNames: the closures, and the walk over the library. -/
namespace Go.Proofs.YtglijcdnnaekkaaGreat
set_option linter.unusedVariables false
set_option linter.unusedSimpArgs false
open Go.RowKit

def neS (pz : Int) (a : List Int) : Bool := !(a.sum == pz)
theorem i_cand1 (A : Option Addr) (m c : Nat) (xs : List Int) (w : World) (hm : m = xs.length) (hl : m ≤ 1048576) (hs : IS w w.heap.size A xs) :
    Calls Tryz.prog 104 #[.slice A m c] w (M (.bool (!typeB xs)) w) := by
  have ht := i_IsType A m c xs w w.heap.size hm hl hs
  generalize typeB xs = b at *
  clear hm hs
  go_enter Tryz.func104, Tryz.ntmps104
  go_wp2_with (go_at_call 38; refine ht.mono ?_; rintro e w1 ⟨rfl, nq, rfl⟩)
  go_ret
  exact ⟨rfl, below_drewN (Below.refl _ _) _⟩
theorem i_cand2 (gx : Nat) (pz : Int) (A : Option Addr) (m c : Nat) (xs : List Int) (w : World) (hm : m = xs.length) (hl : m ≤ 1048576) (hs : IS w w.heap.size A xs) (hbd : ∀ k, k < xs.length → -1000000000 ≤ gt xs k ∧ gt xs k ≤ 1000000000) (hx : w.cell? ⟨gx, 0, none⟩ = some (.int .i64 pz)) :
    Calls Tryz.prog 106 #[.slice A m c, .pointer (some ⟨gx, 0, none⟩)] w (M (.bool (neS pz xs)) w) := by
  unfold neS
  have hsm := fun n => i_pointsOf A m c xs (w.drewN n) w.heap.size hm hl (hs.drewN n) hbd
  have hx2 := fun n => (show (w.drewN n).cell? ⟨gx, 0, none⟩ = _ from hx)
  generalize xs.sum = s at *
  clear hm hs hbd
  go_enter Tryz.func106, Tryz.ntmps106
  go_wp2_with (go_quiet ((go_at_call 87; exact Calls.quiet_of (hsm _))))
  go_ret
  exact ⟨rfl, below_drewN (Below.refl _ _) _⟩
theorem i_candG (Ax A : Option Addr) (m d gx L c n : Nat) (l xs : List Int) (w : World) (hn : 1 ≤ n) (hn6 : n ≤ 6) (hL : L = l.length) (hl : L ≤ 1048576) (hk : InK n l) (hs : IS w w.heap.size A l) (hm : m = xs.length) (hml : m ≤ 1048576) (hxs : IS w w.heap.size Ax xs) (g0 : w.cell? ⟨gx, 0, none⟩ = some (.int .i64 (n : Nat))) (g1 : w.cell? ⟨gx, 1, none⟩ = some (.slice A L c)) :
    Calls Tryz.prog 168 #[.slice Ax m d, .pointer (some ⟨gx, 0, none⟩)] w (M (.bool (!hasT n l xs)) w) := by
  have h := i_hasType n A Ax L c m d l xs w hn hn6 hL hl hk hs hm hml hxs
  generalize hasT n l xs = b at *
  clear hL hk hs hm hxs
  go_enter Tryz.func168, Tryz.ntmps168
  go_wp2_with (go_at_call 112; refine h.mono ?_; rintro e w1 ⟨rfl, hb1⟩)
  go_ret
  exact ⟨rfl, hb1⟩
set_option maxHeartbeats 1000000 in
theorem i_idxC1 (A : Option Addr) (L c n : Nat) (ll : List (List Int)) (w : World) (B : Nat) (hL : L = ll.length) (hl : L ≤ 1048576) (hB : B ≤ w.heap.size) (hs : II w B A ll) (hrm : ∀ k, k < L → (gl ll k).length ≤ 1048576) :
    Calls Tryz.prog 164 #[.slice A L c, .func (.func 104) #[] #[]] w (fun e w' => ∃ k : Int, e = .returned (.int .i64 k) ∧ decide (0 ≤ k) = (ll.any fun a => !typeB a) ∧ Below w.heap.size w w') := by
  have HL := Lib.hid hL
  clear hL
  go_enter Tryz.func164, Tryz.ntmps164
  go_wp2_with (fail)
  go_loopw [8] (fun u8 wr => ∃ k : Nat, k ≤ L ∧ u8 = .int .i64 k ∧ Hid (∀ j, j < k → (fun a : List Int => !typeB a) (gl ll j) = false) ∧ Below w.heap.size w wr) (fun u8 _ => L - (intOf u8).toNat)
  case atStart => exact ⟨0, Nat.zero_le _, rfl, fun j hj => by omega, Below.refl _ _⟩
  case round =>
    obtain ⟨ws, rfl⟩ : ∃ ws : World, ws = wr := ⟨_, rfl⟩
    obtain ⟨k, hk, rfl, HI, hb⟩ := hrel
    have hsz := hb.size
    by_cases hlt : k < L
    · obtain ⟨b, off, rfl, hbb, hcell⟩ := hs.at (k := k) (by rw [← HL.out]; exact hlt)
      obtain ⟨A', c', e1, _, _, his⟩ := hcell k (by rw [← HL.out]; exact hlt)
      have e1 := (hb.cell (p := ⟨b, off + k, none⟩) (by show b < _; omega)).trans e1
      have his := (his.below (hb.mono hB)).more (show B ≤ ws.heap.size by omega)
      have hml := hrm k hlt; have hp := fun W hW => i_cand1 A' (gl ll k).length c' (gl ll k) W rfl hml (IS.call his hW)
      clear hcell
      by_cases hneg : (fun a : List Int => !typeB a) (gl ll k) = true
      · have hany : (ll.any fun a => !typeB a) = true := by
          rw [List.any_eq_true]
          exact ⟨gl ll k, gl_mem (by rw [← HL.out]; exact hlt), hneg⟩
        have HANY := Lib.hid hany
        have hneg : (fun a : List Int => !typeB a) (gl ll k) = true := hneg
        simp only [hneg] at hp
        clear hany his hs
        go_wp2_with (first | (go_at_call 104; refine (hp _ (Below.refl _ _)).mono ?_; rintro e w2 ⟨rfl, hb2⟩) | go_in)
        go_ret
        exact ⟨k, rfl, by rw [HANY.out]; simp, hb.trans (hb2.mono hsz)⟩
      · have hneg : (fun a : List Int => !typeB a) (gl ll k) = false := by rw [Bool.eq_false_iff]; exact hneg
        simp only [hneg] at hp
        have hn' : ∀ j, j < k + 1 → (fun a : List Int => !typeB a) (gl ll j) = false := fun j hj => by
          by_cases hjk : j = k
          · subst hjk; exact hneg
          · exact HI.out j (by omega)
        have HN' := Lib.hid hn'
        clear hn' his hs
        go_wp2_with (first | (go_at_call 104; refine (hp _ (Below.refl _ _)).mono ?_; rintro e w2 ⟨rfl, hb2⟩) | go_in)
        go_roundw
        case rel => exact ⟨k + 1, by omega, by go_num, HN'.out, hb.trans (hb2.mono hsz)⟩
        case measure => simp [intOf]; omega
    · obtain rfl : k = L := by omega
      have hany : (ll.any fun a => !typeB a) = false := by
        rw [List.any_eq_false]
        intro a ha
        obtain ⟨j, hj, rfl⟩ := mem_gl.1 ha
        have h9 := HI.out j (by rw [HL.out]; exact hj)
        exact Bool.eq_false_iff.1 h9
      have HANY := Lib.hid hany
      clear hany
      go_wp2_with (fail)
      go_ret
      exact ⟨-1, rfl, by rw [HANY.out]; simp, hb⟩
theorem i_idxC1C (A : Option Addr) (L c n : Nat) (ll : List (List Int)) (w : World) (B : Nat) (hL : L = ll.length) (hl : L ≤ 1048576) (hB : B ≤ w.heap.size) (hs : II w B A ll) (hrm : ∀ k, k < L → (gl ll k).length ≤ 1048576) :
    Calls Tryz.prog 103 #[.slice A L c, .func (.func 104) #[] #[]] w (M (.bool (ll.any fun a => !typeB a)) w) := c_contains A L c _ _ w (i_idxC1 A L c n ll w B hL hl hB hs hrm)
set_option maxHeartbeats 1000000 in
theorem i_idxC2 (A : Option Addr) (L c n : Nat) (ll : List (List Int)) (w : World) (B : Nat) (hL : L = ll.length) (hl : L ≤ 1048576) (hB : B ≤ w.heap.size) (hs : II w B A ll) (gx : Nat) (pz : Int) (hrm : ∀ k, k < L → (gl ll k).length ≤ 1048576) (hbd : ∀ i, i < L → ∀ k, k < (gl ll i).length → -1000000000 ≤ gt (gl ll i) k ∧ gt (gl ll i) k ≤ 1000000000) (hgx : gx < w.heap.size) (hx : w.cell? ⟨gx, 0, none⟩ = some (.int .i64 pz)) :
    Calls Tryz.prog 164 #[.slice A L c, .func (.func 106) #[] #[.pointer (some ⟨gx, 0, none⟩)]] w (fun e w' => ∃ k : Int, e = .returned (.int .i64 k) ∧ decide (0 ≤ k) = (ll.any fun a => neS pz a) ∧ Below w.heap.size w w') := by
  have HL := Lib.hid hL
  clear hL
  go_enter Tryz.func164, Tryz.ntmps164
  go_wp2_with (fail)
  go_loopw [8] (fun u8 wr => ∃ k : Nat, k ≤ L ∧ u8 = .int .i64 k ∧ Hid (∀ j, j < k → (fun a : List Int => neS pz a) (gl ll j) = false) ∧ Below w.heap.size w wr) (fun u8 _ => L - (intOf u8).toNat)
  case atStart => exact ⟨0, Nat.zero_le _, rfl, fun j hj => by omega, Below.refl _ _⟩
  case round =>
    obtain ⟨ws, rfl⟩ : ∃ ws : World, ws = wr := ⟨_, rfl⟩
    obtain ⟨k, hk, rfl, HI, hb⟩ := hrel
    have hsz := hb.size
    by_cases hlt : k < L
    · obtain ⟨b, off, rfl, hbb, hcell⟩ := hs.at (k := k) (by rw [← HL.out]; exact hlt)
      obtain ⟨A', c', e1, _, _, his⟩ := hcell k (by rw [← HL.out]; exact hlt)
      have e1 := (hb.cell (p := ⟨b, off + k, none⟩) (by show b < _; omega)).trans e1
      have his := (his.below (hb.mono hB)).more (show B ≤ ws.heap.size by omega)
      have hml := hrm k hlt; have hbk := hbd k hlt; have hp := fun W hW => i_cand2 gx pz A' (gl ll k).length c' (gl ll k) W rfl hml (IS.call his hW) hbk ((hW.cell (p := ⟨gx, 0, none⟩) (by show gx < _; omega)).trans ((hb.cell (p := ⟨gx, 0, none⟩) hgx).trans hx)); clear hbk hbd
      clear hcell
      by_cases hneg : (fun a : List Int => neS pz a) (gl ll k) = true
      · have hany : (ll.any fun a => neS pz a) = true := by
          rw [List.any_eq_true]
          exact ⟨gl ll k, gl_mem (by rw [← HL.out]; exact hlt), hneg⟩
        have HANY := Lib.hid hany
        have hneg : (fun a : List Int => neS pz a) (gl ll k) = true := hneg
        simp only [hneg] at hp
        clear hany his hs
        go_wp2_with (first | (go_at_call 106; refine (hp _ (Below.refl _ _)).mono ?_; rintro e w2 ⟨rfl, hb2⟩) | go_in)
        go_ret
        exact ⟨k, rfl, by rw [HANY.out]; simp, hb.trans (hb2.mono hsz)⟩
      · have hneg : (fun a : List Int => neS pz a) (gl ll k) = false := by rw [Bool.eq_false_iff]; exact hneg
        simp only [hneg] at hp
        have hn' : ∀ j, j < k + 1 → (fun a : List Int => neS pz a) (gl ll j) = false := fun j hj => by
          by_cases hjk : j = k
          · subst hjk; exact hneg
          · exact HI.out j (by omega)
        have HN' := Lib.hid hn'
        clear hn' his hs
        go_wp2_with (first | (go_at_call 106; refine (hp _ (Below.refl _ _)).mono ?_; rintro e w2 ⟨rfl, hb2⟩) | go_in)
        go_roundw
        case rel => exact ⟨k + 1, by omega, by go_num, HN'.out, hb.trans (hb2.mono hsz)⟩
        case measure => simp [intOf]; omega
    · obtain rfl : k = L := by omega
      have hany : (ll.any fun a => neS pz a) = false := by
        rw [List.any_eq_false]
        intro a ha
        obtain ⟨j, hj, rfl⟩ := mem_gl.1 ha
        have h9 := HI.out j (by rw [HL.out]; exact hj)
        exact Bool.eq_false_iff.1 h9
      have HANY := Lib.hid hany
      clear hany
      go_wp2_with (fail)
      go_ret
      exact ⟨-1, rfl, by rw [HANY.out]; simp, hb⟩
theorem i_idxC2C (A : Option Addr) (L c n : Nat) (ll : List (List Int)) (w : World) (B : Nat) (hL : L = ll.length) (hl : L ≤ 1048576) (hB : B ≤ w.heap.size) (hs : II w B A ll) (gx : Nat) (pz : Int) (hrm : ∀ k, k < L → (gl ll k).length ≤ 1048576) (hbd : ∀ i, i < L → ∀ k, k < (gl ll i).length → -1000000000 ≤ gt (gl ll i) k ∧ gt (gl ll i) k ≤ 1000000000) (hgx : gx < w.heap.size) (hx : w.cell? ⟨gx, 0, none⟩ = some (.int .i64 pz)) :
    Calls Tryz.prog 103 #[.slice A L c, .func (.func 106) #[] #[.pointer (some ⟨gx, 0, none⟩)]] w (M (.bool (ll.any fun a => neS pz a)) w) := c_contains A L c _ _ w (i_idxC2 A L c n ll w B hL hl hB hs gx pz hrm hbd hgx hx)
set_option maxHeartbeats 1000000 in
theorem i_idxCG (A : Option Addr) (L c n : Nat) (ll : List (List Int)) (w : World) (B : Nat) (hL : L = ll.length) (hl : L ≤ 1048576) (hB : B ≤ w.heap.size) (hs : II w B A ll) (Ag : Option Addr) (Lg cg gx : Nat) (l : List Int) (hn1 : 1 ≤ n) (hn6 : n ≤ 6) (hLg : Lg = l.length) (hlg : Lg ≤ 1048576) (hinK : InK n l) (hsg : IS w w.heap.size Ag l) (hrm : ∀ k, k < L → (gl ll k).length ≤ 1048576) (hgx : gx < w.heap.size) (g0 : w.cell? ⟨gx, 0, none⟩ = some (.int .i64 (n : Nat))) (g1 : w.cell? ⟨gx, 1, none⟩ = some (.slice Ag Lg cg)) :
    Calls Tryz.prog 164 #[.slice A L c, .func (.func 168) #[] #[.pointer (some ⟨gx, 0, none⟩)]] w (fun e w' => ∃ k : Int, e = .returned (.int .i64 k) ∧ decide (0 ≤ k) = (ll.any fun a => !hasT n l a) ∧ Below w.heap.size w w') := by
  have HL := Lib.hid hL
  clear hL
  go_enter Tryz.func164, Tryz.ntmps164
  go_wp2_with (fail)
  go_loopw [8] (fun u8 wr => ∃ k : Nat, k ≤ L ∧ u8 = .int .i64 k ∧ Hid (∀ j, j < k → (fun a : List Int => !hasT n l a) (gl ll j) = false) ∧ Below w.heap.size w wr) (fun u8 _ => L - (intOf u8).toNat)
  case atStart => exact ⟨0, Nat.zero_le _, rfl, fun j hj => by omega, Below.refl _ _⟩
  case round =>
    obtain ⟨ws, rfl⟩ : ∃ ws : World, ws = wr := ⟨_, rfl⟩
    obtain ⟨k, hk, rfl, HI, hb⟩ := hrel
    have hsz := hb.size
    by_cases hlt : k < L
    · obtain ⟨b, off, rfl, hbb, hcell⟩ := hs.at (k := k) (by rw [← HL.out]; exact hlt)
      obtain ⟨A', c', e1, _, _, his⟩ := hcell k (by rw [← HL.out]; exact hlt)
      have e1 := (hb.cell (p := ⟨b, off + k, none⟩) (by show b < _; omega)).trans e1
      have his := (his.below (hb.mono hB)).more (show B ≤ ws.heap.size by omega)
      have hml := hrm k hlt; have hp := fun W hW => i_candG A' Ag (gl ll k).length c' gx Lg cg n l (gl ll k) W hn1 hn6 hLg hlg hinK ((hsg.call hb).call hW) rfl hml (IS.call his hW) ((hW.cell (p := ⟨gx, 0, none⟩) (by show gx < _; omega)).trans ((hb.cell (p := ⟨gx, 0, none⟩) hgx).trans g0)) ((hW.cell (p := ⟨gx, 1, none⟩) (by show gx < _; omega)).trans ((hb.cell (p := ⟨gx, 1, none⟩) hgx).trans g1)); clear hsg hinK hLg
      clear hcell
      by_cases hneg : (fun a : List Int => !hasT n l a) (gl ll k) = true
      · have hany : (ll.any fun a => !hasT n l a) = true := by
          rw [List.any_eq_true]
          exact ⟨gl ll k, gl_mem (by rw [← HL.out]; exact hlt), hneg⟩
        have HANY := Lib.hid hany
        have hneg : (fun a : List Int => !hasT n l a) (gl ll k) = true := hneg
        simp only [hneg] at hp
        clear hany his hs
        go_wp2_with (first | (go_at_call 168; refine (hp _ (Below.refl _ _)).mono ?_; rintro e w2 ⟨rfl, hb2⟩) | go_in)
        go_ret
        exact ⟨k, rfl, by rw [HANY.out]; simp, hb.trans (hb2.mono hsz)⟩
      · have hneg : (fun a : List Int => !hasT n l a) (gl ll k) = false := by rw [Bool.eq_false_iff]; exact hneg
        simp only [hneg] at hp
        have hn' : ∀ j, j < k + 1 → (fun a : List Int => !hasT n l a) (gl ll j) = false := fun j hj => by
          by_cases hjk : j = k
          · subst hjk; exact hneg
          · exact HI.out j (by omega)
        have HN' := Lib.hid hn'
        clear hn' his hs
        go_wp2_with (first | (go_at_call 168; refine (hp _ (Below.refl _ _)).mono ?_; rintro e w2 ⟨rfl, hb2⟩) | go_in)
        go_roundw
        case rel => exact ⟨k + 1, by omega, by go_num, HN'.out, hb.trans (hb2.mono hsz)⟩
        case measure => simp [intOf]; omega
    · obtain rfl : k = L := by omega
      have hany : (ll.any fun a => !hasT n l a) = false := by
        rw [List.any_eq_false]
        intro a ha
        obtain ⟨j, hj, rfl⟩ := mem_gl.1 ha
        have h9 := HI.out j (by rw [HL.out]; exact hj)
        exact Bool.eq_false_iff.1 h9
      have HANY := Lib.hid hany
      clear hany
      go_wp2_with (fail)
      go_ret
      exact ⟨-1, rfl, by rw [HANY.out]; simp, hb⟩
theorem i_idxCGC (A : Option Addr) (L c n : Nat) (ll : List (List Int)) (w : World) (B : Nat) (hL : L = ll.length) (hl : L ≤ 1048576) (hB : B ≤ w.heap.size) (hs : II w B A ll) (Ag : Option Addr) (Lg cg gx : Nat) (l : List Int) (hn1 : 1 ≤ n) (hn6 : n ≤ 6) (hLg : Lg = l.length) (hlg : Lg ≤ 1048576) (hinK : InK n l) (hsg : IS w w.heap.size Ag l) (hrm : ∀ k, k < L → (gl ll k).length ≤ 1048576) (hgx : gx < w.heap.size) (g0 : w.cell? ⟨gx, 0, none⟩ = some (.int .i64 (n : Nat))) (g1 : w.cell? ⟨gx, 1, none⟩ = some (.slice Ag Lg cg)) :
    Calls Tryz.prog 103 #[.slice A L c, .func (.func 168) #[] #[.pointer (some ⟨gx, 0, none⟩)]] w (M (.bool (ll.any fun a => !hasT n l a)) w) := c_contains A L c _ _ w (i_idxCG A L c n ll w B hL hl hB hs Ag Lg cg gx l hn1 hn6 hLg hlg hinK hsg hrm hgx g0 g1)
theorem II.call {w w' : World} {A : Option Addr} {ll : List (List Int)} (h : II w w.heap.size A ll) (hb : Below w.heap.size w w') : II w' w'.heap.size A ll := (h.below hb).more hb.size
def suitK (ll : List (List Int)) (k : Nat) : Bool := ll.all fun xs => hasT (lbP k) (RK (lbP k) (lbG k)) xs
set_option maxRecDepth 100000 in
set_option maxHeartbeats 2000000 in
theorem i_candE (k : Nat) (hk : k < 14) (nb : ByteArray) (A A' : Option Addr) (G c L' c' gx : Nat) (ll : List (List Int)) (w : World) (hG : G = (lbG k).length) (hlR : (RK (lbP k) (lbG k)).length ≤ 1048576) (hii : II w w.heap.size A (lbG k)) (hL' : L' = ll.length) (hl' : L' ≤ 1048576) (hrm : ∀ k, k < L' → (gl ll k).length ≤ 1048576) (hs' : II w w.heap.size A' ll) (hgx : gx < w.heap.size) (g0 : w.cell? ⟨gx, 0, none⟩ = some (.slice A' L' c')) :
    Calls Tryz.prog 166 #[.agg #[.string nb, .int .i64 (lbP k : Nat), .slice A G c], .pointer (some ⟨gx, 0, none⟩)] w (M (.bool (suitK ll k)) w) := by
  obtain ⟨p1, p2, _, _, _⟩ := lb_in k hk
  have hin := RK_in k hk
  have hgr := fun W h => i_libgroup k hk A G c hG nb W h
  have hcont := fun Ag cg gx2 W hss hsg hgx2 g0 g1 => i_idxCGC A' L' c' (lbP k) ll W W.heap.size hL' hl' (Nat.le_refl _) hss Ag (RK (lbP k) (lbG k)).length cg gx2 (RK (lbP k) (lbG k)) p1 (by omega) rfl hlR hin hsg hrm hgx2 g0 g1
  have hq : suitK ll k = !(ll.any fun a => !hasT (lbP k) (RK (lbP k) (lbG k)) a) := by unfold suitK; rw [List.all_eq_not_any_not]
  rw [hq]
  generalize (ll.any fun a => !hasT (lbP k) (RK (lbP k) (lbG k)) a) = bb at *
  generalize RK (lbP k) (lbG k) = R at *
  generalize lbP k = p at *
  generalize lbG k = gens at *
  generalize hR : R.length = L at *
  have HR := Lib.hid hR.symm
  have hb0 := (Below.refl w.heap.size w).alloc (Nat.le_refl _) (.cells #[.string nb, .int .i64 (p : Int), .slice A G c] 156)
  have hii0 := hii.call hb0
  obtain ⟨d0, d1, d2⟩ := BK.tri (BK.new w 156 #[.string nb, .int .i64 (p : Int), .slice A G c])
  have gA := fun W (h : Below w.heap.size w W) => (h.cell (p := ⟨gx, 0, none⟩) hgx).trans g0
  have gS := fun W (h : Below w.heap.size w W) => hs'.call h
  clear hG hii hL' hs' hin hR hq
  go_enter Tryz.func166, Tryz.ntmps166
  go_wp2_with (first
    | (go_at_call 167; refine (hgr _ hii0).mono ?_; rintro e w1 ⟨v, rfl, ho1, hb1⟩; obtain ⟨Ar, cr, rfl, _⟩ := own_slice' ho1; have hbw1 := bel_call hb0 hb1; rw [← HR.out] at ho1 ⊢; obtain ⟨c0, c1, _, _⟩ := BK.two (BK.new w1 26 #[.int .i64 (p : Int), .slice Ar L cr]); have hb1a := hbw1.alloc hbw1.size (.cells #[.int .i64 (p : Int), .slice Ar L cr] 26); have hisr := (own_isn ho1 HR.out).call ((Below.refl w1.heap.size w1).alloc (Nat.le_refl _) (.cells #[.int .i64 (p : Int), .slice Ar L cr] 26)); have gx1 := gA _ hb1a)
    | (go_at_call 103; refine (hcont Ar cr w1.heap.size _ (gS _ hb1a) hisr (by simp) c0 c1).mono ?_; rintro e w3 ⟨rfl, hb3⟩))
  go_ret
  exact ⟨rfl, bel_call hb1a hb3⟩
set_option maxRecDepth 10000 in
set_option maxHeartbeats 2000000 in
theorem i_namesCand (n : Int) (gx : Nat) (q : Nat → Bool) (w : World) (hclo : ∀ k, k < 14 → (lbP k : Int) = n → ∀ nb A G c W, Below w.heap.size w W → G = (lbG k).length → II W W.heap.size A (lbG k) → Calls Tryz.prog 166 #[.agg #[.string nb, .int .i64 (lbP k : Nat), .slice A G c], .pointer (some ⟨gx, 0, none⟩)] W (M (.bool (q k)) W)) :
    Calls Tryz.prog 165 #[.int .i64 n, .func (.func 166) #[] #[.pointer (some ⟨gx, 0, none⟩)]] w (OS (snK n q 14) w) := by
  obtain ⟨i0, hi, hz0, hz1, hz2⟩ := info_parts infoStr
  have HCLO := Lib.hid hclo
  clear hclo
  go_enter Tryz.func165, Tryz.ntmps165
  go_wp2_with (go_at_call 192; refine (i_library _).mono ?_; rintro e w1 ⟨b, rfl, hlib, hb1⟩)
  have hz1' := hb1.size
  go_loopw [5, 10] (fun u3 u5 wr => ∃ k m : Nat, k ≤ 14 ∧ m ≤ k ∧ u5 = .int .i64 k ∧ OwnS wr w1.heap.size u3 m ((snK n q k).map lbN) ∧ Hid (m = (snK n q k).length) ∧ Below w1.heap.size w1 wr) (fun _ u5 _ => 14 - (intOf u5).toNat)
  case atStart => exact ⟨0, 0, Nat.zero_le _, Nat.le_refl _, rfl, ⟨[], World.ownsRow_nil _ _ _ _, rfl⟩, rfl, Below.refl _ _⟩
  case round =>
    obtain ⟨ws, rfl⟩ : ∃ ws : World, ws = wr := ⟨_, rfl⟩
    obtain ⟨k, m, hk, hm, rfl, ⟨bs, hown, hbs⟩, HM, hb⟩ := hrel
    obtain ⟨A1, c1, rfl, _⟩ := own_slice' hown
    have hsz := hb.size
    by_cases hlt : k < 14
    · obtain ⟨nb, A, c, hn, e0, e1, e2, hii⟩ := (hlib.below hb).2 k hlt
      have HBS := Lib.hid hbs
      have HN := Lib.hid hn
      have hclo := HCLO.out k hlt
      clear hbs hn
      generalize hG : (lbG k).length = G at *
      have HG := Lib.hid hG
      have B9 := BK.new ws 156 #[.string nb, .int .i64 ((lbP k : Nat) : Int), .slice A G c]
      have hbA := (Below.refl ws.heap.size ws).alloc (Nat.le_refl _) (.cells #[.string nb, .int .i64 ((lbP k : Nat) : Int), .slice A G c] 156)
      have hbw := bel_call (bel_call hb1 hb) hbA
      have hii2 := (hii.below (hbA.mono hsz)).more (show w1.heap.size ≤ (ws.alloc (.cells #[.string nb, .int .i64 ((lbP k : Nat) : Int), .slice A G c] 156)).heap.size by have := hbA.size; omega)
      by_cases hpn : (lbP k : Int) = n
      · have ht : ((lbP k : Int) == n) = true := by rw [beq_iff_eq]; exact hpn
        have hcl := hclo hpn nb A G c _ hbw rfl hii2
        cases hq : q k
        · have HY := Lib.hid (snK_no hpn hq)
          rw [hq] at hcl
          clear hpn hclo hq hii hG
          generalize lbP k = pk at *
          generalize lbG k = gens at *
          obtain ⟨d0, d1, d2⟩ := B9.tri
          go_wp2_with (first | (go_at_call 166; refine hcl.mono ?_; rintro e w9 ⟨rfl, hb9⟩) | go_in)
          go_roundw
          case rel => exact ⟨k + 1, m, by omega, by omega, by go_num, ⟨bs, own_below (World.ownsRow.alloc hown _) hb9, by rw [HY.out]; exact HBS.out⟩, by unfold Hid; rw [HY.out]; exact HM.out, bel_call (hb.alloc hsz _) hb9⟩
          case measure => simp [intOf]; omega
        · have HY := Lib.hid (snK_yes hpn hq)
          rw [hq] at hcl
          clear hpn hclo hq hii hG
          generalize lbP k = pk at *
          generalize lbG k = gens at *
          obtain ⟨d0, d1, d2⟩ := B9.tri
          have hB9 := fun W (h : Below (ws.alloc (.cells #[.string nb, .int .i64 (pk : Int), .slice A G c] 156)).heap.size (ws.alloc (.cells #[.string nb, .int .i64 (pk : Int), .slice A G c] 156)) W) => (B9.below h (by simp)).tri
          go_wp2_with (first
            | (go_at_call 166; refine hcl.mono ?_; rintro e w9 ⟨rfl, hb9⟩; obtain ⟨k0, k1, k2⟩ := hB9 _ hb9)
            | (at_builtin; refine wpList_append_src rfl (.tmp 23) (.tmp 26) 68 rfl w1.heap.size 9 i0 (.string ⟨#[]⟩) 1 16 Tryz.underlying68 hi hz0 hz1 hz2 rfl (by omega) (.slice A1 m c1) m (strs bs) rfl (World.ownsRow.alloc (own_below (World.ownsRow.alloc hown (.cells #[.string nb, .int .i64 (pk : Int), .slice A G c] 156)) hb9) _) (some ⟨w9.heap.size, 0, none⟩) 1 1 [.string nb] rfl rfl (one_src w9 _ _) (by intro h; cases h) (by intro u hu; simp at hu; subst hu; rfl) (by simp only [maxLen]; omega) (by omega) (by have := hb9.size; simp at this; simp; omega) ?_; intro v5 w5 hown5 hg5 hat5)
            | go_in)
          have hz9 := hb9.size
          simp at hz9
          go_roundw
          case rel =>
            refine ⟨k + 1, m + 1, by omega, by omega, by go_num, ⟨bs ++ [nb], by simpa [strs] using hown5, ?_⟩, ?_, ?_⟩
            · rw [HY.out, List.map_append, List.map_append, HBS.out]; simp [HN.out]
            · unfold Hid; rw [HY.out, List.length_append, HM.out]; rfl
            · exact ((bel_call (hb.alloc hsz _) hb9).alloc (by omega) _).grown hg5 (by simp; omega) (fun g hg => (hown.lt g hg).1)
          case measure => simp [intOf]; omega
      · have ht : ((lbP k : Int) == n) = false := by rw [beq_eq_false_iff_ne]; exact hpn
        have HY := Lib.hid (snK_none (q := q) hpn)
        clear hpn hclo hii hG hii2
        generalize lbP k = pk at *
        obtain ⟨d0, d1, d2⟩ := B9.tri
        go_wp2_with (go_in)
        go_roundw
        case rel => exact ⟨k + 1, m, by omega, by omega, by go_num, ⟨bs, World.ownsRow.alloc hown _, by rw [HY.out]; exact HBS.out⟩, by unfold Hid; rw [HY.out]; exact HM.out, hb.alloc hsz _⟩
        case measure => simp [intOf]; omega
    · obtain rfl : k = 14 := by omega
      go_wp2_with (fail)
      go_ret
      exact ⟨_, rfl, ⟨bs, by rw [← HM.out]; exact own_mono hown hz1', hbs⟩, bel_call hb1 hb⟩
end Go.Proofs.YtglijcdnnaekkaaGreat
/- CandidateNames: the program's side. -/
namespace Go.Proofs.YtglijcdnnaekkaaGreat
set_option linter.unusedVariables false
set_option linter.unusedSimpArgs false
open Go.RowKit

/-- What CandidateNames answers: the numbers of the names, and the code. -/
def CN (n : Int) (ll : List (List Int)) (is : List Nat) (code : Int) : Prop :=
  ((ll.any fun a => !typeB a) = true ∧ is = [] ∧ code = 1) ∨
  ((ll.any fun a => !typeB a) = false ∧ inB n 1 5 = false ∧ is = [] ∧ code = 2) ∨
  ((ll.any fun a => !typeB a) = false ∧ inB n 1 5 = true ∧ 60 < ll.length ∧ is = [] ∧ code = 2) ∨
  ((ll.any fun a => !typeB a) = false ∧ inB n 1 5 = true ∧ ll.length ≤ 60 ∧ (ll.any fun a => neS n a) = true ∧ is = [] ∧ code = 5) ∨
  ((ll.any fun a => !typeB a) = false ∧ inB n 1 5 = true ∧ ll.length ≤ 60 ∧ (ll.any fun a => neS n a) = false ∧ is = snK n (suitK ll) 14 ∧ code = 0)
theorem CN_all (n : Int) (ll : List (List Int)) : ∃ is code, CN n ll is code := by
  unfold CN
  cases h1 : (ll.any fun a => !typeB a)
  · cases h2 : inB n 1 5
    · exact ⟨[], 2, .inr (.inl ⟨rfl, rfl, rfl, rfl⟩)⟩
    · by_cases h3 : ll.length ≤ 60
      · cases h4 : (ll.any fun a => neS n a)
        · exact ⟨_, 0, .inr (.inr (.inr (.inr ⟨rfl, rfl, h3, rfl, rfl, rfl⟩)))⟩
        · exact ⟨[], 5, .inr (.inr (.inr (.inl ⟨rfl, rfl, h3, rfl, rfl, rfl⟩)))⟩
      · exact ⟨[], 2, .inr (.inr (.inl ⟨rfl, rfl, by omega, rfl, rfl⟩))⟩
  · exact ⟨[], 1, .inl ⟨rfl, rfl, rfl⟩⟩
theorem types_bd {ll : List (List Int)} (h : (ll.any fun a => !typeB a) = false) : ∀ i, i < ll.length → TypeP (gl ll i) := fun i hi => by
  rw [List.any_eq_false] at h
  have := h _ (gl_mem hi)
  exact typeB_p (by simpa using this)
set_option maxHeartbeats 1000000 in
theorem i_candidates (n : Int) (A : Option Addr) (L c : Nat) (ll : List (List Int)) (w : World) (hL : L = ll.length) (hl : L ≤ 1048576) (hrm : ∀ k, k < L → (gl ll k).length ≤ 1048576) (hs : II w w.heap.size A ll) :
    Calls Tryz.prog 107 #[.int .i64 n, .slice A L c] w (fun e w' => ∃ A2 cap, e = .returned (.slice A2 (snK n (suitK ll) 14).length cap) ∧ OwnS w' w.heap.size (.slice A2 (snK n (suitK ll) 14).length cap) (snK n (suitK ll) 14).length ((snK n (suitK ll) 14).map lbN) ∧ Below w.heap.size w w') := by
  have hnm := fun W gx (hss : II W W.heap.size A ll) (hgx : gx < W.heap.size) (g0 : W.cell? ⟨gx, 0, none⟩ = some (.slice A L c)) =>
    i_namesCand n gx (suitK ll) W (fun k hk _ nb A2 G c2 W2 hb hG hii => i_candE k hk nb A2 A G c2 L c gx ll W2 hG (by have := RK_len k hk; omega) hii hL hl hrm (hss.call hb) (by have := hb.size; omega) ((hb.cell (p := ⟨gx, 0, none⟩) hgx).trans g0))
  generalize snK n (suitK ll) 14 = is at *
  generalize hm : is.length = m at *
  have hb0 := (Below.refl w.heap.size w).alloc (Nat.le_refl _) (.cells #[.slice A L c] 29)
  have hs0 := hs.call hb0
  have g0 := (BK.new w 29 #[.slice A L c]).cell 0
  have g0 := g0.trans (rfl : _ = some (Value.slice A L c))
  have HM := Lib.hid hm
  clear hL hs hrm hm
  go_enter Tryz.func107, Tryz.ntmps107
  go_wp2_with (go_at_call 165; refine (hnm _ w.heap.size hs0 (by simp) g0).mono ?_; rintro e w1 ⟨v, rfl, ⟨bs, ho, hs1⟩, hb1⟩; obtain ⟨A2, c2, rfl, _⟩ := own_slice' ho; rw [HM.out] at ho ⊢)
  go_ret
  exact ⟨_, _, rfl, ⟨bs, own_mono ho (by simp), hs1⟩, bel_call hb0 hb1⟩
set_option maxHeartbeats 2000000 in
theorem i_CandidateNames (n : Int) (A : Option Addr) (L c : Nat) (ll : List (List Int)) (is : List Nat) (code : Int) (w : World) (hL : L = ll.length) (hl : L ≤ 1048576) (hrm : ∀ k, k < L → (gl ll k).length ≤ 1048576) (hs : II w w.heap.size A ll) (h : CN n ll is code) :
    Calls Tryz.prog 43 #[.int .i64 n, .slice A L c] w (OSC is code w) := by
  unfold CN at h
  have hbd := fun h => types_bd (ll := ll) h
  have hc1 := fun W h => i_idxC1C A L c 0 ll W W.heap.size hL hl (Nat.le_refl _) h hrm
  have hc2 := fun W gx hbd h hgx g0 => i_idxC2C A L c 0 ll W W.heap.size hL hl (Nat.le_refl _) h gx n hrm hbd hgx g0
  have hcd := fun W h => i_candidates n A L c ll W hL hl hrm h
  have hb0 := (Below.refl w.heap.size w).alloc (Nat.le_refl _) (.cells #[.int .i64 n] 2)
  have hs0 := hs.call hb0
  have g0 := (BK.new w 2 #[.int .i64 n]).cell 0
  have g0 := g0.trans (rfl : _ = some (Value.int .i64 n))
  have gA := fun W (h : Below (w.alloc (.cells #[.int .i64 n] 2)).heap.size (w.alloc (.cells #[.int .i64 n] 2)) W) => (h.cell (p := ⟨w.heap.size, 0, none⟩) (by simp)).trans g0
  generalize hb1 : (ll.any fun a => !typeB a) = b1 at *
  generalize hb2 : (ll.any fun a => neS n a) = b2 at *
  generalize snK n (suitK ll) 14 = is0 at *
  rw [← hL] at h hbd
  have HBD := Lib.hid hbd
  clear hb1 hb2 hL hrm hs hbd
  rcases h with ⟨rfl, rfl, rfl⟩ | ⟨rfl, h2, rfl, rfl⟩ | ⟨rfl, h2, h3, rfl, rfl⟩ | ⟨rfl, h2, h3, rfl, rfl, rfl⟩ | ⟨rfl, h2, h3, rfl, rfl, rfl⟩
  · go_enter Tryz.func43, Tryz.ntmps43
    go_wp2_with (go_at_call 103; refine (hc1 _ hs0).mono ?_; rintro e w1 ⟨rfl, hb1⟩)
    go_ret2
    exact ⟨none, 0, rfl, ⟨[], World.ownsRow_nil _ _ _ _, rfl⟩, bel_call hb0 hb1⟩
  · go_enter Tryz.func43, Tryz.ntmps43
    go_wp2_with (first
      | (go_at_call 103; refine (hc1 _ hs0).mono ?_; rintro e w1 ⟨rfl, hb1⟩; have g1 := gA _ hb1)
      | (go_at_call 105; go_in)
      | (go_at_call 76; refine (i_within _ _ _ _).mono ?_; rintro e w' ⟨rfl, nq, rfl⟩; rw [h2]))
    go_ret2
    exact ⟨none, 0, rfl, ⟨[], World.ownsRow_nil _ _ _ _, rfl⟩, below_drewN (bel_call hb0 hb1) _⟩
  · go_enter Tryz.func43, Tryz.ntmps43
    go_wp2_with (first
      | (go_at_call 103; refine (hc1 _ hs0).mono ?_; rintro e w1 ⟨rfl, hb1⟩; have g1 := gA _ hb1)
      | (go_at_call 105; go_in)
      | (go_at_call 76; refine (i_within _ _ _ _).mono ?_; rintro e w' ⟨rfl, nq, rfl⟩; rw [h2]))
    go_ret2
    exact ⟨none, 0, rfl, ⟨[], World.ownsRow_nil _ _ _ _, rfl⟩, below_drewN (bel_call hb0 hb1) _⟩
  · have hbd := fun i hi => (HBD.out rfl i hi).bd
    go_enter Tryz.func43, Tryz.ntmps43
    go_wp2_with (first
      | ((fail_if_success (have hx := g1)); go_at_call 103; refine (hc1 _ hs0).mono ?_; rintro e w1 ⟨rfl, hb1⟩; have g1 := gA _ hb1; have hs1 := hs0.call hb1)
      | (go_at_call 105; go_in)
      | (go_at_call 76; refine (i_within _ _ _ _).mono ?_; rintro e w' ⟨rfl, nq, rfl⟩; rw [h2])
      | (go_at_call 103; refine (hc2 _ _ hbd (hs1.call (below_drewN (Below.refl _ _) nq)) (by have := hb1.size; simp at this; show w.heap.size < w1.heap.size; omega) g1).mono ?_; rintro e w2 ⟨rfl, hb2⟩))
    go_ret2
    exact ⟨none, 0, rfl, ⟨[], World.ownsRow_nil _ _ _ _, rfl⟩, bel_call (below_drewN (bel_call hb0 hb1) _) hb2⟩
  · have hbd := fun i hi => (HBD.out rfl i hi).bd
    go_enter Tryz.func43, Tryz.ntmps43
    go_wp2_with (first
      | ((fail_if_success (have hx := g1)); go_at_call 103; refine (hc1 _ hs0).mono ?_; rintro e w1 ⟨rfl, hb1⟩; have g1 := gA _ hb1; have hs1 := hs0.call hb1)
      | (go_at_call 105; go_in)
      | (go_at_call 76; refine (i_within _ _ _ _).mono ?_; rintro e w' ⟨rfl, nq, rfl⟩; rw [h2])
      | (go_at_call 103; refine (hc2 _ _ hbd (hs1.call (below_drewN (Below.refl _ _) nq)) (by have := hb1.size; simp at this; show w.heap.size < w1.heap.size; omega) g1).mono ?_; rintro e w2 ⟨rfl, hb2⟩; have hs2 := (hs1.call (below_drewN (Below.refl _ _) nq)).call hb2; have g2 := (hb2.cell (p := ⟨w.heap.size, 0, none⟩) (by have := hb1.size; simp at this; show w.heap.size < w1.heap.size; omega)).trans g1)
      | (go_at_call 107; refine (hcd _ hs2).mono ?_; rintro e w3 ⟨A3, c3, rfl, ⟨bs, ho3, hs3⟩, hb3⟩))
    go_ret2
    have hz1 := hb1.size
    have hz2 := hb2.size
    simp at hz1
    exact ⟨_, _, rfl, ⟨bs, own_mono ho3 (by show w.heap.size ≤ w2.heap.size; have : w1.heap.size ≤ w2.heap.size := hz2; omega), hs3⟩, bel_call (bel_call (below_drewN (bel_call hb0 hb1) _) hb2) hb3⟩
end Go.Proofs.YtglijcdnnaekkaaGreat
/- CandidateNames: the reference's side. -/
namespace Go.Proofs.YtglijcdnnaekkaaGreat
set_option linter.unusedVariables false
set_option linter.unusedSimpArgs false
open Go.RowKit

theorem all_take {ll : List (List Int)} {k : Nat} {q : List Int → Bool} (h : k < ll.length) : (ll.take (k + 1)).all q = ((ll.take k).all q && q (gl ll k)) := by
  rw [gl_take_succ h, List.all_append]; simp
theorem CN.one {n : Int} {ll : List (List Int)} {is : List Nat} {code : Int} (h : CN n ll is code) (h1 : (ll.any fun a => !typeB a) = true) : is = [] ∧ code = 1 := by
  unfold CN at h; rw [h1] at h; simpa using h
theorem CN.two {n : Int} {ll : List (List Int)} {is : List Nat} {code : Int} (h : CN n ll is code) (h1 : (ll.any fun a => !typeB a) = false) (h2 : inB n 1 5 = false) : is = [] ∧ code = 2 := by
  unfold CN at h; rw [h1, h2] at h; simpa using h
theorem CN.two' {n : Int} {ll : List (List Int)} {is : List Nat} {code : Int} (h : CN n ll is code) (h1 : (ll.any fun a => !typeB a) = false) (h2 : inB n 1 5 = true) (h3 : 60 < ll.length) : is = [] ∧ code = 2 := by
  unfold CN at h; rw [h1, h2] at h
  rcases h with h | h | h | h | h
  · simp at h
  · simp at h
  · exact h.2.2.2
  · omega
  · omega
theorem CN.five {n : Int} {ll : List (List Int)} {is : List Nat} {code : Int} (h : CN n ll is code) (h1 : (ll.any fun a => !typeB a) = false) (h2 : inB n 1 5 = true) (h3 : ll.length ≤ 60) (h4 : (ll.any fun a => neS n a) = true) : is = [] ∧ code = 5 := by
  unfold CN at h; rw [h1, h2, h4] at h
  rcases h with h | h | h | h | h
  · simp at h
  · simp at h
  · omega
  · exact h.2.2.2.2
  · simp at h
theorem CN.ok {n : Int} {ll : List (List Int)} {is : List Nat} {code : Int} (h : CN n ll is code) (h1 : (ll.any fun a => !typeB a) = false) (h2 : inB n 1 5 = true) (h3 : ll.length ≤ 60) (h4 : (ll.any fun a => neS n a) = false) : is = snK n (suitK ll) 14 ∧ code = 0 := by
  unfold CN at h; rw [h1, h2, h4] at h
  rcases h with h | h | h | h | h
  · simp at h
  · simp at h
  · omega
  · simp at h
  · exact h.2.2.2.2
theorem any_no {ll : List (List Int)} {q : List Int → Bool} (h : ∀ j, j < ll.length → q (gl ll j) = false) : (ll.any q) = false := by
  rw [List.any_eq_false]
  intro a ha
  obtain ⟨j, hj, rfl⟩ := mem_gl.1 ha
  rw [h j hj]
  simp
theorem any_yes {ll : List (List Int)} {q : List Int → Bool} {j : Nat} (hj : j < ll.length) (h : q (gl ll j) = true) : (ll.any q) = true := by
  rw [List.any_eq_true]
  exact ⟨gl ll j, gl_mem hj, h⟩
theorem ob_nil (w : World) (e : TypeId) (base : Nat) (h : base ≤ w.heap.size) : (w.alloc (.cells #[] e)).ownsRow base e 1 (.slice (some ⟨w.heap.size, 0, none⟩) 0 0) 0 [] :=
  World.ownsRow_lit (base := base) (e := e) (size := 1) w #[] 0 h (by simp [maxLen]) rfl
set_option maxRecDepth 100000 in
set_option maxHeartbeats 8000000 in
theorem s_CandidateNames (n : Int) (A : Option Addr) (L c : Nat) (ll : List (List Int)) (is : List Nat) (code : Int) (w : World) (hL : L = ll.length) (hl : L ≤ 1048576) (hrm : ∀ k, k < L → (gl ll k).length ≤ 1048576) (hs : II w w.heap.size A ll) (h : CN n ll is code) :
    Calls Tryz.prog 44 #[.int .i64 n, .slice A L c] w (OSC is code w) := by
  have HL := Lib.hid hL
  have HRM := Lib.hid hrm
  have HCN := Lib.hid h
  clear hL hrm h
  go_enter Tryz.func44, Tryz.ntmps44
  go_wp2_with (fail)
  go_loopw [6] (fun u6 wr => ∃ k : Nat, k ≤ L ∧ u6 = .int .i64 k ∧ Hid (∀ j, j < k → typeB (gl ll j) = true) ∧ Below w.heap.size w wr) (fun u6 _ => L - (intOf u6).toNat)
  case atStart => exact ⟨0, Nat.zero_le _, rfl, fun j hj => by omega, Below.refl _ _⟩
  case round =>
    obtain ⟨k, hk, rfl, HI, hb⟩ := hrel
    have hsz := hb.size
    by_cases hlt : k < L
    · obtain ⟨b, off, rfl, hbb, hcell⟩ := hs.at (k := k) (by rw [← HL.out]; exact hlt)
      obtain ⟨A', c', e1, _, _, his⟩ := hcell k (by rw [← HL.out]; exact hlt)
      have e1 := (hb.cell (p := ⟨b, off + k, none⟩) hbb).trans e1
      have his := his.call hb
      have hml := HRM.out k hlt
      have hty := s_IsType A' (gl ll k).length c' (gl ll k) wr wr.heap.size rfl hml his
      clear hcell his
      cases ht : typeB (gl ll k)
      · rw [ht] at hty
        have HC := Lib.hid (HCN.out.one (any_yes (q := fun a => !typeB a) (j := k) (by rw [← HL.out]; exact hlt) (by simp [ht])))
        clear ht
        go_wp2_with (go_at_call 88; refine hty.mono ?_; rintro e w2 ⟨rfl, nq, rfl⟩)
        go_ret2
        rw [HC.out.1, HC.out.2]
        exact ⟨none, 0, rfl, ⟨[], World.ownsRow_nil _ _ _ _, rfl⟩, below_drewN hb _⟩
      · rw [ht] at hty
        have hn' : ∀ j, j < k + 1 → typeB (gl ll j) = true := fun j hj => by
          by_cases hjk : j = k
          · subst hjk; exact ht
          · exact HI.out j (by omega)
        have HN' := Lib.hid hn'
        clear hn' ht
        go_wp2_with (go_at_call 88; refine hty.mono ?_; rintro e w2 ⟨rfl, nq, rfl⟩)
        go_roundw
        case rel => exact ⟨k + 1, by omega, by go_num, HN'.out, below_drewN hb _⟩
        case measure => simp [intOf]; omega
    · obtain rfl : k = L := by omega
      have H1 := Lib.hid (any_no (ll := ll) (q := fun a => !typeB a) (fun j hj => by rw [HI.out j (by rw [HL.out]; exact hj)]; rfl))
      have HTP := Lib.hid (types_bd H1.out)
      obtain ⟨w1, rfl⟩ : ∃ w1 : World, w1 = wr := ⟨_, rfl⟩
      have hs1 := hs.call hb
      clear HI hs
      cases h2 : inB n 1 5
      · have HC := Lib.hid (HCN.out.two H1.out h2)
        go_wp2_with (go_at_call 64; refine (s_l01In _ _ _ _).mono ?_; rintro e w2 ⟨rfl, nq, rfl⟩; rw [h2])
        go_ret2
        rw [HC.out.1, HC.out.2]
        exact ⟨none, 0, rfl, ⟨[], World.ownsRow_nil _ _ _ _, rfl⟩, below_drewN hb _⟩
      by_cases h3 : 60 < k
      · have HC := Lib.hid (HCN.out.two' H1.out h2 (by rw [← HL.out]; exact h3))
        go_wp2_with (go_at_call 64; refine (s_l01In _ _ _ _).mono ?_; rintro e w2 ⟨rfl, nq, rfl⟩; rw [h2])
        go_ret2
        rw [HC.out.1, HC.out.2]
        exact ⟨none, 0, rfl, ⟨[], World.ownsRow_nil _ _ _ _, rfl⟩, below_drewN hb _⟩
      have h3 : k ≤ 60 := by omega
      have H2 := Lib.hid h2
      clear hsz hk
      go_wp2_with (go_at_call 64; refine (s_l01In _ _ _ _).mono ?_; rintro e w2 ⟨rfl, nq, rfl⟩; rw [H2.out])
      have hb2 := below_drewN hb nq
      have hs2 := hs1.call (below_drewN (Below.refl _ _) nq)
      clear hs1 hb h2
      generalize w1.drewN nq = w2 at *
      go_loopw [7] (fun u7 wr => ∃ i : Nat, i ≤ k ∧ u7 = .int .i64 i ∧ Hid (∀ j, j < i → neS n (gl ll j) = false) ∧ Below w2.heap.size w2 wr) (fun u7 _ => k - (intOf u7).toNat)
      case atStart => exact ⟨0, Nat.zero_le _, rfl, fun j hj => by omega, Below.refl _ _⟩
      case round =>
        obtain ⟨i, hi, rfl, HI, hb3⟩ := hrel
        by_cases hlt : i < k
        · obtain ⟨b, off, rfl, hbb, hcell⟩ := hs2.at (k := i) (by rw [← HL.out]; exact hlt)
          obtain ⟨A', c', e1, _, _, his⟩ := hcell i (by rw [← HL.out]; exact hlt)
          have e1 := (hb3.cell (p := ⟨b, off + i, none⟩) hbb).trans e1
          have his := his.call hb3
          have hml := HRM.out i hlt
          have hsm := s_l01Sum A' (gl ll i).length c' (gl ll i) wr wr.heap.size rfl hml his (HTP.out i (by rw [← HL.out]; exact hlt)).bd
          clear hcell his
          have hns : neS n (gl ll i) = !((gl ll i).sum == n) := rfl
          have HY := fun h => any_yes (ll := ll) (q := fun a => neS n a) (j := i) (by rw [← HL.out]; exact hlt) h
          have HNX : neS n (gl ll i) = false → ∀ j, j < i + 1 → neS n (gl ll j) = false := fun h j hj => by
            by_cases hjk : j = i
            · subst hjk; exact h
            · exact HI.out j (by omega)
          generalize neS n (gl ll i) = nb at *
          generalize (gl ll i).sum = s at *
          generalize (gl ll i).length = m at *
          cases ht : (s == n)
          · rw [ht] at hns
            have HC := Lib.hid (HCN.out.five H1.out H2.out (by rw [← HL.out]; exact h3) (HY hns))
            have ht2 : (s != n) = true := by unfold bne; rw [ht]; rfl
            clear HY HNX hns
            go_wp2_with (go_at_call 90; refine hsm.mono ?_; rintro e w4 ⟨rfl, nq, rfl⟩)
            go_ret2
            rw [HC.out.1, HC.out.2]
            exact ⟨none, 0, rfl, ⟨[], World.ownsRow_nil _ _ _ _, rfl⟩, below_drewN (hb2.trans (hb3.mono hb2.size)) _⟩
          · rw [ht] at hns
            have HN' := Lib.hid (HNX hns)
            have ht2 : (s != n) = false := by unfold bne; rw [ht]; rfl
            clear HY HNX hns
            go_wp2_with (go_at_call 90; refine hsm.mono ?_; rintro e w4 ⟨rfl, nq, rfl⟩)
            go_roundw
            case rel => exact ⟨i + 1, by omega, by go_num, HN'.out, below_drewN hb3 _⟩
            case measure => simp [intOf]; omega
        · obtain rfl : i = k := by omega
          have H4 := Lib.hid (any_no (ll := ll) (q := fun a => neS n a) (fun j hj => HI.out j (by rw [HL.out]; exact hj)))
          have HC := Lib.hid (HCN.out.ok H1.out H2.out (by rw [← HL.out]; exact h3) H4.out)
          obtain ⟨w3, rfl⟩ : ∃ w3 : World, w3 = wr := ⟨_, rfl⟩
          have hb4 := hb2.trans (hb3.mono hb2.size)
          have hs3 := hs2.call hb3
          clear HI hb3 hb2 hs2 HCN H1 H2 H4 HTP hi
          have hlst := fun W => s_l24List n W
          have hkj := fun j (h : j < (nmK n 14).length) => nmK_at h
          have hgk := fun k (hk : k < 14) nb (h : nb.toList = lbN k) W => s_l24Group k hk nb h W
          have hnl := nmK_le n 14
          have hyes := fun j h hq => filt_yes (ks := nmK n 14) (q := suitK ll) (j := j) h hq
          have hno := fun j h hq => filt_no (ks := nmK n 14) (q := suitK ll) (j := j) h hq
          have hstr := fun bs h j (hj : j < (nmK n 14).length) => strs_nm (bs := bs) (ks := nmK n 14) h hj
          have hsu : ∀ k, suitK ll k = (ll.take i).all fun xs => hasT (lbP k) (RK (lbP k) (lbG k)) xs := fun k => by rw [List.take_of_length_le (by rw [← HL.out]; exact Nat.le_refl _)]; rfl
          have hsn : snK n (suitK ll) 14 = (nmK n 14).filter (suitK ll) := rfl
          rw [hsn] at HC
          generalize suitK ll = sq at *
          generalize nmK n 14 = ks at *
          generalize hM : ks.length = M at *
          have HM := Lib.hid hM.symm
          have hlst2 : ∀ W, Calls Tryz.prog 108 #[.int .i64 n] W (fun e w' => ∃ A cap bs, e = .returned (.slice A M cap) ∧ w'.ownsRow W.heap.size 9 1 (.slice A M cap) M (strs bs) ∧ bs.map (·.toList) = ks.map lbN ∧ Below W.heap.size W w') := fun W => (hlst W).mono fun e w' ⟨v, e1, ⟨bs, e2, e3⟩, e4⟩ => by
            rw [hM] at e2
            obtain ⟨A, c, rfl, _⟩ := own_slice' e2
            exact ⟨A, c, bs, e1, e2, e3, e4⟩
          obtain ⟨i0, hi0, hz0, hz1, hz2⟩ := info_parts infoStr
          have HKJ := Lib.hid hkj
          have HGK := Lib.hid hgk
          have HSU := Lib.hid hsu
          have HY := Lib.hid hyes
          have HNO := Lib.hid hno
          have HSTR := Lib.hid hstr
          clear hlst hM hkj hgk hsu hyes hno hstr hsn
          have o8 := ob_nil w3 9 w3.heap.size (Nat.le_refl _)
          have hb5 := (Below.refl w3.heap.size w3).alloc (Nat.le_refl _) (.cells #[] 9)
          go_wp2_with (go_at_call 108; refine (hlst2 _).mono ?_; rintro e w4 ⟨Al, cl, bn, rfl, hon, hbn, hb6⟩)
          have o8 := own_below o8 hb6
          have hb56 := bel_call hb5 hb6
          have hne8 : ∀ g, (Value.slice (some ⟨w3.heap.size, 0, none⟩) 0 0).ownBlock = some g → (Value.slice Al M cl).ownBlock ≠ some g := fun g h1 h2 => by
            have h3 := (hon.lt g h2).1
            simp [Value.ownBlock] at h1
            simp at h3
            omega
          have hon := own_mono (base' := w3.heap.size) hon (by simp)
          have hbn' := HSTR.out bn hbn
          have HBN := Lib.hid hbn'
          have hz3 := hb4.size
          clear hb5 hb6 hbn hbn' hlst2
          go_loopw [8, 10] (fun u8 u10 wr => ∃ j q : Nat, j ≤ M ∧ q ≤ j ∧ u10 = .int .i64 j ∧ OwnS wr w3.heap.size u8 q (((ks.take j).filter sq).map lbN) ∧ Hid (q = ((ks.take j).filter sq).length) ∧ wr.ownsRow w3.heap.size 9 1 (.slice Al M cl) M (strs bn) ∧ (∀ g, u8.ownBlock = some g → (Value.slice Al M cl).ownBlock ≠ some g) ∧ Below w3.heap.size w3 wr) (fun _ u10 _ => M - (intOf u10).toNat)
          case atStart => exact ⟨0, 0, Nat.zero_le _, Nat.le_refl _, rfl, ⟨[], by simpa [strs] using o8, rfl⟩, rfl, hon, hne8, hb56⟩
          case round =>
            clear o8 hon hne8 hb56
            obtain ⟨ws, rfl⟩ : ∃ ws : World, ws = wr := ⟨_, rfl⟩
            obtain ⟨j, q, hj, hq, rfl, ⟨bs, hown, hbs⟩, HQ, hon, hne, hb⟩ := hrel
            obtain ⟨A8, c8, rfl, _⟩ := own_slice' hown
            have hsz := hb.size
            by_cases hlt : j < M
            · obtain ⟨nb, hnb, hnl2⟩ := HBN.out j hlt
              obtain ⟨gn, hgn, _, hgl, hcn⟩ := own_src hon (by omega)
              have e1 := hcn j _ hnb
              have hkk := HKJ.out j hlt
              have hyy := HY.out j hlt
              have hnn := HNO.out j hlt
              generalize ks.getD j 0 = k at *
              obtain ⟨hk14, hkp⟩ := hkk
              obtain ⟨p1, p2, _, _, _⟩ := lb_in k hk14
              have hgk := fun W => HGK.out k hk14 nb hnl2 W
              have hsu := HSU.out k
              have hRin := RK_in k hk14
              have hRL := RK_len k hk14
              have hst := fun Ar Ax cr m d xs W hs hm hml hxs => s_suitable (lbP k) Ar Ax (RK (lbP k) (lbG k)).length cr m d (RK (lbP k) (lbG k)) xs W p1 (by omega) rfl (by omega) hRin hs hm hml hxs
              clear hkp
              generalize RK (lbP k) (lbG k) = lk at *
              generalize lbP k = pk at *
              generalize hLk : lk.length = Lk at *
              have HLK := Lib.hid hLk.symm
              have HNB := Lib.hid hnl2
              have HBS := Lib.hid hbs
              have HSUK := Lib.hid hsu
              subst hgn
              clear hLk hnl2 hbs hcn hnb hRin hsu
              go_wp2_with (go_at_call 98; refine (hgk _).mono ?_; rintro e w5 ⟨v5, rfl, ho5, hb5⟩; obtain ⟨Ak, ck, rfl, _⟩ := own_slice' ho5; rw [← HLK.out] at ho5 ⊢; have hA := (hb5.alloc hb5.size (.cells #[.int .i64 (pk : Int), .slice Ak Lk ck] 26)); have hisr := (own_isn ho5 HLK.out).call ((Below.refl w5.heap.size w5).alloc (Nat.le_refl _) (.cells #[.int .i64 (pk : Int), .slice Ak Lk ck] 26)); have hBG := BK.new w5 26 #[.int .i64 (pk : Int), .slice Ak Lk ck])
              have hA3 := hb.trans (hA.mono hsz)
              have e2 := (hA.cell (p := ⟨gn, j, none⟩) hgl).trans e1
              have hown5 := own_below hown hA
              have hon5 := own_below hon hA
              have hs5 := hs3.call hA3
              have hzA := hA.size
              have hgA : w5.heap.size < (w5.alloc (.cells #[.int .i64 (pk : Int), .slice Ak Lk ck] 26)).heap.size := by simp
              have hglA : gn < (w5.alloc (.cells #[.int .i64 (pk : Int), .slice Ak Lk ck] 26)).heap.size := by omega
              obtain ⟨qf, hqf⟩ : ∃ qf : List Int → Bool, qf = fun xs => hasT pk lk xs := ⟨_, rfl⟩
              have hst2 : ∀ Ax m d xs W, IS W W.heap.size Ak lk → m = xs.length → m ≤ 1048576 → IS W W.heap.size Ax xs → Calls Tryz.prog 109 #[.agg #[.int .i64 (pk : Nat), .slice Ak Lk ck], .slice Ax m d] W (Go.Proofs.YtglijcdnnaekkaaGreat.M (.bool (qf xs)) W) := fun Ax m d xs W a b c e => by
                rw [hqf]; exact hst Ak Ax ck m d xs W a b c e
              have hsqk : sq k = (ll.take i).all qf := by rw [hqf]; exact HSUK.out
              have HSQ := Lib.hid hsqk
              clear hst hqf hgk HSUK hA ho5 hb5 hown hon hsqk e1
              generalize w5.alloc (.cells #[.int .i64 (pk : Int), .slice Ak Lk ck] 26) = wA at *
              go_loopw [12, 13] (fun u12 u13 wr => ∃ (t : Nat) (bb : Bool), t ≤ i ∧ u13 = .int .i64 t ∧ u12 = .bool bb ∧ Hid (bb = (ll.take t).all qf) ∧ Below wA.heap.size wA wr) (fun _ u13 _ => i - (intOf u13).toNat)
              case atStart => exact ⟨0, true, Nat.zero_le _, rfl, rfl, by unfold Hid; simp, Below.refl _ _⟩
              case round =>
                obtain ⟨t, bb, ht, rfl, rfl, HBB, hb7⟩ := hrel
                obtain ⟨wt, rfl⟩ : ∃ wt : World, wt = wr := ⟨_, rfl⟩
                by_cases hlt2 : t < i
                · obtain ⟨b, off, rfl, hbb, hcell⟩ := hs5.at (k := t) (by rw [← HL.out]; exact hlt2)
                  obtain ⟨A', c', e3, _, _, his⟩ := hcell t (by rw [← HL.out]; exact hlt2)
                  have e3 := (hb7.cell (p := ⟨b, off + t, none⟩) hbb).trans e3
                  have his := his.call hb7
                  have hisg := hisr.call hb7
                  have hml := HRM.out t hlt2
                  obtain ⟨g0, g1, _, _⟩ := (hBG.below hb7 hgA).two
                  have HT := Lib.hid (all_take (q := qf) (k := t) (ll := ll) (by rw [← HL.out]; exact hlt2))
                  clear hcell
                  generalize gl ll t = xs at *
                  have hst3 := fun (W : World) (h : Below wt.heap.size wt W) => hst2 A' xs.length c' xs W (hisg.call h) rfl hml (his.call h)
                  generalize qf xs = rb at *
                  generalize hX : xs.length = X at *
                  clear hX his hisg
                  have r0 := fun d os => cell_regrown g0 d os
                  have r1 := fun d os => cell_regrown g1 d os
                  have r3 := fun d os => cell_regrown e3 d os
                  clear g0 g1 e3
                  cases bb
                  · go_wp2_with (fail)
                    refine wp_region_quiet_below (by kernel_rfl) (by kernel_rfl) ?_
                    repeat (first | go_big_quiet_step ((go_at_call 109; go_loud (exact Calls.regrown_of (hst3 _ (below_regrown _ _ _))))) | quiet_step ((go_at_call 109; go_loud (exact Calls.regrown_of (hst3 _ (below_regrown _ _ _))))))
                    refine wpQuiet_nil ?_
                    intro _ hw'
                    obtain ⟨⟨dq, osq⟩, hw''⟩ := hw'
                    subst hw''
                    have hb8 := below_regrown wt dq osq
                    generalize Go.Sort.grow (redrawn wt dq) osq = w8 at *
                    have hb78 := hb7.trans (hb8.mono hb7.size)
                    go_wp2_with (fail)
                    go_roundw
                    case rel => exact ⟨t + 1, false, by omega, by go_num, rfl, by unfold Hid; rw [HT.out, ← HBB.out]; rfl, hb78⟩
                    case measure => simp [intOf]; omega
                  · go_wp2_with (fail)
                    refine wp_region_quiet_below (by kernel_rfl) (by kernel_rfl) ?_
                    repeat (first | go_big_quiet_step ((go_at_call 109; go_loud (exact Calls.regrown_of (hst3 _ (below_regrown _ _ _))))) | quiet_step ((go_at_call 109; go_loud (exact Calls.regrown_of (hst3 _ (below_regrown _ _ _))))))
                    refine wpQuiet_nil ?_
                    intro _ hw'
                    obtain ⟨⟨dq, osq⟩, hw''⟩ := hw'
                    subst hw''
                    have hb8 := below_regrown wt dq osq
                    generalize Go.Sort.grow (redrawn wt dq) osq = w8 at *
                    have hb78 := hb7.trans (hb8.mono hb7.size)
                    go_wp2_with (fail)
                    go_roundw
                    case rel => exact ⟨t + 1, rb, by omega, by go_num, rfl, by unfold Hid; rw [HT.out, ← HBB.out]; rfl, hb78⟩
                    case measure => simp [intOf]; omega
                · obtain rfl : t = i := by omega
                  have hsqk : sq k = bb := by rw [HSQ.out, HBB.out]
                  have e4 := (hb7.cell (p := ⟨gn, j, none⟩) hglA).trans e2
                  have hz7 := hb7.size
                  cases bb
                  · have HNX := Lib.hid (hnn hsqk)
                    clear hnn hyy hsqk
                    go_wp2_with (fail)
                    go_roundw
                    case rel => exact ⟨j + 1, q, by omega, by omega, by go_num, ⟨bs, own_below hown5 hb7, by rw [HNX.out]; exact HBS.out⟩, by unfold Hid; rw [HNX.out]; exact HQ.out, own_below hon5 hb7, hne, hA3.trans (hb7.mono (by omega))⟩
                    case measure => simp [intOf]; omega
                  · have HYX := Lib.hid (hyy hsqk)
                    clear hnn hyy hsqk
                    go_wp2_with (at_builtin; refine wpList_append_src rfl (.tmp 77) (.tmp 82) 68 rfl w3.heap.size 9 i0 (.string ⟨#[]⟩) 1 16 Tryz.underlying68 hi0 hz0 hz1 hz2 rfl (by omega) (.slice A8 q c8) q (strs bs) rfl (World.ownsRow.alloc (own_below hown5 hb7) _) (some ⟨wt.heap.size, 0, none⟩) 1 1 [.string nb] rfl rfl (one_src wt _ _) (by intro h; cases h) (by intro u hu; simp at hu; subst hu; rfl) (by simp only [maxLen]; omega) (by omega) (by simp; omega) ?_; intro v9 w9 hown9 hg9 hat9)
                    go_roundw
                    case rel =>
                      refine ⟨j + 1, q + 1, by omega, by omega, by go_num, ⟨bs ++ [nb], by simpa [strs] using hown9, ?_⟩, ?_, ?_, ?_, ?_⟩
                      · rw [HYX.out, List.map_append, List.map_append, HBS.out]; simp [HNB.out]
                      · unfold Hid; rw [HYX.out, List.length_append, HQ.out]; rfl
                      · refine World.ownsRow.kept (World.ownsRow.alloc (own_below hon5 hb7) _) hg9 (.inr fun e => ?_)
                        exact hne gn e.symm rfl
                      · intro g h1 h2
                        rcases hat9 with h | h
                        · rw [h] at h1; exact hne g h1 h2
                        · rw [h] at h1
                          simp [Value.ownBlock] at h2
                          injection h1 with h1
                          simp at h1
                          omega
                      · exact ((hA3.trans (hb7.mono (by omega))).alloc (by omega) _).grown hg9 (by simp; omega) (fun g hg => (hown5.lt g hg).1)
                    case measure => simp [intOf]; omega
            · obtain rfl : j = M := by omega
              rw [List.take_of_length_le (by rw [← HM.out]; exact Nat.le_refl _)] at hbs HQ
              go_wp2_with (fail)
              go_ret2
              rw [HC.out.1, HC.out.2]
              unfold OSC
              rw [← HQ.out]
              exact ⟨A8, c8, rfl, ⟨bs, own_mono hown hz3, hbs⟩, bel_call hb4 hb⟩
end Go.Proofs.YtglijcdnnaekkaaGreat
/- CandidateNames: the law. -/
namespace Go.Proofs.YtglijcdnnaekkaaGreat
set_option linter.unusedVariables false
set_option linter.unusedSimpArgs false
open Go.RowKit

theorem below_undrew {B : Nat} {w w' : World} {n : Nat} (h : Below B (w.drewN n) w') : Below B w w' := ⟨h.os, h.tape, h.output, h.size, h.block⟩
theorem CN.len {n : Int} {ll : List (List Int)} {is : List Nat} {code : Int} (h : CN n ll is code) : is.length ≤ 5 := by
  unfold CN at h
  rcases h with ⟨_, rfl, _⟩ | ⟨_, _, rfl, _⟩ | ⟨_, _, _, rfl, _⟩ | ⟨_, _, _, _, rfl, _⟩ | ⟨_, h2, _, _, rfl, _⟩
  · simp
  · simp
  · simp
  · simp
  · unfold snK
    refine Nat.le_trans (List.length_filter_le _ _) ?_
    have : ∀ m : Fin 6, (nmK ((m : Nat) : Int) 14).length ≤ 5 := by decide +kernel
    have h3 : 1 ≤ n ∧ n ≤ 5 := by simpa [inB] using h2
    obtain ⟨m, rfl⟩ : ∃ m : Nat, n = m := ⟨n.toNat, by omega⟩
    exact this ⟨m, by omega⟩
end Go.Proofs.YtglijcdnnaekkaaGreat
