/- IsSuitable. -/
import Derived.Test.YtkhadipfibllnaaA100
import Derived.Test.YtkhadipfibllnaaA97
namespace Go.Proofs.Ytkhadipfibllnaa
set_option linter.unusedVariables false
set_option linter.unusedSimpArgs false
open Go.RowKit

set_option maxRecDepth 10000 in
set_option maxHeartbeats 1000000 in
theorem c_contains (A : Option Addr) (L c : Nat) (v : Value) (b : Bool) (w : World) (hc : Calls Try.prog 98 #[.slice A L c, v] w (fun e w' => ∃ k : Int, e = .returned (.int .i64 k) ∧ decide (0 ≤ k) = b ∧ Below w.heap.size w w')) :
    Calls Try.prog 60 #[.slice A L c, v] w (M (.bool b) w) := by
  cases b
  · have hc2 := hc.mono (R' := fun e w' => ∃ k : Int, e = .returned (.int .i64 k) ∧ k < 0 ∧ Below w.heap.size w w') (fun e w' ⟨k, h1, h2, h3⟩ => ⟨k, h1, by have := of_decide_eq_false h2; omega, h3⟩)
    clear hc
    go_enter Try.func60, Try.ntmps60
    go_wp2_with (go_at_call 98; refine hc2.mono ?_; rintro e w1 ⟨k, rfl, hk, hb1⟩)
    go_ret
    exact ⟨ret_bool (by first | rfl | (simp; omega)), hb1⟩
  · have hc2 := hc.mono (R' := fun e w' => ∃ k : Int, e = .returned (.int .i64 k) ∧ 0 ≤ k ∧ Below w.heap.size w w') (fun e w' ⟨k, h1, h2, h3⟩ => ⟨k, h1, of_decide_eq_true h2, h3⟩)
    clear hc
    go_enter Try.func60, Try.ntmps60
    go_wp2_with (go_at_call 98; refine hc2.mono ?_; rintro e w1 ⟨k, rfl, hk, hb1⟩)
    go_ret
    exact ⟨ret_bool (by first | rfl | (simp; omega)), hb1⟩
set_option maxHeartbeats 1000000 in
theorem i_idxTy (A : Option Addr) (L c n : Nat) (ll : List (List Int)) (w : World) (B : Nat) (hL : L = ll.length) (hl : L ≤ 1048576) (hB : B ≤ w.heap.size) (hs : II w B A ll) (Ax : Option Addr) (m d gx : Nat) (xs : List Int) (hn1 : 1 ≤ n) (hn6 : n ≤ 6) (hin : ∀ k, k < L → InR n (gl ll k)) (hm : m = xs.length) (hml : m ≤ 1048576) (hxs : IS w w.heap.size Ax xs) (hgx : gx < w.heap.size) (hx : w.cell? ⟨gx, 0, none⟩ = some (.slice Ax m d)) :
    Calls Try.prog 98 #[.slice A L c, .func (.func 104) #[] #[.pointer (some ⟨gx, 0, none⟩)]] w (fun e w' => ∃ k : Int, e = .returned (.int .i64 k) ∧ decide (0 ≤ k) = (ll.any fun a => decide (tyS a = xs)) ∧ Below w.heap.size w w') := by
  have HL := Lib.hid hL
  clear hL
  go_enter Try.func98, Try.ntmps98
  go_wp2_with (fail)
  go_loopw [8] (fun u8 wr => ∃ k : Nat, k ≤ L ∧ u8 = .int .i64 k ∧ Hid (∀ j, j < k → (fun a : List Int => decide (tyS a = xs)) (gl ll j) = false) ∧ Below w.heap.size w wr) (fun u8 _ => L - (intOf u8).toNat)
  case atStart => exact ⟨0, Nat.zero_le _, rfl, fun j hj => by omega, Below.refl _ _⟩
  case round =>
    obtain ⟨ws, rfl⟩ : ∃ ws : World, ws = wr := ⟨_, rfl⟩
    obtain ⟨k, hk, rfl, HI, hb⟩ := hrel
    have hsz := hb.size
    by_cases hlt : k < L
    · obtain ⟨b, off, rfl, hbb, hcell⟩ := hs.at (k := k) (by rw [← HL.out]; exact hlt)
      obtain ⟨A', c', e1, _, _, his⟩ := hcell k (by rw [← HL.out]; exact hlt)
      have e1 := (hb.cell (p := ⟨b, off + k, none⟩) (by show b < _; omega)).trans e1
      have his := (his.below (hb.mono hB)).more (show B ≤ ws.heap.size by omega)
      have hR := hin k hlt; rw [hR.1] at e1; have hp := fun W hW => i_hasTy1 A' Ax n c' m d gx (gl ll k) xs W hn1 hn6 hR (IS.call his hW) hm hml ((hxs.call hb).call hW) (by have := hW.size; omega) ((hW.cell (p := ⟨gx, 0, none⟩) (by show gx < _; omega)).trans ((hb.cell (p := ⟨gx, 0, none⟩) hgx).trans hx)); clear hR hxs
      clear hcell
      by_cases hneg : (fun a : List Int => decide (tyS a = xs)) (gl ll k) = true
      · have hany : (ll.any fun a => decide (tyS a = xs)) = true := by
          rw [List.any_eq_true]
          exact ⟨gl ll k, gl_mem (by rw [← HL.out]; exact hlt), hneg⟩
        have HANY := Lib.hid hany
        have hneg : (fun a : List Int => decide (tyS a = xs)) (gl ll k) = true := hneg
        simp only [hneg] at hp
        clear hany his hs
        go_wp2_with (first | (go_at_call 104; refine (hp _ (Below.refl _ _)).mono ?_; rintro e w2 ⟨rfl, hb2⟩) | go_in)
        go_ret
        exact ⟨k, rfl, by rw [HANY.out]; simp, hb.trans (hb2.mono hsz)⟩
      · have hneg : (fun a : List Int => decide (tyS a = xs)) (gl ll k) = false := by rw [Bool.eq_false_iff]; exact hneg
        simp only [hneg] at hp
        have hn' : ∀ j, j < k + 1 → (fun a : List Int => decide (tyS a = xs)) (gl ll j) = false := fun j hj => by
          by_cases hjk : j = k
          · subst hjk; exact hneg
          · exact HI.out j (by omega)
        have HN' := Lib.hid hn'
        clear hn' his hs
        go_wp2_with (first | (go_at_call 104; refine (hp _ (Below.refl _ _)).mono ?_; rintro e w2 ⟨rfl, hb2⟩) | go_in)
        go_roundw
        case rel => exact ⟨k + 1, by omega, by go_num, HN'.out, hb.trans (hb2.mono hsz)⟩
        case measure => simp [intOf]; omega
    · obtain rfl : k = L := by omega
      have hany : (ll.any fun a => decide (tyS a = xs)) = false := by
        rw [List.any_eq_false]
        intro a ha
        obtain ⟨j, hj, rfl⟩ := mem_gl.1 ha
        have h9 := HI.out j (by rw [HL.out]; exact hj)
        exact Bool.eq_false_iff.1 h9
      have HANY := Lib.hid hany
      clear hany
      go_wp2_with (fail)
      go_ret
      exact ⟨-1, rfl, by rw [HANY.out]; simp, hb⟩
theorem i_idxTyC (A : Option Addr) (L c n : Nat) (ll : List (List Int)) (w : World) (B : Nat) (hL : L = ll.length) (hl : L ≤ 1048576) (hB : B ≤ w.heap.size) (hs : II w B A ll) (Ax : Option Addr) (m d gx : Nat) (xs : List Int) (hn1 : 1 ≤ n) (hn6 : n ≤ 6) (hin : ∀ k, k < L → InR n (gl ll k)) (hm : m = xs.length) (hml : m ≤ 1048576) (hxs : IS w w.heap.size Ax xs) (hgx : gx < w.heap.size) (hx : w.cell? ⟨gx, 0, none⟩ = some (.slice Ax m d)) :
    Calls Try.prog 60 #[.slice A L c, .func (.func 104) #[] #[.pointer (some ⟨gx, 0, none⟩)]] w (M (.bool (ll.any fun a => decide (tyS a = xs))) w) := c_contains A L c _ _ w (i_idxTy A L c n ll w B hL hl hB hs Ax m d gx xs hn1 hn6 hin hm hml hxs hgx hx)
theorem mem_InR {n : Nat} {l : List Int} {L : Nat} (hk : InK n l) (hL : L = l.length) : ∀ k, k < L → InR n (gl (memL n l) k) := fun k h => mem_in hk k (by rw [memL_len, ← hL]; exact h)
set_option maxRecDepth 10000 in
set_option maxHeartbeats 2000000 in
theorem i_hasType (n : Nat) (A Ax : Option Addr) (L c m d : Nat) (l xs : List Int) (w : World) (hn : 1 ≤ n) (hn6 : n ≤ 6) (hL : L = l.length) (hl : L ≤ 1048576) (hk : InK n l) (hs : IS w w.heap.size A l) (hm : m = xs.length) (hml : m ≤ 1048576) (hxs : IS w w.heap.size Ax xs) :
    Calls Try.prog 65 #[.agg #[.int .i64 n, .slice A L c], .slice Ax m d] w (M (.bool (hasT n l xs)) w) := by
  have hmi := mem_InR hk hL
  have hml' := memL_len n l
  have hT : hasT n l xs = (memL n l).any fun a => decide (tyS a = xs) := rfl
  rw [hT]
  clear hT
  have HL := Lib.hid hL
  have HK := Lib.hid hk
  have HM := Lib.hid hm
  have HMI := Lib.hid hmi
  have HML := Lib.hid hml'
  clear hL hk hm hmi hml'
  obtain ⟨f0, f1, _, _⟩ := (BK.new w 30 #[.int .i64 (n : Int), .slice A L c]).two
  have hB1 := BK.new (w.alloc (.cells #[.int .i64 (n : Int), .slice A L c] 30)) 28 #[.slice Ax m d]
  have hb0 := ((Below.refl w.heap.size w).alloc (Nat.le_refl _) (.cells #[.int .i64 (n : Int), .slice A L c] 30)).alloc (by simp) (.cells #[.slice Ax m d] 28)
  have hs0 := hs.call hb0
  have hx0 := hxs.call hb0
  have f0 := (((Below.refl _ _).alloc (Nat.le_refl _) (.cells #[.slice Ax m d] 28)).cell (p := ⟨w.heap.size, 0, none⟩) (by simp)).trans f0
  have f1 := (((Below.refl _ _).alloc (Nat.le_refl _) (.cells #[.slice Ax m d] 28)).cell (p := ⟨w.heap.size, 0 + 1, none⟩) (by simp)).trans f1
  have g0 := hB1.cell 0
  rw [World.size_alloc] at g0
  have g0 := g0.trans (rfl : _ = some (Value.slice Ax m d))
  go_enter Try.func65, Try.ntmps65
  go_wp2_with (first
    | (go_at_call 61; refine (i_members n A L c l _ hn hn6 HL.out hl HK.out hs0).mono ?_; rintro e w2 ⟨Am, cm, vs, rfl, hom, hrm, hb2⟩; rw [HML.out, ← HL.out] at hom ⊢)
    | (go_at_call 60; refine (i_idxTyC Am L cm n (memL n l) _ _ (by rw [HML.out, HL.out]) hl (Nat.le_refl _) (OwnII.ii hom hrm) Ax m d (w.heap.size + 1) xs hn hn6 HMI.out HM.out hml (hx0.call hb2) (by have := hb2.size; simp at this; omega) ((hb2.cell (p := ⟨w.heap.size + 1, 0, none⟩) (by simp)).trans g0)).mono ?_; rintro e w3 ⟨rfl, hb3⟩))
  go_ret
  exact ⟨rfl, bel_call (bel_call hb0 hb2) hb3⟩
set_option maxRecDepth 10000 in
set_option maxHeartbeats 4000000 in
theorem s_suitable (n : Nat) (A Ax : Option Addr) (L c m d : Nat) (l xs : List Int) (w : World) (hn : 1 ≤ n) (hn6 : n ≤ 6) (hL : L = l.length) (hl : L ≤ 1048576) (hk : InK n l) (hs : IS w w.heap.size A l) (hm : m = xs.length) (hml : m ≤ 1048576) (hxs : IS w w.heap.size Ax xs) :
    Calls Try.prog 64 #[.agg #[.int .i64 n, .slice A L c], .slice Ax m d] w (M (.bool (hasT n l xs)) w) := by
  have hmi := mem_InR hk hL
  have hml' := memL_len n l
  rw [← hL] at hml'
  have hT : hasT n l xs = (memL n l).any fun a => decide (tyS a = xs) := rfl
  rw [hT]
  clear hT
  have hse := fun W h => s_elements n A L c l W hn hn6 hL hl hk h
  generalize memL n l = ll at *
  have HL := Lib.hid hL
  have HM := Lib.hid hm
  have HML := Lib.hid hml'
  clear hL hk hm hml'
  obtain ⟨f0, f1, _, _⟩ := (BK.new w 30 #[.int .i64 (n : Int), .slice A L c]).two
  have hb0 := ((Below.refl w.heap.size w).alloc (Nat.le_refl _) (.cells #[.int .i64 (n : Int), .slice A L c] 30))
  have hs0 := hs.call hb0
  go_enter Try.func64, Try.ntmps64
  go_wp2_with (go_at_call 102; refine (hse _ hs0).mono ?_; rintro e w2 ⟨Am, cm, vs, rfl, hom, hrm, hb2⟩; rw [HML.out] at hom ⊢)
  have hii := OwnII.ii hom hrm
  have hb2' := bel_call hb0 hb2
  have hz2 := hb2'.size
  have hx2 := hxs.call hb2'
  clear hom hrm hb2 hb0 hs0 hs f0 f1 hxs
  go_loopw [6] (fun u6 wr => ∃ k : Nat, k ≤ L ∧ u6 = .int .i64 k ∧ Hid (∀ j, j < k → decide (tyS (gl ll j) = xs) = false) ∧ Below w2.heap.size w2 wr) (fun u6 _ => L - (intOf u6).toNat)
  case atStart => exact ⟨0, Nat.zero_le _, rfl, fun j hj => by omega, Below.refl _ _⟩
  case round =>
    obtain ⟨ws, rfl⟩ : ∃ ws : World, ws = wr := ⟨_, rfl⟩
    obtain ⟨k, hk, rfl, HI, hb⟩ := hrel
    have hsz := hb.size
    by_cases hlt : k < L
    · obtain ⟨b, off, rfl, hbb, hcell⟩ := hii.at (k := k) (by rw [HML.out]; exact hlt)
      obtain ⟨A', c', e1, _, _, his⟩ := hcell k (by rw [HML.out]; exact hlt)
      have e1 := (hb.cell (p := ⟨b, off + k, none⟩) (by show b < _; omega)).trans e1
      have his := (his.below hb).more (show w2.heap.size ≤ ws.heap.size by omega)
      have hR := hmi k hlt
      rw [hR.1] at e1
      have hty := fun W hW => s_l21Type A' n c' (gl ll k) W hn hn6 hR (IS.call his hW)
      have hle := cycL_len (gl ll k)
      rw [hR.1] at hle
      have htl := tyS_len (gl ll k)
      have hx3 := hx2.call hb
      have hneg0 : ∀ b, decide (tyS (gl ll k) = xs) = b → Hid (decide (tyS (gl ll k) = xs) = b) := fun b h => h
      have hany : decide (tyS (gl ll k) = xs) = true → (ll.any fun a => decide (tyS a = xs)) = true := fun h => by
        rw [List.any_eq_true]
        exact ⟨gl ll k, gl_mem (by rw [HML.out]; exact hlt), h⟩
      have hno : decide (tyS (gl ll k) = xs) = false → ∀ j, j < k + 1 → decide (tyS (gl ll j) = xs) = false := fun h j hj => by
        by_cases hjk : j = k
        · subst hjk; exact h
        · exact HI.out j (by omega)
      clear hcell hR his hneg0
      generalize tyS (gl ll k) = ty at *
      generalize (cycL (gl ll k)).length = T at *
      have HTL := Lib.hid htl.symm
      have HM0 := Lib.hid HM.out
      have hsame := fun (W : World) (A2 : Option Addr) (c2 : Nat) (h1 : IS W W.heap.size A2 ty) (h2 : IS W W.heap.size Ax xs) => s_same A2 Ax T c2 m d ty xs W W.heap.size W.heap.size HTL.out HM.out (by omega) hml h1 h2
      clear htl
      generalize decide (ty = xs) = bb at *
      cases bb
      · have HN' := Lib.hid (hno rfl)
        clear hno hany
        go_wp2_with (first
          | (go_at_call 103; refine (hty _ (Below.refl _ _)).mono ?_; rintro e w3 ⟨v, rfl, ho, hb3⟩; obtain ⟨A2, c2, rfl, _⟩ := own_slice' ho; have hx4 := hx3.call hb3)
          | (go_at_call 82; refine (hsame _ _ _ (own_isn ho HTL.out) hx4).mono ?_; rintro e w4 ⟨rfl, nq, rfl⟩))
        go_roundw
        case rel => exact ⟨k + 1, by omega, by go_num, HN'.out, below_drewN (hb.trans (hb3.mono hsz)) _⟩
        case measure => simp [intOf]; omega
      · have HN' := Lib.hid (hany rfl)
        clear hno hany
        go_wp2_with (first
          | (go_at_call 103; refine (hty _ (Below.refl _ _)).mono ?_; rintro e w3 ⟨v, rfl, ho, hb3⟩; obtain ⟨A2, c2, rfl, _⟩ := own_slice' ho; have hx4 := hx3.call hb3)
          | (go_at_call 82; refine (hsame _ _ _ (own_isn ho HTL.out) hx4).mono ?_; rintro e w4 ⟨rfl, nq, rfl⟩))
        go_ret
        exact ⟨ret_bool HN'.out.symm, below_drewN (bel_call (hb2'.trans (hb.mono hz2)) hb3) _⟩
    · obtain rfl : k = L := by omega
      have hany : (ll.any fun a => decide (tyS a = xs)) = false := by
        rw [List.any_eq_false]
        intro a ha
        obtain ⟨j, hj, rfl⟩ := mem_gl.1 ha
        exact Bool.eq_false_iff.1 (HI.out j (by rw [← HML.out]; exact hj))
      have HANY := Lib.hid hany
      clear hany
      go_wp2_with (fail)
      go_ret
      exact ⟨ret_bool HANY.out.symm, hb2'.trans (hb.mono hz2)⟩
set_option maxRecDepth 10000 in
set_option maxHeartbeats 2000000 in
theorem i_IsSuitable (s : ByteArray) (i : Nat) (hi : i < 14) (hs : s.toList = lbN i) (Ax : Option Addr) (m d : Nat) (xs : List Int) (w : World) (hm : m = xs.length) (hml : m ≤ 1048576) (hxs : IS w w.heap.size Ax xs) : Calls Try.prog 31 #[.string s, .slice Ax m d] w (MBI (hasT (lbP i) (RK (lbP i) (lbG i)) xs) 0 w) := by
  have hg := fun W => i_GroupNamed s _ _ _ (.inl ⟨i, hi, hs, rfl, rfl, rfl⟩) W
  have hin := RK_in i hi
  have hlen := (nv_code (s := s) (.inl ⟨i, hi, hs, rfl, rfl, rfl⟩)).2
  obtain ⟨p1, p2, _, _, _⟩ := lb_in i hi
  generalize RK (lbP i) (lbG i) = l at *
  generalize lbP i = p at *
  generalize hL : l.length = L at *
  have hht := fun A c W h1 h2 => i_hasType p A Ax L c m d l xs W p1 (by omega) hL.symm (by omega) hin h1 hm hml h2
  have HL := Lib.hid hL.symm
  generalize hasT p l xs = b at *
  clear hs hL hin hm
  go_enter Try.func31, Try.ntmps31
  go_wp2_with (first
    | (go_at_call 19; refine (hg _).mono ?_; rintro e w1 ⟨v, rfl, ho, hb1⟩; obtain ⟨Ar, cr, rfl, _⟩ := own_slice' ho; rw [← HL.out] at ho; rw [← HL.out]; obtain ⟨c0, c1, _, _⟩ := BK.two (BK.new w1 30 #[.int .i64 (p : Int), .slice Ar L cr]); have hb1a := hb1.alloc hb1.size (.cells #[.int .i64 (p : Int), .slice Ar L cr] 30); have hisr := (own_isn ho HL.out).call ((Below.refl w1.heap.size w1).alloc (Nat.le_refl _) (.cells #[.int .i64 (p : Int), .slice Ar L cr] 30)))
    | (go_at_call 65; refine (hht _ _ _ hisr (hxs.call hb1a)).mono ?_; rintro e w3 ⟨rfl, hb3⟩))
  go_ret2
  exact ⟨rfl, bel_call hb1a hb3⟩
theorem i_IsSuitable_no (s : ByteArray) (h : NoN s) (v : Value) (w : World) : Calls Try.prog 31 #[.string s, v] w (MBI false 4 w) := by
  have hg := fun W => i_GroupNamed s _ _ _ (.inr ⟨h, rfl, rfl, rfl⟩) W
  clear h
  go_enter Try.func31, Try.ntmps31
  go_wp2_with (go_at_call 19; refine (hg _).mono ?_; rintro e w1 ⟨v, rfl, ho, hb1⟩; obtain ⟨Ar, cr, rfl, _⟩ := own_slice' ho)
  go_ret2
  exact ⟨rfl, hb1.alloc hb1.size _⟩
set_option maxRecDepth 10000 in
set_option maxHeartbeats 2000000 in
theorem s_IsSuitable (s : ByteArray) (i : Nat) (hi : i < 14) (hs : s.toList = lbN i) (Ax : Option Addr) (m d : Nat) (xs : List Int) (w : World) (hm : m = xs.length) (hml : m ≤ 1048576) (hxs : IS w w.heap.size Ax xs) : Calls Try.prog 29 #[.string s, .slice Ax m d] w (MBI (hasT (lbP i) (RK (lbP i) (lbG i)) xs) 0 w) := by
  have hp := fun W => s_l24Points i hi s hs W
  have hg := fun W => s_l24Group i hi s hs W
  have hin := RK_in i hi
  have hlen := (nv_code (s := s) (.inl ⟨i, hi, hs, rfl, rfl, rfl⟩)).2
  obtain ⟨p1, p2, _, _, _⟩ := lb_in i hi
  generalize RK (lbP i) (lbG i) = l at *
  generalize lbP i = p at *
  have hpz : ((p : Int) == 0) = false := by rw [beq_eq_false_iff_ne]; omega
  generalize hL : l.length = L at *
  have hht := fun A c W h1 h2 => s_suitable p A Ax L c m d l xs W p1 (by omega) hL.symm (by omega) hin h1 hm hml h2
  have HL := Lib.hid hL.symm
  generalize hasT p l xs = b at *
  clear hs hL hin hm
  go_enter Try.func29, Try.ntmps29
  go_wp2_with (first
    | (go_at_call 53; refine (hp _).mono ?_; rintro e w1 ⟨rfl, hb1⟩)
    | (go_at_call 54; refine (hg _).mono ?_; rintro e w2 ⟨v, rfl, ho, hb2⟩; obtain ⟨Ar, cr, rfl, _⟩ := own_slice' ho; rw [← HL.out] at ho; rw [← HL.out]; have hb3 := bel_call hb1 hb2)
    | (go_at_call 64; refine (hht _ _ _ (own_isn ho HL.out) (hxs.call hb3)).mono ?_; rintro e w3 ⟨rfl, hb4⟩))
  go_ret2
  exact ⟨rfl, bel_call hb3 hb4⟩
theorem s_IsSuitable_no (s : ByteArray) (h : NoN s) (v : Value) (w : World) : Calls Try.prog 29 #[.string s, v] w (MBI false 4 w) := by
  go_enter Try.func29, Try.ntmps29
  go_wp2_with (go_at_call 53; refine (s_l24Points_no s h _).mono ?_; rintro e w1 ⟨rfl, nq, rfl⟩)
  go_ret2
  exact ⟨rfl, below_drewN (Below.refl _ _) _⟩
end Go.Proofs.Ytkhadipfibllnaa
