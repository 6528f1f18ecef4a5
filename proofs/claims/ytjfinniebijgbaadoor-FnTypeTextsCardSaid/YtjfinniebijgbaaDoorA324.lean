/- Draws of texts. -/
import Derived.Test.YtjfinniebijgbaaDoorA279
import Derived.Test.YtjfinniebijgbaaDoorA318
import Derived.Deep.RegionLaw
import Derived.Great.Frames
namespace Go.Proofs.YtjfinniebijgbaaDoor
set_option linter.unusedVariables false
set_option linter.unusedSimpArgs false
open Go.RowKit
open Go.Lib hiding intOf

theorem orb_up (a : List Int) : ∀ (f k : Nat) (sn : List Bool) (cy : List Int), (orb a f k sn cy).2.length ≤ cy.length + f
  | 0, _, _, _ => Nat.le_refl _
  | f + 1, k, sn, cy => by
    unfold orb
    split
    · exact Nat.le_add_right _ _
    · have := orb_up a f (gt a k).toNat (sn.set k true) (cy ++ [(k : Int)])
      rw [List.length_append, List.length_singleton] at this
      omega
theorem cyc_up (a : List Int) : ∀ (m i : Nat) (sn : List Bool) (ll : List (List Int)), (∀ l ∈ ll, l.length ≤ a.length + 1) → ∀ l ∈ cycS a m i sn ll, l.length ≤ a.length + 1
  | 0, _, _, _, h, l, hl => h l (by simpa [cycS] using hl)
  | m + 1, i, sn, ll, h, l, hl => by
    unfold cycS at hl
    split at hl
    · exact cyc_up a m _ _ _ h l hl
    · refine cyc_up a m _ _ _ (fun l' hl' => ?_) l hl
      rw [List.mem_append, List.mem_singleton] at hl'
      rcases hl' with h1 | h1
      · exact h l' h1
      · subst h1
        have := orb_up a (a.length + 1) i sn []
        simpa using this
/-- A list of few digits. -/
def DGT (xs : List Int) : Prop := xs.length ≤ 7 ∧ ∀ k, k < xs.length → 0 ≤ gt xs k ∧ gt xs k ≤ 9
theorem tyS_dg {a : List Int} (h : a.length ≤ 6) : DGT (tyS a) := by
  refine ⟨by rw [tyS_len]; have := cycL_len a; omega, fun k hk => ?_⟩
  have hm : gt (tyS a) k ∈ tyS a := by simp [gt, List.getElem?_eq_getElem hk]
  unfold tyS at hm
  rw [List.mem_mergeSort] at hm
  unfold lnL at hm
  rw [List.mem_map] at hm
  obtain ⟨c, hc, e⟩ := hm
  have := cyc_up a a.length 0 (List.replicate a.length false) [] (fun l hl => by simp at hl) c hc
  have e2 : gt (tyS a) k = (c.length : Int) := e.symm
  omega
theorem itoa_dig {x : Int} (h : 0 ≤ x ∧ x ≤ 9) : ∃ c : UInt8, itoa x = [c] := by
  obtain ⟨m, rfl⟩ : ∃ m : Nat, x = m := ⟨x.toNat, by omega⟩
  rw [itoa_nonneg, decDigits_one (by omega)]
  exact ⟨_, rfl⟩
theorem itx_dig {xs : List Int} (h : DGT xs) : ∀ l ∈ itx xs, l.length = 1 := fun l hl => by
  unfold itx at hl
  rw [List.mem_map] at hl
  obtain ⟨x, hx, rfl⟩ := hl
  obtain ⟨k, hk, e⟩ := List.mem_iff_getElem.1 hx
  have hb := h.2 k hk
  have hg : gt xs k = x := by simp [gt, List.getElem?_eq_getElem hk, e]
  rw [hg] at hb
  obtain ⟨c, h1⟩ := itoa_dig hb
  rw [h1]
  rfl
set_option maxRecDepth 20000 in
set_option maxHeartbeats 2000000 in
theorem s_l01JoinD (A : Option Addr) (n c : Nat) (xs : List Int) (w : World) (hn : n = xs.length) (ht : DGT xs) (hs : IS w w.heap.size A xs) :
    Calls Tryd.prog 22 #[.slice A n c, .string ⟨#[46]⟩] w (M (.string (bl (jn 46 (itx xs)))) w) := by
  have hl6 := ht.1
  have hjl := fun k => jn_len 46 (itx (xs.take k)) (fun l hl => by
    have hm : l ∈ itx xs := by
      unfold itx at hl ⊢
      rw [List.mem_map] at hl ⊢
      obtain ⟨x, hx, e⟩ := hl
      exact ⟨x, List.mem_of_mem_take hx, e⟩
    rw [itx_dig ht l hm]
    omega)
  have HN := Lib.hid hn
  have HT := Lib.hid ht
  have HJ := Lib.hid hjl
  clear hn ht hjl
  go_enter Tryd.func22, Tryd.ntmps22
  go_wp2_with (fail)
  go_loopw [5, 6] (fun u5 u6 wr => ∃ k : Nat, k ≤ n ∧ u6 = .int .i64 (k : Int) ∧ u5 = .string (bl (jn 46 (itx (xs.take k)))) ∧ Below w.heap.size w wr) (fun _ u6 _ => n - (intOf u6).toNat)
  case atStart => exact ⟨0, Nat.zero_le _, rfl, rfl, Below.refl _ _⟩
  case round =>
    obtain ⟨wo, rfl⟩ : ∃ wo : World, wo = wr := ⟨_, rfl⟩
    obtain ⟨k, hk, rfl, rfl, hb⟩ := hrel
    by_cases hlt : k < n
    · have hkx : k < xs.length := by rw [← HN.out]; exact hlt
      obtain ⟨b, off, rfl, hbb, hcell⟩ := hs.at (k := k) hkx
      have e1 := (hb.cell (p := ⟨b, off + k, none⟩) hbb).trans (hcell k hkx)
      have hx := HT.out.2 k hkx
      have hsn := itx_snoc hkx
      have hj := HJ.out k
      rw [itx_len, List.length_take] at hj
      obtain ⟨ch, hch⟩ := itoa_dig hx
      have hnb := fun W => s_l01Number (gt xs k) W (by omega) (by omega)
      change ∀ W, Calls Tryd.prog 39 #[.int .i64 (gt xs k)] W (M (.string (bl (itoa (gt xs k)))) W) at hnb
      have hxl : (bl (itoa (gt xs k))).size = 1 := by rw [bl_size, hch]; rfl
      have hsz : (bl (jn 46 (itx (xs.take k)))).size ≤ 14 := by rw [bl_size]; omega
      by_cases h0 : 0 < k
      · have heq : bl (jn 46 (itx (xs.take k))) ++ ⟨#[46]⟩ ++ bl (itoa (gt xs k)) = bl (jn 46 (itx (xs.take (k + 1)))) := by
          rw [show (⟨#[46]⟩ : ByteArray) = bl [46] from rfl, bl_app, bl_app, hsn, jn_snoc _ _ _ (by
            intro e
            have := congrArg List.length e
            rw [itx_len, List.length_take, List.length_nil] at this
            omega), List.append_assoc]
          rfl
        have HEQ := Lib.hid heq
        have hsz2 : (bl (jn 46 (itx (xs.take k))) ++ ⟨#[46]⟩).size ≤ 15 := by
          have h := hsz
          rw [bl_size] at h
          rw [show (⟨#[46]⟩ : ByteArray) = bl [46] from rfl, bl_app, bl_size, List.length_append, List.length_singleton]
          omega
        generalize bl (jn 46 (itx (xs.take k))) = ta at *
        generalize bl (itoa (gt xs k)) = tx at *
        generalize gt xs k = x at *
        have hp0 : (0 : Int) < (k : Int) := by omega
        have hq1 : ¬ 9223372036854775807 < ta.size + 1 := by omega
        have hq2 : ¬ 9223372036854775807 < (ta ++ ⟨#[46]⟩).size + tx.size := by omega
        clear hcell hsn heq hch hj hsz hsz2 hxl
        go_wp2_with (go_at_call 39; refine (hnb _).mono ?_; rintro e w2 ⟨rfl, hb2⟩)
        go_roundw
        case rel => exact ⟨k + 1, by omega, by go_num, congrArg Value.string HEQ.out, bel_call hb hb2⟩
        case measure => simp [intOf]; omega
      · have heq : bl (jn 46 (itx (xs.take k))) ++ bl (itoa (gt xs k)) = bl (jn 46 (itx (xs.take (k + 1)))) := by
          rw [bl_app, hsn, show k = 0 by omega]
          rfl
        have HEQ := Lib.hid heq
        generalize bl (jn 46 (itx (xs.take k))) = ta at *
        generalize bl (itoa (gt xs k)) = tx at *
        generalize gt xs k = x at *
        have hp0 : ¬ (0 : Int) < (k : Int) := by omega
        have hq2 : ¬ 9223372036854775807 < ta.size + tx.size := by omega
        clear hcell hsn heq hch hj hsz hxl
        go_wp2_with (go_at_call 39; refine (hnb _).mono ?_; rintro e w2 ⟨rfl, hb2⟩)
        go_roundw
        case rel => exact ⟨k + 1, by omega, by go_num, congrArg Value.string HEQ.out, bel_call hb hb2⟩
        case measure => simp [intOf]; omega
    · have HE := Lib.hid (show xs.take k = xs by rw [show k = xs.length by have := HN.out; omega, List.take_length])
      obtain rfl : k = n := by omega
      rw [HE.out]
      generalize bl (jn 46 (itx xs)) = tx at *
      go_wp2_with (fail)
      go_ret
      exact ⟨rfl, hb⟩
theorem jn_dig {xs : List Int} (h : DGT xs) : (bl (jn 46 (itx xs))).size ≤ 14 := by
  have h1 := jn_len 46 (itx xs) (fun l hl => by rw [itx_dig h l hl]; omega)
  rw [itx_len] at h1
  rw [bl_size]
  have := h.1
  omega
/-- A text out of a source. -/
def TXD (g : Nat) (w : World) (e : Ending) (w' : World) : Prop := ∃ r : ByteArray, e = .returned (.string r) ∧ r.size ≤ 2001 ∧ SRC w' g ∧ Up g w.heap.size w w'
def lt8 (k : Nat) : UInt8 := ([48, 35, 46, 47, 32, 97, 45, 10] : List UInt8).getD k 0
theorem lt8_at (W : World) (k : Nat) (hk : k < 8) : (W.alloc (.cells #[.string ⟨#[48]⟩, .string ⟨#[35]⟩, .string ⟨#[46]⟩, .string ⟨#[47]⟩, .string ⟨#[32]⟩, .string ⟨#[97]⟩, .string ⟨#[45]⟩, .string ⟨#[10]⟩] 9)).cell? ⟨W.heap.size, k, none⟩ = some (.string ⟨#[lt8 k]⟩) := by
  rw [World.cell?_alloc_at (w := W) #[.string ⟨#[48]⟩, .string ⟨#[35]⟩, .string ⟨#[46]⟩, .string ⟨#[47]⟩, .string ⟨#[32]⟩, .string ⟨#[97]⟩, .string ⟨#[45]⟩, .string ⟨#[10]⟩] _ W.heap.size k rfl]
  match k, hk with
  | 0, _ => rfl
  | 1, _ => rfl
  | 2, _ => rfl
  | 3, _ => rfl
  | 4, _ => rfl
  | 5, _ => rfl
  | 6, _ => rfl
  | 7, _ => rfl
theorem fin4 (a : Act) (d : Option Tmp) (v : Value) (hd : d = some 4) (h : 4 < a.tmps.size) : (a.put d v).tmps.getD 4 undef = v := by
  subst hd
  exact Act.eval_put_same a 4 v h
theorem ext_size (t : ByteArray) (a b : Nat) : (t.extract a b).size ≤ t.size := by
  rw [ByteArray.size_extract]
  omega
set_option maxRecDepth 20000 in
set_option maxHeartbeats 3000000 in
theorem s_damage (g : Nat) (t : ByteArray) (w : World) (hs : SRC w g) (ht : t.size ≤ 1000) : Calls Tryd.prog 37 #[.pointer (some ⟨g, 0, none⟩), .string t] w (TXD g w) := by
  have hgl := hs.lt
  have hn1 := s_nextI g ((t.size : Int) + 1) (by omega) w hs
  have hw0 : IntKind.i64.wrap ((t.size : Int) + 1) = (t.size : Int) + 1 := IntWalk.i64_in _ (by omega)
  go_enter Tryd.func37, Tryd.ntmps37
  go_wp2_with (fail)
  refine hn1.mono ?_
  rintro e w1 ⟨k, rfl, hk, hs1, hu1⟩
  have hk1 : k ≤ t.size := by omega
  have hk2 : (k : Int) ≤ (t.size : Int) := by omega
  have hn2 := s_nextI g 8 (by omega) w1 hs1
  clear hn1 hs
  obtain ⟨ta, hta⟩ : ∃ ta, t.extract 0 k = ta := ⟨_, rfl⟩
  obtain ⟨tb, htb⟩ : ∃ tb, t.extract k t.size = tb := ⟨_, rfl⟩
  obtain ⟨tc, htc⟩ : ∃ tc, t.extract (k + 1) t.size = tc := ⟨_, rfl⟩
  have sa : ta.size ≤ 1000 := by rw [← hta]; exact Nat.le_trans (ext_size _ _ _) ht
  have sb : tb.size ≤ 1000 := by rw [← htb]; exact Nat.le_trans (ext_size _ _ _) ht
  have sc : tc.size ≤ 1000 := by rw [← htc]; exact Nat.le_trans (ext_size _ _ _) ht
  go_wp2_with (fail)
  refine hn2.mono ?_
  rintro e w2 ⟨j, rfl, hj, hs2, hu2⟩
  have u2 := hu1.call hu2
  have hz1 := hu1.size
  have hz2 := hu2.size
  clear hn2 hs1 hu1 hu2
  have hj4 : j = 0 ∨ j = 1 ∨ j = 2 ∨ 2 < j := by omega
  rcases hj4 with rfl | rfl | rfl | hj2
  · go_wp2_with (fail)
    go_ret
    exact ⟨_, rfl, by omega, hs2, u2⟩
  · have hn3 := fun W h => s_nextI g 8 (by omega) W h
    have hq1 : ¬ 9223372036854775807 < ta.size + 1 := by omega
    have hsA : SRC (w2.alloc (.cells #[.string ⟨#[48]⟩, .string ⟨#[35]⟩, .string ⟨#[46]⟩, .string ⟨#[47]⟩, .string ⟨#[32]⟩, .string ⟨#[97]⟩, .string ⟨#[45]⟩, .string ⟨#[10]⟩] 9)) g := hs2.call ((Below.refl _ _).alloc (Nat.le_refl _) _)
    have huA : Up g w.heap.size w (w2.alloc (.cells #[.string ⟨#[48]⟩, .string ⟨#[35]⟩, .string ⟨#[46]⟩, .string ⟨#[47]⟩, .string ⟨#[32]⟩, .string ⟨#[97]⟩, .string ⟨#[45]⟩, .string ⟨#[10]⟩] 9)) := u2.thenB ((Below.refl _ _).alloc (Nat.le_refl _) _)
    have hgl2 : g < w2.heap.size := hs2.lt
    have hszz : ∀ c : UInt8, ¬ 9223372036854775807 < (ta ++ ⟨#[c]⟩).size + tb.size := fun c => by
      rw [ByteArray.size_append]
      have : (⟨#[c]⟩ : ByteArray).size = 1 := rfl
      omega
    have hrs : ∀ c : UInt8, (ta ++ ⟨#[c]⟩ ++ tb).size ≤ 2001 := fun c => by
      rw [ByteArray.size_append, ByteArray.size_append]
      have : (⟨#[c]⟩ : ByteArray).size = 1 := rfl
      omega
    have HRS := Lib.hid hrs
    have hsz3 : ¬ 9223372036854775807 < ta.size + 1 + tb.size := by omega
    clear hrs
    go_wp2_with (fail)
    go_region_law
      (go_simp; go_at_call 36; refine (hn3 _ (by first | exact hs2 | exact hsA)).mono ?_; rintro e w5 ⟨k2, rfl, hk8, hs5, hu5⟩; have hk9 : k2 < 8 := Int.ofNat_lt.mp hk8; have hcA := lt8_at w5 k2 hk9; have hqz := hszz (lt8 k2); have hr9 := HRS.out (lt8 k2); try (have hcB := (hu5.cell (p := ⟨w2.heap.size, k2, none⟩) (by simp) (by simp; omega)).trans (lt8_at w2 k2 hk9)); obtain ⟨cc, hcc⟩ : ∃ cc, lt8 k2 = cc := ⟨_, rfl⟩; rw [hcc] at hcA hqz hr9; (try rw [hcc] at hcB); (try clear hcc); obtain ⟨rr, hrr⟩ : ∃ rr, ta ++ ⟨#[cc]⟩ ++ tb = rr := ⟨_, rfl⟩; rw [hrr] at hr9)
    · go_wp2_with (fail)
      have hu6 : Up g (w2.alloc (.cells #[.string ⟨#[48]⟩, .string ⟨#[35]⟩, .string ⟨#[46]⟩, .string ⟨#[47]⟩, .string ⟨#[32]⟩, .string ⟨#[97]⟩, .string ⟨#[45]⟩, .string ⟨#[10]⟩] 9)).heap.size (w2.alloc (.cells #[.string ⟨#[48]⟩, .string ⟨#[35]⟩, .string ⟨#[46]⟩, .string ⟨#[47]⟩, .string ⟨#[32]⟩, .string ⟨#[97]⟩, .string ⟨#[45]⟩, .string ⟨#[10]⟩] 9)) w5 := ⟨hu5.os, hu5.tape, hu5.output, hu5.size, hu5.block⟩
      have hu7 := huA.call hu6
      go_ret
      refine ⟨_, ?_, (by assumption : _ ≤ 2001), hs5, hu7⟩
      refine congrArg Ending.returned (fin4 _ _ _ (by rfl) ?_)
      simp only [Act.size_put]
      simp
    · go_wp2_with (fail)
      have hu6 : Up g w2.heap.size w2 w5 := ⟨hu5.os, hu5.tape, hu5.output, hu5.size, hu5.block⟩
      have hu7 := (u2.call hu6).thenB ((Below.refl w5.heap.size w5).alloc (Nat.le_refl _) (.cells #[.string ⟨#[48]⟩, .string ⟨#[35]⟩, .string ⟨#[46]⟩, .string ⟨#[47]⟩, .string ⟨#[32]⟩, .string ⟨#[97]⟩, .string ⟨#[45]⟩, .string ⟨#[10]⟩] 9))
      have hs7 : SRC (w5.alloc (.cells #[.string ⟨#[48]⟩, .string ⟨#[35]⟩, .string ⟨#[46]⟩, .string ⟨#[47]⟩, .string ⟨#[32]⟩, .string ⟨#[97]⟩, .string ⟨#[45]⟩, .string ⟨#[10]⟩] 9)) g := hs5.call ((Below.refl _ _).alloc (Nat.le_refl _) _)
      go_ret
      refine ⟨_, ?_, (by assumption : _ ≤ 2001), hs7, hu7⟩
      refine congrArg Ending.returned (fin4 _ _ _ (by rfl) ?_)
      simp only [Act.size_put]
      simp
  · have hl2 : ((2 : Nat) : Int) = 2 := rfl
    have hszz : ¬ 9223372036854775807 < ta.size + tc.size := by omega
    have hrs : (ta ++ tc).size ≤ 2000 := by rw [ByteArray.size_append]; omega
    have HRS := Lib.hid hrs
    clear hrs
    by_cases hkl : (k : Int) < (t.size : Int)
    · have hk3 : (k : Int) + 1 ≤ (t.size : Int) := by omega
      have hk4 : 0 ≤ (k : Int) + 1 := by omega
      have hwk : IntKind.i64.wrap ((k : Int) + 1) = (k : Int) + 1 := IntWalk.i64_in _ (by omega)
      go_wp2_with (fail)
      go_region_law (fail)
      all_goals
        go_wp2_with (fail)
        go_ret
        refine ⟨_, congrArg Ending.returned (fin4 _ _ _ (by rfl) ?_), Nat.le_trans HRS.out (by omega), hs2, u2.drewN 1⟩
        simp only [Act.size_put]
        simp
    · go_wp2_with (fail)
      go_ret
      exact ⟨_, rfl, by omega, hs2, u2⟩
  · have e0 : ((j : Int) == 0) = false := by rw [beq_eq_false_iff_ne]; omega
    have e1 : ((j : Int) == 1) = false := by rw [beq_eq_false_iff_ne]; omega
    have e2 : ((j : Int) == 2) = false := by rw [beq_eq_false_iff_ne]; omega
    go_wp2_with (fail)
    go_ret
    exact ⟨_, rfl, by omega, hs2, u2⟩
end Go.Proofs.YtjfinniebijgbaaDoor
