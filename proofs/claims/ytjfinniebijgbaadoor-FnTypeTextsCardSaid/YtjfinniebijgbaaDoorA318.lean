/- Texts of types: on both sides. -/
import Derived.Test.YtjfinniebijgbaaDoorA313
namespace Go.Proofs.YtjfinniebijgbaaDoor
set_option linter.unusedVariables false
set_option linter.unusedSimpArgs false
open Go.RowKit
open Go.Lib hiding intOf

/-- The library's MaxLen holds some number, from here on. -/
def MW (w : World) : Prop := ∀ W, Below w.heap.size w W → ∃ m, W.cell? ⟨0, 0, none⟩ = some (.int .i64 m)
theorem MW.below {w w' : World} (h : MW w) (hb : Below w.heap.size w w') : MW w' := fun W hW => h W (bel_call hb hW)
theorem VW.mw {w : World} (h : VW w) : MW w := fun W hW => (h W hW).2.2.2
def itx (xs : List Int) : List (List UInt8) := xs.map itoa
theorem itx_len (xs : List Int) : (itx xs).length = xs.length := by simp [itx]
theorem itx_snoc {xs : List Int} {k : Nat} (h : k < xs.length) : itx (xs.take (k + 1)) = itx (xs.take k) ++ [itoa (gt xs k)] := by
  unfold itx
  rw [List.take_succ_eq_append_getElem h, List.map_append]
  simp [gt, List.getElem?_eq_getElem h]
theorem itoa_one {x : Int} (h : 1 ≤ x ∧ x ≤ 6) : ∃ c : UInt8, itoa x = [c] ∧ c ≠ 44 ∧ c ≠ 46 ∧ digB c = true := by
  obtain ⟨m, rfl⟩ : ∃ m : Nat, x = m := ⟨x.toNat, by omega⟩
  rw [itoa_nonneg, decDigits_one (by omega)]
  have hd := dg_toNat m (by omega)
  refine ⟨_, rfl, ?_, ?_, ?_⟩
  · intro e
    rw [e] at hd
    have : (44 : UInt8).toNat = 44 := rfl
    omega
  · intro e
    rw [e] at hd
    have : (46 : UInt8).toNat = 46 := rfl
    omega
  · unfold digB
    rw [hd]
    simp
    omega
theorem itx_one {xs : List Int} (h : TypeP xs) : ∀ l ∈ itx xs, l.length = 1 ∧ ∀ c ∈ l, c ≠ 44 ∧ c ≠ 46 := fun l hl => by
  unfold itx at hl
  rw [List.mem_map] at hl
  obtain ⟨x, hx, rfl⟩ := hl
  obtain ⟨k, hk, e⟩ := List.mem_iff_getElem.1 hx
  have hb := h.1 k hk
  have hg : gt xs k = x := by simp [gt, List.getElem?_eq_getElem hk, e]
  rw [hg] at hb
  obtain ⟨c, h1, h2, h3, _⟩ := itoa_one ⟨hb.1, hb.2.1⟩
  rw [h1]
  exact ⟨rfl, fun d hd => by rw [List.mem_singleton] at hd; subst hd; exact ⟨h2, h3⟩⟩
theorem jn_len (c : UInt8) : ∀ ws : List (List UInt8), (∀ l ∈ ws, l.length ≤ 1) → (jn c ws).length ≤ 2 * ws.length
  | [], _ => by simp [jn]
  | [x], h => by have := h x (by simp); simp [jn]; omega
  | x :: y :: r, h => by
    have h1 := h x (by simp)
    have h2 := jn_len c (y :: r) (fun l hl => h l (List.mem_cons_of_mem _ hl))
    rw [jn, List.length_append, List.length_cons, List.length_cons]
    omega
theorem i_decS (m : Nat) (w : World) (h : m < 100) : Calls Tryd.prog 51 #[.int .i64 m] w (Q (.string (bl (itoa (m : Int)))) w) := by
  have hf : Calls Tryd.prog 66 #[.int .i64 m, .int .i64 10] w (fun e w' => e = .returned (.string (bl (itoa (m : Int)))) ∧ w' = w) := by
    rw [itoa_nonneg]
    exact Tryd.strconv_FormatInt_10_small m h w
  generalize bl (itoa (m : Int)) = s at *
  go_enter Tryd.func51, Tryd.ntmps51
  go_wp2_with (go_at_call 66; refine hf.mono ?_; rintro e w2 ⟨rfl, rfl⟩)
  go_ret
  exact ⟨rfl, 0, rfl⟩
theorem strs_get {ws : List (List UInt8)} {j : Nat} {x : ByteArray} (h : (ws.map bl)[j]? = some x) : (strs ws)[j]? = some (.string x) := by
  rw [List.getElem?_map] at h
  unfold strs
  rw [List.getElem?_map]
  cases hq : ws[j]? with
  | none => rw [hq] at h; cases h
  | some l => rw [hq] at h; simp at h ⊢; exact h
theorem map_bl (ws : List (List UInt8)) : (ws.map bl).map (·.data.toList) = ws := by
  rw [List.map_map]
  conv => rhs; rw [← List.map_id ws]
  apply List.map_congr_left
  intro l _
  simp [bl_toList]
set_option maxRecDepth 20000 in
set_option maxHeartbeats 2000000 in
theorem i_commas (A : Option Addr) (n c : Nat) (xs : List Int) (w : World) (hn : n = xs.length) (ht : TypeP xs) (hs : IS w w.heap.size A xs) :
    Calls Tryd.prog 43 #[.slice A n c] w (M (.string (bl (jn 44 (itx xs)))) w) := by
  obtain ⟨i0, hi, hz0, hz1, hz2⟩ := info_parts infoTx
  obtain ⟨hl1, hl6⟩ := ht.len
  have hjl := jn_len 44 (itx xs) (fun l hl => by rw [(itx_one ht l hl).1]; omega)
  rw [itx_len] at hjl
  have HN := Lib.hid hn
  have HT := Lib.hid ht
  clear hn ht
  go_enter Tryd.func43, Tryd.ntmps43
  go_wp2_with (fail)
  go_loopw [3, 8] (fun u3 u8 wr => ∃ (k c3 : Nat) (A3 : Option Addr), k ≤ n ∧ u8 = .int .i64 (k : Int) ∧ u3 = .slice A3 k c3 ∧ Hid (wr.ownsRow w.heap.size 9 1 (.slice A3 k c3) k (strs (itx (xs.take k)))) ∧ Below w.heap.size w wr) (fun _ u8 _ => n - (intOf u8).toNat)
  case atStart => exact ⟨0, 0, none, Nat.zero_le _, rfl, rfl, World.ownsRow_nil _ _ _ _, Below.refl _ _⟩
  case round =>
    obtain ⟨wo, rfl⟩ : ∃ wo : World, wo = wr := ⟨_, rfl⟩
    obtain ⟨k, c3, A3, hk, rfl, rfl, HO, hb⟩ := hrel
    have hbs := hb.size
    by_cases hlt : k < n
    · have hkx : k < xs.length := by rw [← HN.out]; exact hlt
      obtain ⟨b, off, rfl, hbb, hcell⟩ := hs.at (k := k) hkx
      have e1 := (hb.cell (p := ⟨b, off + k, none⟩) hbb).trans (hcell k hkx)
      have hx := HT.out.1 k hkx
      have HSN := Lib.hid (itx_snoc hkx)
      obtain ⟨m, hm⟩ : ∃ m : Nat, gt xs k = m := ⟨(gt xs k).toNat, by omega⟩
      rw [hm] at e1 HSN hx
      have hd := fun W => i_decS m W (by omega)
      generalize itoa (m : Int) = tx at *
      clear hcell hm
      go_wp2_with (first
        | (go_at_call 51; refine (hd _).mono ?_; rintro e w2 ⟨rfl, q2, rfl⟩)
        | (at_builtin; refine wpList_append_own _ rfl (.tmp 12) (.tmp 15) 38 rfl w.heap.size 9 i0 (.string ⟨#[]⟩) 1 16 Tryd.underlying38 hi hz0 hz1 hz2 rfl (by omega) (.slice A3 k c3) k (strs (itx (xs.take k))) rfl (World.ownsRow.alloc (own_dr HO.out q2) _) ⟨(wo.drewN q2).heap.size, 0, none⟩ 1 1 [.string (bl tx)] rfl rfl (tx_one (wo.drewN q2) _) (tx_oneCell _) (by simp only [maxLen]; omega) (by omega) (by simp; omega) ?_; intro v7 w7 o7 g7 _; have hb7 := ((below_drewN hb q2).alloc hbs _).grown g7 (by simp; omega) (fun g' hg' => ((HO.out).lt g' hg').1); obtain ⟨A7, c7, rfl, _⟩ := own_slice' o7))
      go_roundw
      case rel => exact ⟨k + 1, c7, A7, by omega, by go_num, rfl, (by show World.ownsRow _ _ _ _ _ _ _; rw [HSN.out, strs_snoc]; exact o7), hb7⟩
      case measure => simp [intOf]; omega
    · have HE := Lib.hid (show k = n by omega)
      have hall : itx (xs.take k) = itx xs := by rw [HE.out, HN.out, List.take_length]
      have ho := HO.out
      rw [hall] at ho
      obtain ⟨g, rfl, hg, hgl, hcl⟩ := own_src ho (by have := HE.out; have := HN.out; omega)
      have hwl : (itx xs).length = k := by rw [itx_len, HE.out, HN.out]
      have hcap : k ≤ c3 := by
        obtain ⟨A', c', he, h⟩ := own_slice' ho
        injection he with _ _ he
        omega
      have hkx : k = xs.length := by rw [HE.out, HN.out]
      have hj := Tryd.strings_Join g 0 c3 ((itx xs).map bl) ⟨#[44]⟩ wo (fun j x hx => by
        have h := hcl j _ (strs_get hx)
        rw [Nat.zero_add]
        exact h) hgl (by rw [List.length_map, hwl]; omega) (by rw [List.length_map, hwl]; exact hcap) (by
        rw [map_bl]
        show (join (itx xs) [44]).length ≤ _
        rw [jn_join]
        omega)
      have e := map_bl (itx xs)
      rw [e, List.length_map, hwl] at hj
      have e2 : join (itx xs) [44] = jn 44 (itx xs) := jn_join 44 _
      have hj2 : Calls Tryd.prog 59 #[.slice (some ⟨g, 0, none⟩) k c3, .string ⟨#[44]⟩] wo (fun e w' => e = .returned (.string (bl (jn 44 (itx xs)))) ∧ Below wo.heap.size wo w') := by rw [← e2]; exact hj
      clear hj hcl ho hall hwl e e2 hkx
      generalize bl (jn 44 (itx xs)) = tx at *
      have hkn : (k : Int) = (n : Int) := by have := HE.out; omega
      go_wp2_with (go_at_call 59; refine hj2.mono ?_; rintro e w5 ⟨rfl, hb5⟩)
      go_ret
      exact ⟨rfl, bel_call hb hb5⟩
theorem bl_app (a b : List UInt8) : bl a ++ bl b = bl (a ++ b) := str_app a b
set_option maxHeartbeats 1000000 in
theorem i_typeText (A : Option Addr) (n c : Nat) (xs : List Int) (w : World) (hn : n = xs.length) (ht : TypeP xs) (hs : IS w w.heap.size A xs) (hm : MW w) :
    Calls Tryd.prog 24 #[.slice A n c] w (M (.string (bl (jn 46 (itx xs)))) w) := by
  have hc := i_commas A n c xs w hn ht hs
  have hjl := jn_len 44 (itx xs) (fun l hl => by rw [(itx_one ht l hl).1]; omega)
  rw [itx_len] at hjl
  have h6 := ht.len.2
  have hrp : ∀ W, Below w.heap.size w W → Calls Tryd.prog 42 #[.string (bl (jn 44 (itx xs))), .string ⟨#[44]⟩, .string ⟨#[46]⟩] W (fun e w' => e = .returned (.string (bl (jn 46 (itx xs)))) ∧ Below W.heap.size W w') := fun W hW => by
    obtain ⟨m, hm1⟩ := hm W hW
    have hcl := countB_le ⟨#[44]⟩ (by show 1 ≤ [(44 : UInt8)].length; simp) _ (bl (jn 44 (itx xs))) (Nat.le_refl _)
    have hsz : (bl (jn 44 (itx xs))).size ≤ 12 := by rw [bl_size]; omega
    have h := Tryd.strings_ReplaceAll (bl (jn 44 (itx xs))) ⟨#[44]⟩ ⟨#[46]⟩ m W (by omega) hm1 (by show 1 ≤ [(44 : UInt8)].length; simp) (by
      show (bl (jn 44 (itx xs))).size + countB (bl (jn 44 (itx xs))) ⟨#[44]⟩ * [(46 : UInt8)].length ≤ _
      rw [List.length_singleton]
      omega)
    have e : replaceAll (bl (jn 44 (itx xs))).data.toList [44] [46] = jn 46 (itx xs) := by
      rw [bl_toList, replAll_map (by decide), jn_map 44 46 _ (fun l hl x hx => ((itx_one ht l hl).2 x hx).1)]
    rw [show (⟨#[44]⟩ : ByteArray).data.toList = [44] from rfl, show (⟨#[46]⟩ : ByteArray).data.toList = [46] from rfl, e] at h
    exact h
  generalize bl (jn 44 (itx xs)) = ta at *
  generalize bl (jn 46 (itx xs)) = tb at *
  clear hn ht hs hm hjl h6
  go_enter Tryd.func24, Tryd.ntmps24
  go_wp2_with (first
    | (go_at_call 43; refine hc.mono ?_; rintro e w2 ⟨rfl, hb2⟩)
    | (go_at_call 42; refine (hrp _ hb2).mono ?_; rintro e w3 ⟨rfl, hb3⟩))
  go_ret
  exact ⟨rfl, bel_call hb2 hb3⟩
set_option maxRecDepth 20000 in
set_option maxHeartbeats 2000000 in
theorem s_l01Join (A : Option Addr) (n c : Nat) (xs : List Int) (w : World) (hn : n = xs.length) (ht : TypeP xs) (hs : IS w w.heap.size A xs) :
    Calls Tryd.prog 22 #[.slice A n c, .string ⟨#[46]⟩] w (M (.string (bl (jn 46 (itx xs)))) w) := by
  have hl6 := ht.len.2
  have hjl := fun k => jn_len 46 (itx (xs.take k)) (fun l hl => by
    have hm : l ∈ itx xs := by
      unfold itx at hl ⊢
      rw [List.mem_map] at hl ⊢
      obtain ⟨x, hx, e⟩ := hl
      exact ⟨x, List.mem_of_mem_take hx, e⟩
    rw [(itx_one ht l hm).1]
    omega)
  have HN := Lib.hid hn
  have HT := Lib.hid ht
  have HJ := Lib.hid hjl
  clear hn ht hjl
  go_enter Tryd.func22, Tryd.ntmps22
  go_wp2_with (fail)
  go_loopw [5, 6] (fun u5 u6 wr => ∃ k : Nat, k ≤ n ∧ u6 = .int .i64 (k : Int) ∧ u5 = .string (bl (jn 46 (itx (xs.take k)))) ∧ Below w.heap.size w wr) (fun _ u6 _ => n - (intOf u6).toNat)
  case atStart => exact ⟨0, Nat.zero_le _, rfl, rfl, Below.refl _ _⟩
  case round =>
    obtain ⟨wo, rfl⟩ : ∃ wo : World, wo = wr := ⟨_, rfl⟩
    obtain ⟨k, hk, rfl, rfl, hb⟩ := hrel
    by_cases hlt : k < n
    · have hkx : k < xs.length := by rw [← HN.out]; exact hlt
      obtain ⟨b, off, rfl, hbb, hcell⟩ := hs.at (k := k) hkx
      have e1 := (hb.cell (p := ⟨b, off + k, none⟩) hbb).trans (hcell k hkx)
      have hx := HT.out.1 k hkx
      have hsn := itx_snoc hkx
      have hj := HJ.out k
      rw [itx_len, List.length_take] at hj
      obtain ⟨ch, hch, _⟩ := itoa_one ⟨hx.1, hx.2.1⟩
      have hnb := fun W => s_l01Number (gt xs k) W (by omega) (by omega)
      change ∀ W, Calls Tryd.prog 39 #[.int .i64 (gt xs k)] W (M (.string (bl (itoa (gt xs k)))) W) at hnb
      have hxl : (bl (itoa (gt xs k))).size = 1 := by rw [bl_size, hch]; rfl
      have hsz : (bl (jn 46 (itx (xs.take k)))).size ≤ 12 := by rw [bl_size]; omega
      by_cases h0 : 0 < k
      · have heq : bl (jn 46 (itx (xs.take k))) ++ ⟨#[46]⟩ ++ bl (itoa (gt xs k)) = bl (jn 46 (itx (xs.take (k + 1)))) := by
          rw [show (⟨#[46]⟩ : ByteArray) = bl [46] from rfl, bl_app, bl_app, hsn, jn_snoc _ _ _ (by
            intro e
            have := congrArg List.length e
            rw [itx_len, List.length_take, List.length_nil] at this
            omega), List.append_assoc]
          rfl
        have HEQ := Lib.hid heq
        have hsz2 : (bl (jn 46 (itx (xs.take k))) ++ ⟨#[46]⟩).size ≤ 13 := by
          have h := hsz
          rw [bl_size] at h
          rw [show (⟨#[46]⟩ : ByteArray) = bl [46] from rfl, bl_app, bl_size, List.length_append, List.length_singleton]
          omega
        generalize bl (jn 46 (itx (xs.take k))) = ta at *
        generalize bl (itoa (gt xs k)) = tx at *
        generalize gt xs k = x at *
        have hp0 : (0 : Int) < (k : Int) := by omega
        have hq1 : ¬ 9223372036854775807 < ta.size + 1 := by omega
        have hq2 : ¬ 9223372036854775807 < (ta ++ ⟨#[46]⟩).size + tx.size := by omega
        clear hcell hsn heq hch hj hsz hsz2 hxl
        go_wp2_with (go_at_call 39; refine (hnb _).mono ?_; rintro e w2 ⟨rfl, hb2⟩)
        go_roundw
        case rel => exact ⟨k + 1, by omega, by go_num, congrArg Value.string HEQ.out, bel_call hb hb2⟩
        case measure => simp [intOf]; omega
      · have heq : bl (jn 46 (itx (xs.take k))) ++ bl (itoa (gt xs k)) = bl (jn 46 (itx (xs.take (k + 1)))) := by
          rw [bl_app, hsn, show k = 0 by omega]
          rfl
        have HEQ := Lib.hid heq
        generalize bl (jn 46 (itx (xs.take k))) = ta at *
        generalize bl (itoa (gt xs k)) = tx at *
        generalize gt xs k = x at *
        have hp0 : ¬ (0 : Int) < (k : Int) := by omega
        have hq2 : ¬ 9223372036854775807 < ta.size + tx.size := by omega
        clear hcell hsn heq hch hj hsz hxl
        go_wp2_with (go_at_call 39; refine (hnb _).mono ?_; rintro e w2 ⟨rfl, hb2⟩)
        go_roundw
        case rel => exact ⟨k + 1, by omega, by go_num, congrArg Value.string HEQ.out, bel_call hb hb2⟩
        case measure => simp [intOf]; omega
    · have HE := Lib.hid (show xs.take k = xs by rw [show k = xs.length by have := HN.out; omega, List.take_length])
      obtain rfl : k = n := by omega
      rw [HE.out]
      generalize bl (jn 46 (itx xs)) = tx at *
      go_wp2_with (fail)
      go_ret
      exact ⟨rfl, hb⟩
end Go.Proofs.YtjfinniebijgbaaDoor
