/- Texts: splitting, on both sides. -/
import Derived.Test.YtjfinniebijgbaaDoorA311
import Derived.Test.YtjfinniebijgbaaDoorA312
namespace Go.Proofs.YtjfinniebijgbaaDoor
set_option linter.unusedVariables false
set_option linter.unusedSimpArgs false
open Go.RowKit
open Go.Lib hiding intOf

theorem infoTx : (Tryd.prog.info? 9).map (fun i => (i.zero, i.size, i.bytes)) = some (some (.string ⟨#[]⟩), 1, 16) := by kernel_rfl
def strs (ws : List (List UInt8)) : List Value := ws.map fun l => .string (bl l)
theorem strs_len (ws : List (List UInt8)) : (strs ws).length = ws.length := by simp [strs]
theorem strs_snoc (ws : List (List UInt8)) (x : List UInt8) : strs (ws ++ [x]) = strs ws ++ [.string (bl x)] := by simp [strs]
def tw (ws : List (List UInt8)) (k : Nat) : List UInt8 := ws.getD k []
theorem strs_at {ws : List (List UInt8)} {k : Nat} (h : k < ws.length) : (strs ws)[k]? = some (.string (bl (tw ws k))) := by
  simp [strs, tw, List.getElem?_eq_getElem h]
theorem strs_one (ws : List (List UInt8)) : ∀ u ∈ strs ws, u.oneCell' = true := by
  intro u hu
  simp only [strs, List.mem_map] at hu
  obtain ⟨l, _, rfl⟩ := hu
  rfl
/-- What a call returns that splits. -/
def SPL (ws : List (List UInt8)) (w : World) (e : Ending) (w' : World) : Prop := ∃ (g n c : Nat), e = .returned (.slice (some ⟨g, 0, none⟩) n c) ∧ n = ws.length ∧ w'.ownsRow w.heap.size 9 1 (.slice (some ⟨g, 0, none⟩) n c) n (strs ws) ∧ Below w.heap.size w w'
theorem i_split (s : ByteArray) (c : UInt8) (w : World) (hs : s.size ≤ 1048576) (hv : VW w) :
    Calls Tryd.prog 26 #[.string s, .string ⟨#[c]⟩] w (SPL (spl c s.data.toList) w) := by
  obtain ⟨_, _, _, m, hm⟩ := hv.here
  refine (Tryd.strings_Split s ⟨#[c]⟩ m w (by omega) hm (by show 1 ≤ [c].length; simp)).mono ?_
  rintro e w' ⟨rfl, rfl⟩
  have h1 := splitB_data ⟨#[c]⟩ 0 (countB s ⟨#[c]⟩) s
  have h2 : splitK [c] 0 (count s.data.toList [c]) s.data.toList = spl c s.data.toList := split_spl c _
  have h3 : (splitB ⟨#[c]⟩ 0 (countB s ⟨#[c]⟩) s).map (·.data.toList) = spl c s.data.toList := h1.trans h2
  have h4 : (splitB ⟨#[c]⟩ 0 (countB s ⟨#[c]⟩) s).map Value.string = strs (spl c s.data.toList) := by
    rw [← h3]
    unfold strs
    rw [List.map_map]
    apply List.map_congr_left
    intro x _
    simp [bl_of]
  have h5 : (spl c s.data.toList).length = countB s ⟨#[c]⟩ + 1 := by
    rw [← h3, List.length_map]
    exact splitB_all _ (by show 1 ≤ [c].length; simp) 0 _ s rfl
  rw [h4]
  refine ⟨w.heap.size, _, _, rfl, h5.symm, ?_, (Below.refl _ _).alloc (Nat.le_refl _) _⟩
  have hcl := countB_le ⟨#[c]⟩ (by show 1 ≤ [c].length; simp) s.size s (Nat.le_refl _)
  have ho := World.ownsRow_lit (base := w.heap.size) (size := 1) (e := 9) w (strs (spl c s.data.toList)).toArray (countB s ⟨#[c]⟩ + 1) (Nat.le_refl _) (by simp only [maxLen]; omega) (by simp [strs_len, h5])
  simpa using ho
def pre (p : List UInt8) (xs : List (List UInt8)) : List (List UInt8) := (p ++ xs.headD []) :: xs.tail
theorem pre_nil {xs : List (List UInt8)} (h : xs ≠ []) : pre [] xs = xs := by
  cases xs with
  | nil => exact absurd rfl h
  | cons x r => rfl
theorem pre_eq (c : UInt8) (p l : List UInt8) : pre p (spl c (c :: l)) = p :: spl c l := by
  rw [spl, if_pos rfl]
  simp [pre]
theorem pre_ne {b c : UInt8} (p l : List UInt8) (h : b ≠ c) : pre p (spl c (b :: l)) = pre (p ++ [b]) (spl c l) := by
  rw [spl, if_neg h]
  simp [pre]
theorem pre_end (c : UInt8) (p : List UInt8) : pre p (spl c []) = [p] := by simp [pre, spl]
theorem ba_at {s : ByteArray} {i : Nat} (h : i < s.size) : s.data.toList.drop i = s[i] :: s.data.toList.drop (i + 1) := by
  rw [List.drop_eq_getElem_cons (by show i < s.size; exact h)]
  rfl
theorem ba_take {s : ByteArray} {f i : Nat} (hf : f ≤ i) (h : i < s.size) : (s.data.toList.drop f).take (i + 1 - f) = (s.data.toList.drop f).take (i - f) ++ [s[i]] := by
  rw [show i + 1 - f = (i - f) + 1 by omega, List.take_succ_eq_append_getElem (by rw [List.length_drop]; show i - f < s.size - f; omega)]
  congr 2
  rw [List.getElem_drop]
  have e : f + (i - f) = i := by omega
  simp only [e]
  rfl
def SPI (c : UInt8) (s : ByteArray) (ws : List (List UInt8)) (f i : Nat) : Prop :=
  if i ≤ s.size then f ≤ i ∧ spl c s.data.toList = ws ++ pre ((s.data.toList.drop f).take (i - f)) (spl c (s.data.toList.drop i)) else ws = spl c s.data.toList
theorem spi_zero (c : UInt8) (s : ByteArray) : SPI c s [] 0 0 := by
  unfold SPI
  rw [if_pos (Nat.zero_le _)]
  exact ⟨Nat.le_refl _, by rw [List.drop_zero, Nat.sub_self, List.take_zero, pre_nil (spl_ne _ _), List.nil_append]⟩
theorem spi_eq {c : UInt8} {s : ByteArray} {ws : List (List UInt8)} {f i : Nat} (h : SPI c s ws f i) (hi : i < s.size) (hc : s[i] = c) : SPI c s (ws ++ [(s.data.toList.drop f).take (i - f)]) (i + 1) (i + 1) := by
  unfold SPI at h ⊢
  rw [if_pos (by omega)] at h ⊢
  refine ⟨Nat.le_refl _, ?_⟩
  rw [h.2, ba_at hi, hc, pre_eq, Nat.sub_self, List.take_zero, pre_nil (spl_ne _ _), List.append_assoc]
  rfl
theorem spi_ne {c : UInt8} {s : ByteArray} {ws : List (List UInt8)} {f i : Nat} (h : SPI c s ws f i) (hi : i < s.size) (hc : s[i] ≠ c) : SPI c s ws f (i + 1) := by
  unfold SPI at h ⊢
  rw [if_pos (by omega)] at h ⊢
  refine ⟨by omega, ?_⟩
  rw [h.2, ba_at hi, pre_ne _ _ hc, ba_take h.1 hi]
theorem spi_end {c : UInt8} {s : ByteArray} {ws : List (List UInt8)} {f : Nat} (h : SPI c s ws f s.size) : SPI c s (ws ++ [(s.data.toList.drop f).take (s.size - f)]) (s.size + 1) (s.size + 1) := by
  unfold SPI at h ⊢
  rw [if_pos (Nat.le_refl _)] at h
  rw [if_neg (by omega), h.2, show s.data.toList.drop s.size = [] from List.drop_eq_nil_of_le (Nat.le_refl _), pre_end]
theorem tx_one (w : World) (b : ByteArray) : ∀ j u, [Value.string b][j]? = some u → (w.alloc (.cells #[.string b] 9)).cell? ((⟨w.heap.size, 0, none⟩ : Addr).add j) = some u := fun j u hj => by
  rw [Go.WideShapes.add_plain, Nat.zero_add, World.cell?_alloc_at (w := w) #[.string b] _ w.heap.size j rfl]
  rcases j with _ | j
  · simpa using hj
  · simp at hj
theorem tx_oneCell (b : ByteArray) : ∀ u ∈ [Value.string b], u.oneCell' = true := by
  intro u hu
  simp at hu
  subst hu
  rfl
theorem tx_nil (w : World) (base : Nat) (h : base ≤ w.heap.size) : (w.alloc (.cells #[] 9)).ownsRow base 9 1 (.slice (some ⟨w.heap.size, 0, none⟩) 0 0) 0 [] :=
  World.ownsRow_lit (base := base) w #[] 0 h (by simp [maxLen]) rfl
set_option maxRecDepth 20000 in
set_option maxHeartbeats 4000000 in
theorem s_split (s : ByteArray) (c : UInt8) (w : World) (hs : s.size ≤ 1048576) :
    Calls Tryd.prog 30 #[.string s, .int .u8 (c.toNat : Int)] w (SPL (spl c s.data.toList) w) := by
  obtain ⟨i0, hi, hz0, hz1, hz2⟩ := info_parts infoTx
  go_enter Tryd.func30, Tryd.ntmps30
  go_wp2_with (fail)
  go_loopw [5, 6, 7] (fun u5 u6 u7 wr => ∃ (g m cp f i : Nat) (ws : List (List UInt8)), i ≤ s.size + 1 ∧ f ≤ s.size + 1 ∧ m ≤ i ∧ u7 = .int .i64 (i : Int) ∧ u6 = .int .i64 (f : Int) ∧ u5 = .slice (some ⟨g, 0, none⟩) m cp ∧ Hid (m = ws.length) ∧ Hid (SPI c s ws f i) ∧ Hid (wr.ownsRow w.heap.size 9 1 (.slice (some ⟨g, 0, none⟩) m cp) m (strs ws)) ∧ Below w.heap.size w wr) (fun _ _ u7 _ => s.size + 2 - (RowKit.intOf u7).toNat)
  case atStart => exact ⟨w.heap.size, 0, 0, 0, 0, [], Nat.zero_le _, Nat.zero_le _, Nat.le_refl _, rfl, rfl, rfl, rfl, spi_zero c s, tx_nil w _ (Nat.le_refl _), (Below.refl _ _).alloc (Nat.le_refl _) _⟩
  case round =>
    obtain ⟨ws', rfl⟩ : ∃ ws' : World, ws' = wr := ⟨_, rfl⟩
    obtain ⟨g, m, cp, f, i, ws, hi', hf, hmi, rfl, rfl, rfl, HM, HS, HO, hb⟩ := hrel
    have ho := HO.out
    have hbs := hb.size
    by_cases hlt : i < s.size
    · have hle : (i : Int) ≤ (s.size : Int) := by omega
      have hne : ((i : Int) == (s.size : Int)) = false := by rw [beq_eq_false_iff_ne]; omega
      have hfi : f ≤ i := by have h := HS.out; unfold SPI at h; rw [if_pos (by omega)] at h; exact h.1
      by_cases hc : s[i] = c
      · have hceq : ((s[i].toNat : Int) == (c.toNat : Int)) = true := by rw [hc]; simp
        have HS2 := Lib.hid (spi_eq HS.out hlt hc)
        have hex := extract_eq s f i
        generalize (s.data.toList.drop f).take (i - f) = x at *
        go_wp2_with (at_builtin; refine wpList_append_own _ rfl (.tmp 26) (.tmp 31) 38 rfl w.heap.size 9 i0 (.string ⟨#[]⟩) 1 16 Tryd.underlying38 hi hz0 hz1 hz2 rfl (by omega) (.slice (some ⟨g, 0, none⟩) m cp) m (strs ws) rfl (World.ownsRow.alloc ho _) ⟨ws'.heap.size, 0, none⟩ 1 1 [.string ⟨x.toArray⟩] rfl rfl (tx_one ws' _) (tx_oneCell _) (by simp only [maxLen]; omega) (by omega) (by simp; omega) ?_; intro v7 w7 o7 g7 _; have hb7 := (hb.alloc hbs _).grown g7 (by simp; omega) (fun g' hg' => (ho.lt g' hg').1); obtain ⟨A7, c7, rfl, _⟩ := own_slice' o7; obtain ⟨g9, rfl, _⟩ := own_src o7 (by omega))
        go_roundw
        case rel => exact ⟨g9, m + 1, c7, i + 1, i + 1, ws ++ [x], by omega, by omega, by omega, by go_num, by go_num, rfl, (by show _ = _; rw [List.length_append, ← HM.out]; rfl), HS2, (by show World.ownsRow _ _ _ _ _ _ _; rw [strs_snoc]; exact o7), hb7⟩
        case measure => simp [RowKit.intOf]; omega
      · have hceq : ((s[i].toNat : Int) == (c.toNat : Int)) = false := by
          rw [beq_eq_false_iff_ne]
          intro e
          exact hc (UInt8.toNat_inj.1 (by omega))
        have HS2 := Lib.hid (spi_ne HS.out hlt hc)
        go_wp2_with (fail)
        go_roundw
        case rel => exact ⟨g, m, cp, f, i + 1, ws, by omega, by omega, by omega, by go_num, rfl, rfl, HM, HS2, HO, hb⟩
        case measure => simp [RowKit.intOf]; omega
    · by_cases hle : i = s.size
      · have HE := Lib.hid hle
        have hle1 : (i : Int) ≤ (s.size : Int) := by omega
        have hne : ((i : Int) == (s.size : Int)) = true := by rw [beq_iff_eq]; omega
        have hfi : f ≤ i := by have h := HS.out; unfold SPI at h; rw [if_pos (by omega)] at h; exact h.1
        have hS2 : SPI c s (ws ++ [(s.data.toList.drop f).take (i - f)]) (i + 1) (i + 1) := by
          have h := HS.out
          rw [HE.out] at h ⊢
          exact spi_end h
        have HS2 := Lib.hid hS2
        have hex := extract_eq s f i
        clear hS2 hle
        generalize (s.data.toList.drop f).take (i - f) = x at *
        go_wp2_with (at_builtin; refine wpList_append_own _ rfl (.tmp 26) (.tmp 31) 38 rfl w.heap.size 9 i0 (.string ⟨#[]⟩) 1 16 Tryd.underlying38 hi hz0 hz1 hz2 rfl (by omega) (.slice (some ⟨g, 0, none⟩) m cp) m (strs ws) rfl (World.ownsRow.alloc ho _) ⟨ws'.heap.size, 0, none⟩ 1 1 [.string ⟨x.toArray⟩] rfl rfl (tx_one ws' _) (tx_oneCell _) (by simp only [maxLen]; omega) (by omega) (by simp; omega) ?_; intro v7 w7 o7 g7 _; have hb7 := (hb.alloc hbs _).grown g7 (by simp; omega) (fun g' hg' => (ho.lt g' hg').1); obtain ⟨A7, c7, rfl, _⟩ := own_slice' o7; obtain ⟨g9, rfl, _⟩ := own_src o7 (by omega))
        go_roundw
        case rel => exact ⟨g9, m + 1, c7, i + 1, i + 1, ws ++ [x], by omega, by omega, by omega, by go_num, by go_num, rfl, (by show _ = _; rw [List.length_append, ← HM.out]; rfl), HS2, (by show World.ownsRow _ _ _ _ _ _ _; rw [strs_snoc]; exact o7), hb7⟩
        case measure => simp [RowKit.intOf]; omega
      · have hle1 : ¬ (i : Int) ≤ (s.size : Int) := by omega
        have hend : ws = spl c s.data.toList := by
          have h := HS.out
          unfold SPI at h
          rwa [if_neg (by omega)] at h
        have HEND := Lib.hid hend
        clear hend
        go_wp2_with (fail)
        go_ret
        exact ⟨g, m, cp, rfl, (by rw [HM.out, HEND.out]), (by rw [← HEND.out]; exact ho), hb⟩
end Go.Proofs.YtjfinniebijgbaaDoor
