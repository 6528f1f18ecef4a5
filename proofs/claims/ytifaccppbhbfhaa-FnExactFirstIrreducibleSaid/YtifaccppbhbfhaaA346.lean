/- Several parts of the proof in one text; each part says what it shows. Nothing is assumed. -/
import Derived.Test.YtifaccppbhbfhaaA344
import Derived.Test.YtifaccppbhbfhaaA123
import Derived.BigQuiet
import Derived.StillTailTactics
/- Contracts: remainders of coefficients, both sides. -/
namespace Go.Proofs.Ytifaccppbhbfhaa
set_option linter.unusedVariables false
set_option linter.unusedSimpArgs false
open Go.RowKit

theorem num_src1 (W : World) (x : Int) : ∀ j u, [Value.int .i64 x][j]? = some u → (W.alloc (.cells #[.int .i64 x] 2)).cell? ((⟨W.heap.size, 0, none⟩ : Addr).add j) = some u := fun j u hj => by
  rw [Go.WideShapes.add_plain, Nat.zero_add, World.cell?_alloc_at (w := W) #[.int .i64 x] _ W.heap.size j rfl]
  rcases j with _ | j
  · simpa using hj
  · simp at hj
theorem ints_sn1 (l : List Int) (x : Int) : ints (l ++ [x]) = ints l ++ [Value.int .i64 x] := by simp [ints]
theorem modL_sn {f : List Int} {P : Int} {k : Nat} (h : k < f.length) : (f.take (k + 1)).map (· % P) = (f.take k).map (· % P) ++ [gt f k % P] := by
  rw [List.take_succ_eq_append_getElem h, List.map_append]
  simp [gt, List.getElem?_eq_getElem h]
set_option maxRecDepth 20000 in
set_option maxHeartbeats 1000000 in
theorem i_reduce (P : Int) (A : Option Addr) (n c : Nat) (f : List Int) (w : World) (hP : 0 < P) (hP' : P ≤ 1000000) (hn : n = f.length) (h0 : 0 < n) (hl : n ≤ 1000) (hs : IS w w.heap.size A f) :
    Calls Try.prog 24 #[.int .i64 P, .slice A n c] w (RV (trimL (f.map (· % P))) w) := by
  have HN := Lib.hid hn
  obtain ⟨i0, hi, hz0, hz1, hz2⟩ := info_parts infoI64
  have hmd := fun x W => i_mod x P W hP (by omega)
  clear hn
  go_enter Try.func24, Try.ntmps24
  go_wp2_with (fail)
  go_loopw [5, 10] (fun u5 u10 wr => ∃ (k c4 : Nat) (A4 : Option Addr), k ≤ n ∧ u10 = .int .i64 (k : Int) ∧ u5 = .slice A4 k c4 ∧ Hid (wr.ownsRow w.heap.size 2 1 (.slice A4 k c4) k (ints ((f.take k).map (· % P)))) ∧ Below w.heap.size w wr) (fun _ u10 _ => n - (intOf u10).toNat)
  case atStart => exact ⟨0, 0, none, Nat.zero_le _, rfl, rfl, World.ownsRow_nil _ _ _ _, Below.refl _ _⟩
  case round =>
    obtain ⟨wo, rfl⟩ : ∃ wo : World, wo = wr := ⟨_, rfl⟩
    obtain ⟨k, c4, A4, hk, rfl, rfl, HO, hbo⟩ := hrel
    by_cases hlt : k < n
    · have hkf : k < f.length := by rw [← HN.out]; exact hlt
      obtain ⟨b, off, rfl, hbb, hcell⟩ := hs.at (k := k) hkf
      have e1 := (hbo.cell (p := ⟨b, off + k, none⟩) hbb).trans (hcell k hkf)
      have HSN := Lib.hid (modL_sn (P := P) hkf)
      have hx := hmd (gt f k)
      generalize gt f k % P = y at *
      generalize gt f k = x at *
      clear hcell hmd
      go_wp2_with (first
        | (go_at_call 42; refine (hx _).mono ?_; rintro e w5 ⟨rfl, q5, rfl⟩)
        | (at_builtin; go_loud (refine wpList_append_own _ rfl (.tmp 14) (.tmp 18) 22 rfl w.heap.size 2 i0 (.int .i64 0) 1 8 Try.underlying22 hi hz0 hz1 hz2 rfl (by omega) (.slice A4 k c4) k (ints ((f.take k).map (· % P))) rfl (World.ownsRow.alloc (own_below HO.out (below_drewN (Below.refl _ _) q5)) _) ⟨(wo.drewN q5).heap.size, 0, none⟩ 1 1 [.int .i64 y] rfl rfl (num_src1 _ _) (by intro u hu; simp at hu; subst hu; rfl) (by simp only [maxLen]; omega) (by omega) (by have h1 := hbo.size; simp; omega) ?_; intro v7 w7 o7 g9 _; have hb7 := ((below_drewN hbo q5).alloc ((below_drewN hbo q5).size) _).grown g9 (by have h1 := hbo.size; simp; omega) (fun g' hg' => by have h1 := ((HO.out).lt g' hg').1; omega); obtain ⟨A7, c9, rfl, _⟩ := own_slice' o7)))
      have o8 := o7
      rw [← ints_sn1, ← HSN.out] at o8
      have HO8 := Lib.hid o8
      clear o7 o8
      go_roundw
      case rel => exact ⟨k + 1, c9, A7, by omega, by go_num, rfl, HO8, hb7⟩
      case measure => simp [intOf]; omega
    · have hall : (f.take k).map (· % P) = f.map (· % P) := by rw [show k = f.length by have := HN.out; omega, List.take_length]
      have ho := HO.out
      rw [hall] at ho
      have hkc : k = (f.map (· % P)).length := by rw [List.length_map]; have := HN.out; omega
      have hkn : (k : Int) = (n : Int) := by omega
      generalize hL9 : f.map (· % P) = l at *
      have HL9 := Lib.hid hL9
      obtain ⟨A5, c5, he5, hcap⟩ := own_slice' ho
      obtain ⟨g5, rfl, _⟩ := own_src ho (by omega)
      obtain ⟨rfl, rfl⟩ : A5 = some ⟨g5, 0, none⟩ ∧ c5 = c4 := by cases he5; exact ⟨rfl, rfl⟩
      have htr := i_trim g5 k c5 l wo hkc (by omega) hcap (own_cs ho hkc (by omega))
      have HK := Lib.hid hkc
      clear hkc hall ho HO he5 hmd hL9
      go_wp2_with (go_at_call 43; refine htr.mono ?_; rintro e w9 hR; obtain ⟨A9, c9, rfl, ho9, hb9⟩ := hR)
      go_ret
      rw [HL9.out]
      exact ⟨A9, c9, rfl, own_mono ho9 hbo.size, bel_call hbo hb9⟩
set_option maxRecDepth 20000 in
set_option maxHeartbeats 1000000 in
theorem s_reduce (P : Int) (A : Option Addr) (n c : Nat) (f : List Int) (w : World) (hP : 0 < P) (hP' : P ≤ 1000000) (hn : n = f.length) (h0 : 0 < n) (hl : n ≤ 1000) (hs : IS w w.heap.size A f) :
    Calls Try.prog 21 #[.int .i64 P, .slice A n c] w (RV (trimL (f.map (· % P))) w) := by
  have HN := Lib.hid hn
  obtain ⟨i0, hi, hz0, hz1, hz2⟩ := info_parts infoI64
  have hmd := fun x W => s_l01Mod x P W hP (by omega)
  clear hn
  go_enter Try.func21, Try.ntmps21
  go_wp2_with (fail)
  go_loopw [5, 6] (fun u5 u6 wr => ∃ (k c4 : Nat) (A4 : Option Addr), k ≤ n ∧ u6 = .int .i64 (k : Int) ∧ u5 = .slice A4 k c4 ∧ Hid (wr.ownsRow w.heap.size 2 1 (.slice A4 k c4) k (ints ((f.take k).map (· % P)))) ∧ Below w.heap.size w wr) (fun _ u6 _ => n - (intOf u6).toNat)
  case atStart => exact ⟨0, 0, some ⟨w.heap.size, 0, none⟩, Nat.zero_le _, rfl, rfl, World.ownsRow_lit (base := w.heap.size) (e := 2) (size := 1) w #[] 0 (Nat.le_refl _) (by simp [maxLen]) rfl, (Below.refl w.heap.size w).alloc (Nat.le_refl _) _⟩
  case round =>
    obtain ⟨wo, rfl⟩ : ∃ wo : World, wo = wr := ⟨_, rfl⟩
    obtain ⟨k, c4, A4, hk, rfl, rfl, HO, hbo⟩ := hrel
    by_cases hlt : k < n
    · have hkf : k < f.length := by rw [← HN.out]; exact hlt
      obtain ⟨b, off, rfl, hbb, hcell⟩ := hs.at (k := k) hkf
      have e1 := (hbo.cell (p := ⟨b, off + k, none⟩) hbb).trans (hcell k hkf)
      have HSN := Lib.hid (modL_sn (P := P) hkf)
      have hx := hmd (gt f k)
      generalize gt f k % P = y at *
      generalize gt f k = x at *
      clear hcell hmd
      go_wp2_with (first
        | (go_at_call 36; refine (hx _).mono ?_; rintro e w5 ⟨rfl, q5, rfl⟩)
        | (at_builtin; go_loud (refine wpList_append_own _ rfl (.tmp 14) (.tmp 21) 22 rfl w.heap.size 2 i0 (.int .i64 0) 1 8 Try.underlying22 hi hz0 hz1 hz2 rfl (by omega) (.slice A4 k c4) k (ints ((f.take k).map (· % P))) rfl (World.ownsRow.alloc (own_below HO.out (below_drewN (Below.refl _ _) q5)) _) ⟨(wo.drewN q5).heap.size, 0, none⟩ 1 1 [.int .i64 y] rfl rfl (num_src1 _ _) (by intro u hu; simp at hu; subst hu; rfl) (by simp only [maxLen]; omega) (by omega) (by have h1 := hbo.size; simp; omega) ?_; intro v7 w7 o7 g9 _; have hb7 := ((below_drewN hbo q5).alloc ((below_drewN hbo q5).size) _).grown g9 (by have h1 := hbo.size; simp; omega) (fun g' hg' => by have h1 := ((HO.out).lt g' hg').1; omega); obtain ⟨A7, c9, rfl, _⟩ := own_slice' o7)))
      have o8 := o7
      rw [← ints_sn1, ← HSN.out] at o8
      have HO8 := Lib.hid o8
      clear o7 o8
      go_roundw
      case rel => exact ⟨k + 1, c9, A7, by omega, by go_num, rfl, HO8, hb7⟩
      case measure => simp [intOf]; omega
    · have hall : (f.take k).map (· % P) = f.map (· % P) := by rw [show k = f.length by have := HN.out; omega, List.take_length]
      have ho := HO.out
      rw [hall] at ho
      have hkc : k = (f.map (· % P)).length := by rw [List.length_map]; have := HN.out; omega
      have hkn : (k : Int) = (n : Int) := by omega
      generalize hL9 : f.map (· % P) = l at *
      have HL9 := Lib.hid hL9
      obtain ⟨A5, c5, he5, hcap⟩ := own_slice' ho
      obtain ⟨g5, rfl, _⟩ := own_src ho (by omega)
      obtain ⟨rfl, rfl⟩ : A5 = some ⟨g5, 0, none⟩ ∧ c5 = c4 := by cases he5; exact ⟨rfl, rfl⟩
      have htr := s_trim g5 k c5 l wo hkc (by omega) hcap (own_cs ho hkc (by omega))
      have HK := Lib.hid hkc
      clear hkc hall ho HO he5 hmd hL9
      go_wp2_with (go_at_call 37; refine htr.mono ?_; rintro e w9 hR; obtain ⟨A9, c9, rfl, ho9, hb9⟩ := hR)
      go_ret
      rw [HL9.out]
      exact ⟨A9, c9, rfl, own_mono ho9 hbo.size, bel_call hbo hb9⟩
end Go.Proofs.Ytifaccppbhbfhaa
/- Contracts: products by p, both sides; empty lists too. -/
namespace Go.Proofs.Ytifaccppbhbfhaa
set_option linter.unusedVariables false
set_option linter.unusedSimpArgs false
open Go.RowKit

theorem trimL_nil : trimL [] = [] := rfl
theorem i_trim0 (w : World) : Calls Try.prog 43 #[.slice none 0 0] w (RV [] w) := by
  have q22 : ∀ (W : World) (a : Option Addr) (n c n' c' : Nat), (binOp .eql 22 (.slice a n c) (.slice none n' c')).run Try.prog W = .ok (.bool a.isNone) W := fun W a n c n' c' => Lib.run_eql_slice_nil W _ _ a n c n' c' Try.underlying22
  have hcl : ∀ W : World, Calls Try.prog 65 #[.slice none 0 0] W (RV [] W) := fun W => by
    go_enter Try.func65, Try.ntmps65
    go_wp2_with (fail)
    go_ret
    exact ⟨none, 0, rfl, World.ownsRow_nil _ _ _ _, Below.refl _ _⟩
  go_enter Try.func43, Try.ntmps43
  go_wp2_with (fail)
  go_loopw [3] (fun u3 wr => u3 = .int .i64 0 ∧ wr = w) (fun _ _ => 0)
  case atStart => exact ⟨rfl, rfl⟩
  case round =>
    obtain ⟨rfl, rfl⟩ := hrel
    go_wp2_with (go_at_call 65; refine (hcl _).mono ?_; rintro e w9 hR; obtain ⟨A9, c9, rfl, ho9, hb9⟩ := hR)
    go_ret
    exact ⟨A9, c9, rfl, ho9, hb9⟩
theorem i_reduce0 (P : Int) (A : Option Addr) (c : Nat) (w : World) : Calls Try.prog 24 #[.int .i64 P, .slice A 0 c] w (RV [] w) := by
  go_enter Try.func24, Try.ntmps24
  go_wp2_with (fail)
  go_loopw [5, 10] (fun u5 u10 wr => u5 = .slice none 0 0 ∧ u10 = .int .i64 0 ∧ wr = w) (fun _ _ _ => 0)
  case atStart => exact ⟨rfl, rfl, rfl⟩
  case round =>
    obtain ⟨rfl, rfl, rfl⟩ := hrel
    go_wp2_with (go_at_call 43; refine (i_trim0 _).mono ?_; rintro e w9 hR; obtain ⟨A9, c9, rfl, ho9, hb9⟩ := hR)
    go_ret
    exact ⟨A9, c9, rfl, ho9, hb9⟩
theorem s_reduce0 (P : Int) (A : Option Addr) (c : Nat) (w : World) : Calls Try.prog 21 #[.int .i64 P, .slice A 0 c] w (RV [] w) := by
  have hb := (Below.refl w.heap.size w).alloc (Nat.le_refl _) (.cells #[] 2)
  have htr := fun W h => s_trim w.heap.size 0 0 [] W rfl (by omega) (Nat.le_refl _) h
  go_enter Try.func21, Try.ntmps21
  go_wp2_with (fail)
  go_loopw [5, 6] (fun u5 u6 wr => u5 = .slice (some ⟨w.heap.size, 0, none⟩) 0 0 ∧ u6 = .int .i64 0 ∧ wr = w.alloc (.cells #[] 2)) (fun _ _ _ => 0)
  case atStart => exact ⟨rfl, rfl, rfl⟩
  case round =>
    obtain ⟨rfl, rfl, rfl⟩ := hrel
    have hh := htr (w.alloc (.cells #[] 2)) ⟨by simp, fun j hj => by simp at hj⟩
    go_wp2_with (go_at_call 37; refine hh.mono ?_; rintro e w9 hR; obtain ⟨A9, c9, rfl, ho9, hb9⟩ := hR)
    go_ret
    exact RV.pre ⟨A9, c9, rfl, ho9, hb9⟩ hb
theorem i_red (P : Int) (A : Option Addr) (n c : Nat) (f : List Int) (w : World) (hP : 0 < P) (hP' : P ≤ 1000000) (hn : n = f.length) (hl : n ≤ 1000) (hs : IS w w.heap.size A f) :
    Calls Try.prog 24 #[.int .i64 P, .slice A n c] w (RV (trimL (f.map (· % P))) w) := by
  by_cases h0 : 0 < n
  · exact i_reduce P A n c f w hP hP' hn h0 hl hs
  · obtain rfl : n = 0 := by omega
    obtain rfl : f = [] := List.eq_nil_of_length_eq_zero hn.symm
    exact i_reduce0 P A c w
theorem s_red (P : Int) (A : Option Addr) (n c : Nat) (f : List Int) (w : World) (hP : 0 < P) (hP' : P ≤ 1000000) (hn : n = f.length) (hl : n ≤ 1000) (hs : IS w w.heap.size A f) :
    Calls Try.prog 21 #[.int .i64 P, .slice A n c] w (RV (trimL (f.map (· % P))) w) := by
  by_cases h0 : 0 < n
  · exact s_reduce P A n c f w hP hP' hn h0 hl hs
  · obtain rfl : n = 0 := by omega
    obtain rfl : f = [] := List.eq_nil_of_length_eq_zero hn.symm
    exact s_reduce0 P A c w
theorem mulL_nil (g : List Int) : mulL [] g = trimL (List.replicate (0 + g.length - 1) 0) := rfl
theorem trim_rep (n : Nat) : trimL (List.replicate n 0) = [] := by
  refine List.eq_nil_of_length_eq_zero (Nat.eq_zero_of_not_pos fun h => ?_)
  rw [trimL_len] at h
  exact trimN_last _ _ h (gt_rep _ _)
theorem mulL_nil' (g : List Int) : mulL [] g = [] := by rw [mulL_nil, trim_rep]
theorem mulL_zero {f g : List Int} (h : ∀ k, gt (mulL f g) k = 0) : mulL f g = [] := by
  unfold mulL at *
  refine List.eq_nil_of_length_eq_zero (Nat.eq_zero_of_not_pos fun h' => ?_)
  rw [trimL_len] at h'
  refine trimN_last _ _ h' ?_
  have := h (trimN (mulS f g f.length) (mulS f g f.length).length - 1)
  rwa [gt_trim] at this
theorem mulL_nilR (f : List Int) : mulL f [] = [] := mulL_zero fun k => by
  rw [FX.mulL_sm]
  have : ∀ n : Nat, FX.sm n (fun i => gt f i * gt [] (k - i)) = 0 := fun n => by
    induction n with
    | zero => rfl
    | succ n ih => unfold FX.sm; rw [ih]; simp [gt]
  exact this _
theorem i_prod0 (A A' : Option Addr) (n c n' c' : Nat) (w : World) (h : n = 0 ∨ n' = 0) : Calls Try.prog 89 #[.slice A n c, .slice A' n' c'] w (RV [] w) := by
  have h1 : ((n : Int) == 0 || (n' : Int) == 0) = true := by rw [Bool.or_eq_true, beq_iff_eq, beq_iff_eq]; omega
  by_cases h0 : n = 0
  · subst h0
    go_enter Try.func89, Try.ntmps89
    go_wp2_with (go_quiet (fail))
    go_ret
    exact ⟨none, 0, rfl, World.ownsRow_nil _ _ _ _, Below.refl _ _⟩
  · obtain rfl : n' = 0 := by omega
    have h2 : ((n : Int) == 0) = false := by rw [beq_eq_false_iff_ne]; omega
    go_enter Try.func89, Try.ntmps89
    go_wp2_with (go_quiet (fail))
    go_ret
    exact ⟨none, 0, rfl, World.ownsRow_nil _ _ _ _, Below.refl _ _⟩
theorem s_prod0 (A A' : Option Addr) (n c n' c' : Nat) (w : World) (h : n = 0 ∨ n' = 0) : Calls Try.prog 87 #[.slice A n c, .slice A' n' c'] w (RV [] w) := by
  have hlit := RV.lit (w := w) [] (by simp [maxLen])
  by_cases h0 : n = 0
  · subst h0
    go_enter Try.func87, Try.ntmps87
    go_wp2_with (go_quiet (fail))
    go_ret
    exact hlit
  · obtain rfl : n' = 0 := by omega
    have h2 : ((n : Int) == 0) = false := by rw [beq_eq_false_iff_ne]; omega
    go_enter Try.func87, Try.ntmps87
    go_wp2_with (go_quiet (fail))
    go_ret
    exact hlit
set_option maxRecDepth 10000 in
set_option maxHeartbeats 2000000 in
theorem s_l06Multiply (A A' : Option Addr) (n c n' c' F G : Nat) (f g : List Int) (w : World) (hn : n = f.length) (hn' : n' = g.length) (h0 : 0 < n) (h0' : 0 < n') (hl : n ≤ 10) (hl' : n' ≤ 10) (hF : ∀ j, (gt f j).natAbs ≤ F) (hG : ∀ j, (gt g j).natAbs ≤ G) (hFG : F * G ≤ 100000000000000000) (hs : IS w w.heap.size A f) (hs' : IS w w.heap.size A' g) :
    Calls Try.prog 87 #[.slice A n c, .slice A' n' c'] w (RV (mulL f g) w) := by
  obtain ⟨M, hM⟩ : ∃ M, M + 1 = n + n' := ⟨n + n' - 1, by omega⟩
  have hmk := fun W => run_make_row' (P := Try.prog) 22 2 (.int .i64 0) 8 Try.underlying22 infoI64 rfl .i64 .i64 M (by omega) (by omega) W
  have hns := NS.zero w M w.heap.size (Nat.le_refl _)
  have hb := (Below.refl w.heap.size w).alloc (Nat.le_refl _) (.cells (madeCells (.int .i64 0 : Value).cells M) 2)
  have hX : mulL f g = trimL (mulS f g n) := by unfold mulL; rw [hn]
  have hlen : ∀ i, (mulS f g i).length = M := fun i => by rw [mulS_len, ← hn, ← hn']; omega
  have hbd : ∀ i j, i ≤ n → (gt (mulS f g i) j).natAbs ≤ 10 * (F * G) := fun i j h => Nat.le_trans (mulS_bd hF hG i j (by omega)) (Nat.mul_le_mul_right _ (by omega))
  have hns : NS (w.alloc (.cells (madeCells (.int .i64 0 : Value).cells M) 2)) w.heap.size w.heap.size (mulS f g 0) := by
    rw [mulS, show f.length + g.length - 1 = M by omega]
    exact hns
  have hstep : ∀ i, mulS f g (i + 1) = stepM (gt f i) g (mulS f g i) i n' := fun i => by rw [hn']; rfl
  have hpz : ((n : Int) == 0) = false := by rw [beq_eq_false_iff_ne]; omega
  have hpz' : ((n' : Int) == 0) = false := by rw [beq_eq_false_iff_ne]; omega
  have hmm : (n : Int) + (n' : Int) - 1 = (M : Int) := by omega
  rw [hX]
  have HN := Lib.hid hn
  have HN' := Lib.hid hn'
  have HF := Lib.hid hF
  have HG := Lib.hid hG
  have HLEN := Lib.hid hlen
  have HBD := Lib.hid hbd
  have HSTEP := Lib.hid hstep
  have HP := Lib.hid hFG
  clear hn hn' hF hG hX hlen hbd hstep hFG
  go_enter Try.func87, Try.ntmps87
  go_wp2_with (go_quiet (fail))
  go_loopw [6] (fun u wr => ∃ i : Nat, i ≤ n ∧ u = .int .i64 i ∧ NS wr w.heap.size w.heap.size (mulS f g i) ∧ Below w.heap.size w wr) (fun u _ => n - (intOf u).toNat)
  case atStart => exact ⟨0, Nat.zero_le _, rfl, hns, hb⟩
  case round =>
    clear hns hb
    obtain ⟨ws, rfl⟩ : ∃ ws : World, ws = wr := ⟨_, rfl⟩
    obtain ⟨i, hi, rfl, hns, hb⟩ := hrel
    by_cases hlt : i < n
    · obtain ⟨b, off, rfl, hbb, hcell⟩ := IS.at hs (k := i) (by rw [← HN.out]; exact hlt)
      have hin0 := hcell i (by rw [← HN.out]; exact hlt)
      have hbo := HBD.out i
      have hOl := HLEN.out i
      have HST := Lib.hid (HSTEP.out i)
      have hci := HF.out i
      generalize mulS f g i = O at *
      generalize gt f i = x at *
      have HBO := Lib.hid hbo
      have HOL := Lib.hid hOl
      have HCI := Lib.hid hci
      clear hcell hbo hOl hci
      go_wp2_with (fail)
      go_loopw [7] (fun u wr => ∃ k : Nat, k ≤ n' ∧ u = .int .i64 k ∧ NS wr w.heap.size w.heap.size (stepM x g O i k) ∧ Below w.heap.size w wr) (fun u _ => n' - (intOf u).toNat)
      case atStart => exact ⟨0, Nat.zero_le _, rfl, hns, hb⟩
      case round =>
        clear hns hb
        obtain ⟨wt, rfl⟩ : ∃ wt : World, wt = wr := ⟨_, rfl⟩
        obtain ⟨k, hk, rfl, hns, hb⟩ := hrel
        by_cases hkt : k < n'
        · obtain ⟨b', off', rfl, hbb', hcell⟩ := IS.at hs' (k := k) (by rw [← HN'.out]; exact hkt)
          have hin' := (hb.cell (p := ⟨b', off' + k, none⟩) hbb').trans (hcell k (by rw [← HN'.out]; exact hkt))
          have hin := (hb.cell (p := ⟨b, off + i, none⟩) hbb).trans hin0
          have hkM : i + k < (stepM x g O i k).length := by rw [stepM_len, HOL.out]; omega
          have hc := hns.cell hkM
          have hf := hns.fz (i + k)
          have hset := (hns.drewN 1).set (gt (stepM x g O i k) (i + k) + x * gt g k) hkM
          have hbd := stepM_bd (c := x) (g := g) (out := O) (i := i) (k := k) (j := i + k) (by rw [HOL.out]; omega) HCI.out HG.out (HBO.out (i + k) hi)
          have hbd2 := nabs_mul HCI.out (HG.out k)
          have HP2 := HP.out
          have HSET : Hid (NS ((wt.drewN 1).setCell ⟨w.heap.size, i + k, none⟩ (.int .i64 (gt (stepM x g O i k) (i + k) + x * gt g k))) w.heap.size w.heap.size (stepM x g O i (k + 1))) := hset
          clear hset hcell hns
          generalize F * G = P at *
          generalize gt (stepM x g O i k) (i + k) = y at *
          generalize gt g k = z at *
          have hw1 : IntKind.i64.wrap ((i : Int) + (k : Int)) = ((i + k : Nat) : Int) := by rw [IntWalk.i64_in _ (by omega)]; omega
          have hw2 : IntKind.i64.wrap (x * z) = x * z := IntWalk.i64_in _ (by omega)
          have hw3 : IntKind.i64.wrap (y + x * z) = y + x * z := IntWalk.i64_in _ (by omega)
          have hsM : i + k < M := by rw [stepM_len, HOL.out] at hkM; exact hkM
          clear hkM
          generalize hs0 : i + k = s0 at *
          go_wp2_with (fail)
          go_still_tail 21, (by kernel_rfl)
          change wpList _ _ _ _ _ wt.drew
          go_wp2_with (fail)
          go_roundw
          case rel => subst hs0; exact ⟨k + 1, by omega, by go_num, HSET.out, (below_drewN hb 1).setCell (Nat.le_refl _) _⟩
          case measure => simp [intOf]; omega
        · obtain rfl : n' = k := by omega
          rw [← HST.out] at hns
          go_wp2_with (fail)
          go_roundw
          case rel => exact ⟨i + 1, by omega, by go_num, hns, hb⟩
          case measure => simp [intOf]; omega
    · obtain rfl : n = i := by omega
      have HL : Hid (M = (mulS f g n).length) := (HLEN.out n).symm
      generalize mulS f g n = O at *
      go_wp2_with (go_at_call 37; refine (s_trim w.heap.size M M O _ HL.out (by omega) (Nat.le_refl _) hns.cs).mono ?_; rintro e w2 ⟨A2, c2, rfl, ho2, hb2⟩)
      go_ret
      exact RV.pre ⟨A2, c2, rfl, ho2, hb2⟩ hb
end Go.Proofs.Ytifaccppbhbfhaa
