/- Permutations by their ranks. -/
import Derived.Test.YtcbjfdeigpdbdaaA82
namespace Go.Proofs.Ytcbjfdeigpdbdaa
set_option linter.unusedVariables false
set_option linter.unusedSimpArgs false
open Go.RowKit

def delL (l : List Int) (i : Nat) : List Int := l.take i ++ l.drop (i + 1)
theorem delL_len {l : List Int} {i : Nat} (h : i < l.length) : (delL l i).length = l.length - 1 := by simp [delL]; omega
/-- What is left and what has come, with k to come. -/
def wrS : Nat → Nat → List Int → List Int → List Int
  | 0, _, _, out => out
  | k + 1, r, left, out => wrS k (r % fact k) (delL left (r / fact k)) (out ++ [gt left (r / fact k)])
def wrL (n r : Nat) : List Int := wrS n r (idL n) []
theorem wr_at {k r : Nat} (h : r < fact (k + 1)) : r / fact k < k + 1 ∧ r % fact k < fact k := by
  have h1 := fact_pos k
  rw [fact] at h
  exact ⟨(Nat.div_lt_iff_lt_mul (by omega)).2 h, Nat.mod_lt _ (by omega)⟩
theorem wrS_in {n : Nat} : ∀ (k r : Nat) {left out : List Int}, r < fact k → left.length = k → out.length + k = n → (∀ x ∈ left, 0 ≤ x ∧ x < (n : Int)) → (∀ x ∈ out, 0 ≤ x ∧ x < (n : Int)) → (wrS k r left out).length = n ∧ ∀ x ∈ wrS k r left out, 0 ≤ x ∧ x < (n : Int)
  | 0, r, left, out, _, _, h3, _, h5 => ⟨by simpa [wrS] using h3, h5⟩
  | k + 1, r, left, out, h1, h2, h3, h4, h5 => by
    obtain ⟨a1, a2⟩ := wr_at h1
    unfold wrS
    refine wrS_in k _ a2 (by rw [delL_len (by omega), h2]; rfl) (by simp; omega) (fun x hx => ?_) (fun x hx => ?_)
    · unfold delL at hx
      rw [List.mem_append] at hx
      rcases hx with hx | hx
      · exact h4 x (List.mem_of_mem_take hx)
      · exact h4 x (List.mem_of_mem_drop hx)
    · rw [List.mem_append, List.mem_singleton] at hx
      rcases hx with hx | rfl
      · exact h5 x hx
      · exact h4 _ (gt_mem (by omega))
theorem wrL_in {n r : Nat} (h : r < fact n) : InR n (wrL n r) := by
  have h1 := wrS_in (n := n) n r (left := idL n) (out := []) h (idL_len n) (by simp) (fun x hx => by
    simp only [idL, List.mem_map, List.mem_range] at hx
    obtain ⟨k, hk, rfl⟩ := hx
    omega) (by simp)
  exact ⟨h1.1, fun k hk => h1.2 _ (gt_mem (by omega))⟩
theorem i_fact0 (w : World) : Calls Try.prog 120 #[.int .i64 0] w (Q (.int .i64 1) w) := by
  go_enter Try.func120, Try.ntmps120
  go_wp2_with (fail)
  go_loop [3, 4] (fun u v => u = .int .i64 1 ∧ v = .int .i64 2) (fun _ v => 10 - (intOf v).toNat)
  case atStart => exact ⟨rfl, rfl⟩
  case round =>
    obtain ⟨rfl, rfl⟩ := hrel
    go_wp2_with (fail)
    go_ret
    exact ⟨rfl, 0, rfl⟩
theorem i_factN (k : Nat) (w : World) (h : k ≤ 6) : Calls Try.prog 120 #[.int .i64 k] w (Q (.int .i64 (fact k : Nat)) w) := by
  rcases Nat.eq_zero_or_pos k with rfl | h0
  · exact i_fact0 w
  · have := i_factorial k w (by omega) (by omega)
    rwa [Int.toNat_natCast] at this
theorem s_fact0 (w : World) : Calls Try.prog 102 #[.int .i64 0] w (Q (.int .i64 1) w) := by
  go_enter Try.func102, Try.ntmps102
  go_wp2_with (fail)
  go_loop [0, 3] (fun v u => v = .int .i64 0 ∧ u = .int .i64 1) (fun v _ => (intOf v).toNat)
  case atStart => exact ⟨rfl, rfl⟩
  case round =>
    obtain ⟨rfl, rfl⟩ := hrel
    go_wp2_with (fail)
    go_ret
    exact ⟨rfl, 0, rfl⟩
theorem s_factN (k : Nat) (w : World) (h : k ≤ 6) : Calls Try.prog 102 #[.int .i64 k] w (Q (.int .i64 (fact k : Nat)) w) := by
  rcases Nat.eq_zero_or_pos k with rfl | h0
  · exact s_fact0 w
  · have := s_l21Factorial k w (by omega) (by omega)
    rwa [Int.toNat_natCast] at this
theorem one_src_dr (w : World) (q : Nat) (x : Value) (e : TypeId) : ∀ ad, some (⟨w.heap.size, 0, none⟩ : Addr) = some ad → ∀ j u, [x][j]? = some u → ((w.drewN q).alloc (.cells #[x] e)).cell? (ad.add j) = some u := one_src (w.drewN q) x e
theorem c_delete (base g n cap i : Nat) (zs : List Int) (w : World) (ho : w.ownsRow base 2 1 (.slice (some ⟨g, 0, none⟩) n cap) n (ints zs)) (hi : i < n) :
    Calls Try.prog 167 #[.slice (some ⟨g, 0, none⟩) n cap, .int .i64 i, .int .i64 ((i : Int) + 1)] w fun e w' => e = .returned (.slice (some ⟨g, 0, none⟩) (n - 1) cap) ∧ w'.ownsRow base 2 1 (.slice (some ⟨g, 0, none⟩) (n - 1) cap) (n - 1) (ints (delL zs i)) ∧ w.grownBy w' (some g) := by
  obtain ⟨g', cap', hv, hb, hlt, hnc, hcm, hzl, hH⟩ := Lib.holds_of_ownsRow (enc := Value.int .i64) ho (by intro h; cases h)
  cases hv
  subst hzl
  unfold maxLen at hcm
  have hc := Try.slices_Delete_int g 0 cap i (i + 1) zs w hH hnc (by omega) (by omega) (by omega)
  rw [show (((i + 1 : Nat)) : Int) = (i : Int) + 1 by simp] at hc
  refine hc.mono ?_
  rintro e w' ⟨rfl, q, rfl⟩
  have h := Lib.ownsRow_putRow (enc := Value.int .i64) (q := q) (k := zs.length - 1) (ys := zs.take i ++ zs.drop (i + 1) ++ List.replicate (i + 1 - i) 0) ho (by simp; omega) (by omega)
  rw [show zs.length - 1 = (zs.take i ++ zs.drop (i + 1)).length by simp; omega, List.take_left] at h
  rw [show (zs.take i ++ zs.drop (i + 1)).length = zs.length - 1 by simp; omega] at h
  refine ⟨by rw [show i + 1 - i = 1 by omega], h, ?_⟩
  have := grownBy_sortedI (w := w) (g := g) (n := q) (os := #[]) (zs.take i ++ zs.drop (i + 1) ++ List.replicate (i + 1 - i) 0).toArray
  rwa [Sort.grow_empty] at this
set_option maxRecDepth 10000 in
set_option maxHeartbeats 4000000 in
theorem i_withRank (n r : Nat) (w : World) (hn : 1 ≤ n) (hn6 : n ≤ 6) (hr : r < fact n) : Calls Try.prog 122 #[.int .i64 n, .int .i64 r] w (MI w.heap.size n (wrL n r) w) := by
  have hf := (fact_le hn6).2
  have hroot : wrS n r (idL n) [] = wrL n r := rfl
  generalize hRES : wrL n r = RES at *
  have HR0 : Hid (r < fact n ∧ (idL n).length = n ∧ wrS n r (idL n) [] = RES) := ⟨hr, idL_len n, hroot⟩
  have hr720 : r < 720 := by omega
  clear hroot hr hRES hf
  obtain ⟨i0, hi, hz0, hz1, hz2⟩ := info_parts infoI64
  go_enter Try.func122, Try.ntmps122
  go_wp2_with (go_at_call 166; refine (i_one n _ (by omega)).mono ?_; rintro e w1 ⟨v1, rfl, ho1, hb1⟩; obtain ⟨Av, cv, rfl, _⟩ := own_slice' ho1; obtain ⟨gl', rfl, hgl1, hgl2, _⟩ := own_src ho1 (by omega))
  go_loopw [1, 5, 6, 7] (fun u1 u5 u6 u7 wr => ∃ (k r : Nat) (left out : List Int), k ≤ n ∧ r < 720 ∧ u1 = .int .i64 r ∧ u7 = .int .i64 k ∧ u5 = .slice (some ⟨gl', 0, none⟩) k cv ∧ wr.ownsRow w.heap.size 2 1 (.slice (some ⟨gl', 0, none⟩) k cv) k (ints left) ∧ wr.ownsRow w.heap.size 2 1 u6 (n - k) (ints out) ∧ (∀ g, u6.ownBlock = some g → g ≠ gl') ∧ Below w.heap.size w wr ∧ gl' < wr.heap.size ∧ Hid (r < fact k ∧ left.length = k ∧ wrS k r left out = RES)) (fun _ _ _ u7 _ => (intOf u7).toNat)
  case atStart => exact ⟨n, r, idL n, [], Nat.le_refl _, hr720, rfl, rfl, rfl, ho1, by rw [Nat.sub_self]; exact World.ownsRow_nil _ _ _ _, fun g hg => by simp [Value.ownBlock] at hg, hb1, hgl2, HR0.out⟩
  case round =>
    clear ho1 hb1 HR0 hr720 hgl2
    obtain ⟨ws, rfl⟩ : ∃ ws : World, ws = wr := ⟨_, rfl⟩
    obtain ⟨k, r, left, out, hk, hr720, rfl, rfl, rfl, hleft, hout, hnb, hb, hgl, HI⟩ := hrel
    obtain ⟨A6, c6, rfl, _⟩ := own_slice' hout
    have hsz := hb.size
    rcases Nat.eq_zero_or_pos k with rfl | hk0
    · have hfin : Hid (out = RES) := HI.out.2.2
      rw [hfin.out] at hout
      have HO := Lib.hid hout
      clear hout
      go_wp2_with (fail)
      go_ret
      rw [Nat.sub_zero] at HO ⊢
      exact ⟨_, rfl, HO.out, hb⟩
    · obtain ⟨q, rfl⟩ : ∃ q, k = q + 1 := ⟨k - 1, by omega⟩
      obtain ⟨h1, h2, h3⟩ := HI.out
      obtain ⟨a1, a2⟩ := wr_at h1
      have hfq := fact_le (k := q) (by omega)
      have h4 : wrS q (r % fact q) (delL left (r / fact q)) (out ++ [gt left (r / fact q)]) = RES := h3
      have hfac := fun W => i_factN q W (by omega)
      have hdl := delL_len (l := left) (i := r / fact q) (by omega)
      have hmd := Nat.mod_le r (fact q)
      have hcl : ∀ j u, (ints left)[j]? = some u → ws.cell? ⟨gl', j, none⟩ = some u := fun j u hj => by
        have h9 := World.ownsRow.cells hleft (g := gl') rfl j u hj
        rw [Go.WideShapes.add_plain] at h9
        simpa using h9
      have hcd := fun (W : World) ho => c_delete w.heap.size gl' (q + 1) cv (r / fact q) left W ho (by omega)
      have e1 := hcl (r / fact q) _ (ints_at (by omega))
      have hdv : (r : Int) / ((fact q : Nat) : Int) = ((r / fact q : Nat) : Int) := by simp
      have hmv : (r : Int) % ((fact q : Nat) : Int) = ((r % fact q : Nat) : Int) := by simp
      generalize hd : r / fact q = d at *
      generalize hrm : r % fact q = rm at *
      generalize hFq : fact q = F at *
      have HFQ := Lib.hid hFq
      have hF0 : (F : Int) ≠ 0 := by omega
      have H4 := Lib.hid h4
      have HDL := Lib.hid hdl
      have HLN := Lib.hid h2
      have HRM := Lib.hid a2
      clear h4 hdl h1 h2 h3 HI hcl hd hrm hFq
      go_wp2_with (first
        | (go_at_call 120; refine (hfac _).mono ?_; rintro e w2 ⟨rfl, nq, rfl⟩)
        | (at_builtin; go_loud (refine wpList_append_src rfl (.tmp 26) (.tmp 31) 22 rfl w.heap.size 2 i0 (.int .i64 0) 1 8 Try.underlying22 hi hz0 hz1 hz2 rfl (by omega) (.slice A6 (n - (q + 1)) c6) (n - (q + 1)) (ints out) rfl (World.ownsRow.alloc (own_dr hout _) _) (some ⟨ws.heap.size, 0, none⟩) 1 1 [.int .i64 (gt left d)] rfl rfl (one_src_dr ws _ _ _) (by intro h; cases h) (by intro u hu; simp at hu; subst hu; rfl) (by simp only [maxLen]; omega) (by omega) (by simp; omega) ?_; intro v5 w5 hown5 hg5 hat5; have hl5 := World.ownsRow.kept (World.ownsRow.alloc (own_dr hleft _) _) hg5 (.inr (fun e => hnb gl' e.symm rfl))))
        | (go_at_call 167; refine (hcd _ hl5).mono ?_; rintro e w6 ⟨rfl, hl6, hg6⟩))
      go_roundw
      case rel =>
        have hzd : q + 1 - 1 = q := by omega
        rw [hzd] at hl6
        have hne5 : ∀ g, v5.ownBlock = some g → g ≠ gl' := fun g hg => by
          rcases hat5 with h | h
          · rw [h] at hg; exact hnb g hg
          · rw [h] at hg; injection hg with hg; simp at hg; omega
        have ho6 := World.ownsRow.kept hown5 hg6 (by
          cases h : v5.ownBlock with
          | none => exact .inl rfl
          | some g => exact .inr fun e => hne5 g h (by injection e))
        have hz5 := hg5.size
        have hz6 := hg6.size
        simp only [World.size_alloc] at hz5
        have hzz : (ws.drewN 0).heap.size = ws.heap.size := rfl
        have hb5 := ((below_drewN hb _).alloc (by show _ ≤ ws.heap.size; omega) _).grown hg5 (by simp; omega) (fun g hg => (hout.lt g hg).1)
        refine ⟨q, rm, delL left d, out ++ [gt left d], by omega, by omega, by first | rfl | rw [hmv], by go_num, by first | rfl | rw [hzd], hl6, ?_, hne5, ?_, ?_, by rw [HFQ.out]; exact HRM.out, by have := HDL.out; have := HLN.out; omega, H4.out⟩
        · rw [ints_snoc, show n - q = n - (q + 1) + 1 by omega]; exact ho6
        · exact hb5.grown hg6 (by have := hb5.size; omega) (fun g hg => by injection hg with hg; have := (hleft.lt gl' rfl).1; omega)
        · have : ws.heap.size ≤ w5.heap.size := by have := hg5.size; simp at this; omega
          omega
      case measure => simp [intOf]
end Go.Proofs.Ytcbjfdeigpdbdaa
