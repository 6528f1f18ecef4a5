/- FnDensities: what the law asks, in plain terms. -/
import Derived.Test.YtglijcdnnaekkaaGreatA278
import Derived.Test.YtglijcdnnaekkaaGreatA283
import Derived.Test.YtglijcdnnaekkaaGreatA154
namespace Go.Proofs.YtglijcdnnaekkaaGreat
set_option linter.unusedVariables false
set_option linter.unusedSimpArgs false
open Go.RowKit

theorem low_eq {N D N2 D2 : Int} (h1 : 1 ≤ D) (h2 : 1 ≤ D2) (g1 : Int.gcd N D = 1) (g2 : Int.gcd N2 D2 = 1) (e : N * D2 = N2 * D) : N = N2 ∧ D = D2 := by
  rw [Int.gcd_eq_natAbs_gcd_natAbs] at g1 g2
  have e' : N.natAbs * D2.natAbs = N2.natAbs * D.natAbs := by rw [← Int.natAbs_mul, ← Int.natAbs_mul, e]
  have d1 : D.natAbs ∣ D2.natAbs := Nat.Coprime.dvd_of_dvd_mul_left (m := N.natAbs) (Nat.Coprime.symm g1) (by rw [e']; exact Nat.dvd_mul_left _ _)
  have d2 : D2.natAbs ∣ D.natAbs := Nat.Coprime.dvd_of_dvd_mul_left (m := N2.natAbs) (Nat.Coprime.symm g2) (by rw [← e']; exact Nat.dvd_mul_left _ _)
  have e2 := Nat.dvd_antisymm d1 d2
  have e3 : D = D2 := by omega
  subst e3
  exact ⟨Int.eq_of_mul_eq_mul_right (by omega) e, rfl⟩
theorem mk_low {n d : Int} (h : 1 ≤ d) : ∃ g : Int, 1 ≤ g ∧ mkN n d * g = n ∧ mkD n d * g = d ∧ Int.gcd (mkN n d) (mkD n d) = 1 ∧ 1 ≤ mkD n d := by
  have hg : 0 < Int.gcd n d := Int.gcd_pos_of_ne_zero_right n (by omega)
  have hN : mkN n d * (Int.gcd n d : Int) = n := Int.ediv_mul_cancel (Int.gcd_dvd_left ..)
  have hD : mkD n d * (Int.gcd n d : Int) = d := Int.ediv_mul_cancel (Int.gcd_dvd_right ..)
  have hgc : Int.gcd (mkN n d) (mkD n d) = 1 := by
    have h := Int.gcd_mul_right (mkN n d) (Int.gcd n d : Int) (mkD n d)
    rw [hN, hD, Int.natAbs_natCast] at h
    exact Nat.eq_of_mul_eq_mul_right hg (by rw [← h, Nat.one_mul])
  refine ⟨(Int.gcd n d : Int), by omega, hN, hD, hgc, ?_⟩
  generalize mkD n d = D at *
  generalize Int.gcd n d = g at *
  by_cases h0 : 0 < D
  · omega
  · have := Int.mul_le_mul_of_nonneg_right (show D ≤ 0 by omega) (show (0 : Int) ≤ g by omega); omega
theorem mk_cross {n d : Int} (h : 1 ≤ d) : mkN n d * d = n * mkD n d := by
  obtain ⟨g, h1, h2, h3, _⟩ := mk_low (n := n) h
  generalize mkN n d = N at *
  generalize mkD n d = D at *
  rw [← h2, ← h3, Int.mul_assoc, Int.mul_comm g D]
theorem mk_eq {n d n2 d2 : Int} (h1 : 1 ≤ d) (h2 : 1 ≤ d2) (e : n * d2 = n2 * d) : mkN n d = mkN n2 d2 ∧ mkD n d = mkD n2 d2 := by
  obtain ⟨g, g1, a1, a2, a3, a4⟩ := mk_low (n := n) h1
  obtain ⟨k, k1, b1, b2, b3, b4⟩ := mk_low (n := n2) h2
  refine low_eq a4 b4 a3 b3 ?_
  generalize mkN n d = N at *
  generalize mkD n d = D at *
  generalize mkN n2 d2 = N2 at *
  generalize mkD n2 d2 = D2 at *
  have h : (N * D2) * (g * k) = (N2 * D) * (g * k) := by
    calc (N * D2) * (g * k) = (N * g) * (D2 * k) := by rw [Int.mul_assoc, Int.mul_assoc, ← Int.mul_assoc D2, Int.mul_comm D2 g, Int.mul_assoc g]
      _ = n * d2 := by rw [a1, b2]
      _ = n2 * d := e
      _ = (N2 * k) * (D * g) := by rw [b1, a2]
      _ = (N2 * D) * (g * k) := by rw [Int.mul_assoc, Int.mul_assoc, ← Int.mul_assoc k, Int.mul_comm k D, Int.mul_assoc D, Int.mul_comm k g]
  have hgk : g * k ≠ 0 := Int.mul_ne_zero (by omega) (by omega)
  exact Int.eq_of_mul_eq_mul_right hgk h
/-- Adding two fractions of one denominator. -/
theorem mk_add {S K L : Int} (h : 1 ≤ L) : mkN (mkN S L * mkD K L + mkN K L * mkD S L) (mkD S L * mkD K L) = mkN (S + K) L ∧ mkD (mkN S L * mkD K L + mkN K L * mkD S L) (mkD S L * mkD K L) = mkD (S + K) L := by
  have e1 := mk_cross (n := S) h
  have e2 := mk_cross (n := K) h
  obtain ⟨_, _, _, _, _, d1⟩ := mk_low (n := S) h
  obtain ⟨_, _, _, _, _, d2⟩ := mk_low (n := K) h
  generalize mkN S L = a at *
  generalize mkD S L = b at *
  generalize mkN K L = c at *
  generalize mkD K L = d at *
  refine mk_eq (by have := Int.mul_le_mul_of_nonneg_right d1 (show 0 ≤ d by omega); omega) h ?_
  calc (a * d + c * b) * L = (a * L) * d + (c * L) * b := by rw [Int.add_mul, Int.mul_assoc a, Int.mul_comm d L, ← Int.mul_assoc a, Int.mul_assoc c, Int.mul_comm b L, ← Int.mul_assoc c]
    _ = (S * b) * d + (K * d) * b := by rw [e1, e2]
    _ = (S + K) * (b * d) := by rw [Int.add_mul, Int.mul_assoc S, Int.mul_assoc K, Int.mul_comm d b]
theorem mk_bd {S L : Int} (h1 : 0 ≤ S) (h2 : S ≤ 720) (h : 1 ≤ L) (hL : L ≤ 720) : ratB (mkN S L) (mkD S L) = true ∧ 0 ≤ mkN S L ∧ mkN S L ≤ 720 ∧ 1 ≤ mkD S L ∧ mkD S L ≤ 720 ∧ (0 < mkN S L ↔ 0 < S) := by
  obtain ⟨hr, ⟨r1, r2⟩, _⟩ := mk_rat (n := S) (d := L) (by omega) (by omega) h (by omega)
  obtain ⟨g, g1, e1, _⟩ := mk_low (n := S) h
  have hN : 0 ≤ mkN S L := by
    by_cases h0 : 0 ≤ mkN S L
    · exact h0
    · exfalso
      have := Int.mul_le_mul_of_nonneg_right (show mkN S L ≤ -1 by omega) (show (0 : Int) ≤ g by omega)
      omega
  have hle : mkN S L ≤ mkN S L * g := by
    have := Int.mul_le_mul_of_nonneg_left g1 hN
    omega
  refine ⟨hr, hN, by omega, r1, by omega, ⟨fun h => by omega, fun h => ?_⟩⟩
  by_cases h0 : 0 < mkN S L
  · exact h0
  · exfalso
    have : mkN S L = 0 := by omega
    rw [this] at e1
    omega
theorem mk_one {L : Int} (h : 1 ≤ L) : mkN L L = 1 ∧ mkD L L = 1 := by
  obtain ⟨a, b⟩ := mk_eq (n := L) (d := L) (n2 := 1) (d2 := 1) h (by omega) (by omega)
  rw [a, b]
  exact ⟨rfl, rfl⟩
theorem mk_zero {L : Int} (h : 1 ≤ L) : mkN 0 L = 0 ∧ mkD 0 L = 1 := by
  obtain ⟨a, b⟩ := mk_eq (n := 0) (d := L) (n2 := 0) (d2 := 1) h (by omega) (by omega)
  rw [a, b]
  exact ⟨rfl, rfl⟩
theorem cnS_cnt {ts out : List (List Int)} {L : Nat} {t : List Int} : ∀ k, k ≤ out.length → cnS t out (ctL ts L out) k = (cntT ts L t : Int) ∨ (cnS t out (ctL ts L out) k = 0 ∧ ∀ j, j < k → gl out j ≠ t)
  | 0, _ => .inr ⟨rfl, fun j hj => by omega⟩
  | k + 1, h => by
    by_cases e : gl out k = t
    · rw [cnS_yes e, ctL_gt (show k < out.length by omega), e]
      exact .inl rfl
    · rw [cnS_no e]
      rcases cnS_cnt (ts := ts) (out := out) (L := L) (t := t) k (by omega) with h1 | ⟨h1, h2⟩
      · exact .inl h1
      · refine .inr ⟨h1, fun j hj => ?_⟩
        by_cases e2 : j = k
        · subst e2; exact e
        · exact h2 j (by omega)
theorem gN_cnt (i : Nat) (t : List Int) : gN i t = (cntT (tyM (lbP i) (RK (lbP i) (lbG i))) (RK (lbP i) (lbG i)).length t : Int) := by
  unfold gN gC
  rcases cnS_cnt (ts := tyM (lbP i) (RK (lbP i) (lbG i))) (out := gT i) (L := (RK (lbP i) (lbG i)).length) (t := t) (gT i).length (Nat.le_refl _) with h | ⟨h1, h2⟩
  · exact h
  · rw [h1]
    have : cntT (tyM (lbP i) (RK (lbP i) (lbG i))) (RK (lbP i) (lbG i)).length t = 0 := cntT_zero fun j hj e => by
      have hm : t ∈ gT i := shO_mem.2 ⟨j, hj, e⟩
      obtain ⟨q, hq, e2⟩ := mem_gl.1 hm
      exact h2 q hq e2
    omega
set_option maxRecDepth 100000 in
theorem ty_k3 : ∀ n : Fin 6, (decide (srt (tyF 20 1 (n + 1)) (tyF 20 1 (n + 1)).length).Nodup && ((tyF 20 1 (n + 1)).all fun t => decide (t ∈ srt (tyF 20 1 (n + 1)) (tyF 20 1 (n + 1)).length)) && ((srt (tyF 20 1 (n + 1)) (tyF 20 1 (n + 1)).length).all fun t => decide (t.sum = (n + 1 : Nat)))) = true := by decide +kernel
/-- What the law asks of all types and a group of the library. -/
theorem dens_all {i : Nat} (hi : i < 14) : smT (gN i) (toT (lbP i)) (toT (lbP i)).length = ((RK (lbP i) (lbG i)).length : Int) ∧ ∀ k, k < (toT (lbP i)).length → (gl (toT (lbP i)) k).sum = (lbP i : Nat) ∧ 0 ≤ gN i (gl (toT (lbP i)) k) := by
  obtain ⟨p1, p2, _, _, _⟩ := lb_in i hi
  obtain ⟨n, hn⟩ : ∃ n, lbP i = n + 1 := ⟨lbP i - 1, by omega⟩
  have k1 := ty_k1 ⟨n, by omega⟩
  have k3 := ty_k3 ⟨n, by omega⟩
  rw [Bool.and_eq_true, Bool.and_eq_true] at k3
  obtain ⟨⟨ka, kb⟩, kc⟩ := k3
  have hall : toT (lbP i) = srt (tyF 20 1 (n + 1)) (tyF 20 1 (n + 1)).length := by rw [(toT_eq p1 (by omega)).1, hn]
  have hnd := of_decide_eq_true ka
  have hkk := RK_in i hi
  rw [hall]
  constructor
  · rw [smT_all]
    have hin : ∀ j, j < (RK (lbP i) (lbG i)).length → gl (tyM (lbP i) (RK (lbP i) (lbG i))) j ∈ srt (tyF 20 1 (n + 1)) (tyF 20 1 (n + 1)).length := fun j hj => by
      rw [gl_tyM hj, gl_memW hj, ← tyR_eq]
      have hb := hkk j hj
      rw [hn] at hb ⊢
      have h1 := List.all_eq_true.1 k1 _ (List.mem_range.2 (show (gt (RK (lbP i) (lbG i)) j).toNat < fact (n + 1) by rw [hn]; omega))
      obtain ⟨t, ht, he⟩ := List.any_eq_true.1 h1
      have he : tyR (n + 1) (gt (RK (lbP i) (lbG i)) j).toNat = t := of_decide_eq_true he
      have h2 := of_decide_eq_true (List.all_eq_true.1 kb t ht)
      rw [hn] at he
      rw [he]
      exact h2
    have hs : lsum (srt (tyF 20 1 (n + 1)) (tyF 20 1 (n + 1)).length) (fun x => cntT (tyM (lbP i) (RK (lbP i) (lbG i))) (RK (lbP i) (lbG i)).length x) = (RK (lbP i) (lbG i)).length := by
      rw [lsum_congr (g := fun x => lsum (List.range (RK (lbP i) (lbG i)).length) (fun j => if gl (tyM (lbP i) (RK (lbP i) (lbG i))) j = x then 1 else 0)) (fun x _ => cnt_lsum _ _ x), lsum_swap, lsum_congr (g := fun _ => 1) (fun j hj => lsum_in hnd (hin j (List.mem_range.1 hj))), lsum_len, List.length_range]
    generalize srt (tyF 20 1 (n + 1)) (tyF 20 1 (n + 1)).length = all at *
    have hc : ∀ (l : List (List Int)), (l.map (gN i)).sum = ((lsum l (fun x => cntT (tyM (lbP i) (RK (lbP i) (lbG i))) (RK (lbP i) (lbG i)).length x) : Nat) : Int) := fun l => by
      induction l with
      | nil => rfl
      | cons x l ih => rw [List.map_cons, List.sum_cons, ih, lsum_cons, gN_cnt]; omega
    rw [hc, hs]
  · intro k hk
    refine ⟨?_, by rw [gN_cnt]; omega⟩
    have := of_decide_eq_true (List.all_eq_true.1 kc _ (gl_mem hk))
    rw [this, hn]
theorem gN_pos {i : Nat} {t : List Int} : decide (0 < gN i t) = hasT (lbP i) (RK (lbP i) (lbG i)) t := by
  rw [gN_cnt, Bool.eq_iff_iff, decide_eq_true_eq]
  unfold hasT
  rw [List.any_eq_true]
  constructor
  · intro h
    refine Classical.byContradiction fun hno => ?_
    have : cntT (tyM (lbP i) (RK (lbP i) (lbG i))) (RK (lbP i) (lbG i)).length t = 0 := cntT_zero fun j hj e => hno ⟨gl (memL (lbP i) (RK (lbP i) (lbG i))) j, gl_mem (by rw [memL_len]; exact hj), by rw [decide_eq_true_eq, ← gl_tyM hj]; exact e⟩
    omega
  · rintro ⟨a, ha, e⟩
    obtain ⟨j, hj, rfl⟩ := mem_gl.1 ha
    rw [memL_len] at hj
    have := cntT_pos (ts := tyM (lbP i) (RK (lbP i) (lbG i))) (i := (RK (lbP i) (lbG i)).length) (x := t) hj (by rw [gl_tyM hj]; exact of_decide_eq_true e)
    omega
/-- With one type less no name is lost. -/
theorem cn_tail {n : Int} {x : List Int} {ll : List (List Int)} {is : List Nat} (h : CN n (x :: ll) is 0) : ∃ is', CN n ll is' 0 ∧ ∀ k ∈ is, k ∈ is' := by
  rcases h with ⟨_, _, e⟩ | ⟨_, _, _, e⟩ | ⟨_, _, _, _, e⟩ | ⟨_, _, _, _, _, e⟩ | ⟨h1, h2, h3, h4, rfl, _⟩
  · omega
  · omega
  · omega
  · omega
  · rw [List.any_cons, Bool.or_eq_false_iff] at h1 h4
    refine ⟨snK n (suitK ll) 14, .inr (.inr (.inr (.inr ⟨h1.2, h2, by simp at h3; omega, h4.2, rfl, rfl⟩))), fun k hk => ?_⟩
    unfold snK at hk ⊢
    rw [List.mem_filter] at hk ⊢
    refine ⟨hk.1, ?_⟩
    have := hk.2
    unfold suitK at this ⊢
    rw [List.all_cons, Bool.and_eq_true] at this
    exact this.2
end Go.Proofs.YtglijcdnnaekkaaGreat
