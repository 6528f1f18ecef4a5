/- Contracts: powers by a polynomial, both sides. -/
import Derived.Test.YtifaccppbhbfhaaA351
namespace Go.Proofs.Ytifaccppbhbfhaa
set_option linter.unusedVariables false
set_option linter.unusedSimpArgs false
open Go.RowKit

section
open FX
variable {K : Type} [FX.CommRing K]
theorem cg_mul {F x y u v : Pol K} (h : Dv F (x - y)) (k : Dv F (u - v)) : Dv F (x * u - y * v) := by
  obtain ⟨a, ha⟩ := h
  obtain ⟨b, hb⟩ := k
  exact ⟨a * u + y * b, FX.rh ha u (FX.rh hb y FX.rg)⟩
theorem cg_pow {F x y : Pol K} (h : Dv F (x - y)) : ∀ n : Nat, Dv F (x ^ n - y ^ n)
  | 0 => by rw [FX.Semiring.pow_zero, FX.Semiring.pow_zero]; exact ⟨0, by exact FX.rg⟩
  | n + 1 => by rw [FX.Semiring.pow_succ, FX.Semiring.pow_succ]; exact cg_mul (cg_pow h n) h
theorem cg_trans {F x y z : Pol K} (h : Dv F (x - y)) (k : Dv F (y - z)) : Dv F (x - z) := by
  obtain ⟨a, ha⟩ := h
  obtain ⟨b, hb⟩ := k
  exact ⟨a + b, FX.rh ha 1 (FX.rh hb 1 FX.rg)⟩
theorem cg_rest {F x q r : Pol K} (h : x = q * F + r) : Dv F (x - r) := ⟨q, FX.rh h 1 FX.rg⟩
theorem cg_start {F B one o b q q' : Pol K} (e : Nat) (h1 : one = 1) (ho : one = q * F + o) (hb : B = q' * F + b) : Dv F (B ^ e - o * b ^ e) := by
  have h2 := cg_mul (cg_rest ho) (cg_pow (cg_rest hb) e)
  rw [h1] at h2
  rwa [show (1 : Pol K) * B ^ e = B ^ e by exact FX.rg] at h2
theorem pow2 {R : Type} [FX.CommRing R] (b : R) (k : Nat) : b ^ (2 * k) = (b * b) ^ k := by
  induction k with
  | zero => rw [Nat.mul_zero, FX.Semiring.pow_zero, FX.Semiring.pow_zero]
  | succ k ih => rw [show 2 * (k + 1) = 2 * k + 1 + 1 by omega, FX.Semiring.pow_succ, FX.Semiring.pow_succ, ih, FX.Semiring.pow_succ]; exact FX.rg
theorem cg_even {F B o b b' q : Pol K} {k : Nat} (h : Dv F (B - o * b ^ (2 * k))) (hb : b * b = q * F + b') : Dv F (B - o * b' ^ k) := by
  rw [pow2] at h
  refine cg_trans h (cg_mul (⟨0, by exact FX.rg⟩ : Dv F (o - o)) (cg_pow (cg_rest hb) k))
theorem cg_odd {F B o o' b b' q q' : Pol K} {k : Nat} (h : Dv F (B - o * b ^ (2 * k + 1))) (ho : o * b = q' * F + o') (hb : b * b = q * F + b') : Dv F (B - o' * b' ^ k) := by
  rw [FX.Semiring.pow_succ, pow2, show o * ((b * b) ^ k * b) = (o * b) * (b * b) ^ k by exact FX.rg] at h
  exact cg_trans h (cg_mul (cg_rest ho) (cg_pow (cg_rest hb) k))
end
theorem can_one (P : Nat) (h : 2 ≤ P) : FX.Can P [1] := ⟨fun k => by
  cases k with
  | zero => exact ⟨by simp [gt], by simp [gt]; omega⟩
  | succ k => simp [gt]; omega, fun _ => by simp [gt]⟩
theorem can_X (P : Nat) (h : 2 ≤ P) : FX.Can P [0, 1] := ⟨fun k => by
  match k with
  | 0 => exact ⟨by simp [gt], by simp [gt]; omega⟩
  | 1 => exact ⟨by simp [gt], by simp [gt]; omega⟩
  | k + 2 => simp [gt]; omega, fun _ => by simp [gt]⟩
/-- Powers by f under way. -/
def PWI (P : Nat) [NeZero P] (f b0 : List Int) (e0 : Nat) (o b : List Int) (e : Nat) : Prop := FX.Can P o ∧ FX.Can P b ∧ o.length + 1 ≤ f.length ∧ b.length + 1 ≤ f.length ∧ FX.Dv (FX.toP P f) (FX.toP P b0 ^ e0 - FX.toP P o * FX.toP P b ^ e)
def PWQ (P : Nat) [NeZero P] (f b0 : List Int) (e0 : Nat) (l : List Int) : Prop := FX.Can P l ∧ l.length + 1 ≤ f.length ∧ FX.Dv (FX.toP P f) (FX.toP P b0 ^ e0 - FX.toP P l)
theorem and_one : ∀ e : Fin 1024, bits .and .i64 ((e.val : Nat) : Int) 1 = ((e.val % 2 : Nat) : Int) := by decide +kernel
set_option maxRecDepth 10000 in
set_option maxHeartbeats 1000000 in
theorem i_powerBy (P : Nat) [NeZero P] (hP : P ≤ 97) (hp : FX.Prm P) (A A' : Option Addr) (c n' c' e0 : Nat) (b0 f : List Int) (w : World) (hn' : n' = f.length) (h2 : 2 ≤ n') (hl' : n' ≤ 9) (he : e0 ≤ 1000) (hlb : b0.length ≤ 10) (hb0 : FX.Can P b0) (hf : FX.Can P f) (hs : OA w A c b0) (hs' : IS w w.heap.size A' f) :
    Calls Try.prog 91 #[.int .i64 (P : Int), .slice A b0.length c, .int .i64 (e0 : Int), .slice A' n' c'] w (RVE (PWQ P f b0 e0) w) := by
  have hp2 : 2 ≤ P := hp.1
  have hre := fun A c g w a1 a2 a3 a4 => i_rest P hP hp A A' c n' c' g f w hn' (by omega) a1 (by omega) a2 hf a3 a4
  have htm := fun A n c A' n' c' g h w a1 a2 a3 a4 a5 a6 a7 a8 => i_times P hP A A' n c n' c' g h w a1 a2 a3 a4 a5 a6 a7 a8
  have ho1 : OA (w.alloc (.cells #[.int .i64 1] 2)) (some ⟨w.heap.size, 0, none⟩) 1 [1] := own_mono (own_one w (.int .i64 1) 2) (Nat.zero_le _)
  have hba := (Below.refl w.heap.size w).alloc (Nat.le_refl _) (.cells #[.int .i64 1] 2)
  have hr1 := hre (some ⟨w.heap.size, 0, none⟩) 1 [1] _ (by simp) (can_one P hp2) ho1 (hs'.call hba)
  have hr2 := fun W a3 a4 => hre A c b0 W (by omega) hb0 a3 a4
  have hsw := hs.call hba
  have hsw' := hs'.call hba
  have hst : ∀ o b, RM P [1] f o → RM P b0 f b → PWI P f b0 e0 o b e0 := fun o b h3 h4 => by
    obtain ⟨x1, ⟨q, x2⟩, x3⟩ := h3
    obtain ⟨y1, ⟨q', y2⟩, y3⟩ := h4
    exact ⟨x1, y1, x3, y3, cg_start e0 (FX.toP_one P) x2 y2⟩
  have HST := Lib.hid hst
  have HN := Lib.hid hn'
  have HS := Lib.hid hs'
  have HRE := Lib.hid hre
  have HTM := Lib.hid htm
  clear hst hn' hs hs' hre htm hb0 hf ho1
  generalize b0.length = nb at *
  go_enter Try.func91, Try.ntmps91
  go_wp2_with (first
    | (go_at_call 108; refine hr1.mono ?_; clear hr1; rintro e w1 ⟨o1, q1, A1, c1, rfl, ho1, hb1⟩; have hr3 := hr2 w1 (hsw.call hb1) (hsw'.call hb1))
    | (go_at_call 108; refine hr3.mono ?_; clear hr3; rintro e w2 ⟨o2, q2, A2, c2, rfl, ho2, hb2⟩))
  have ho1' := own_mono (base' := w.heap.size) (own_below ho1 hb2) hba.size
  have ho2 := own_mono (base' := w.heap.size) ho2 (Nat.le_trans hba.size hb1.size)
  have hb12 := bel_call (bel_call hba hb1) hb2
  have HPI := Lib.hid (HST.out o1 o2 q1 q2)
  clear hr2 hsw hsw' hba hb1 hb2 q1 q2 ho1
  go_loopw [1, 2, 9] (fun u1 u2 u9 wr => ∃ (o b : List Int) (A1 A2 : Option Addr) (c1 c2 n1 n2 e : Nat), n1 = o.length ∧ n2 = b.length ∧ u9 = .slice A1 n1 c1 ∧ u1 = .slice A2 n2 c2 ∧ u2 = .int .i64 (e : Int) ∧ e ≤ 1000 ∧ wr.ownsRow w.heap.size 2 1 (.slice A1 n1 c1) n1 (ints o) ∧ wr.ownsRow w.heap.size 2 1 (.slice A2 n2 c2) n2 (ints b) ∧ Hid (PWI P f b0 e0 o b e) ∧ Below w.heap.size w wr) (fun _ u2 _ _ => (intOf u2).toNat)
  case atStart => exact ⟨o1, o2, A1, A2, c1, c2, _, _, e0, rfl, rfl, rfl, rfl, rfl, he, ho1', ho2, HPI, hb12⟩
  case round =>
  clear ho1' ho2 HPI hb12 he
  obtain ⟨wo, rfl⟩ : ∃ wo : World, wo = wr := ⟨_, rfl⟩
  obtain ⟨o, b, A1, A2, c1, c2, n1, n2, e, hn1, hn2, rfl, rfl, rfl, he, hso, hsb, hst, hb⟩ := hrel
  have hx := hst.out
  by_cases h0 : e = 0
  · subst h0
    have HQ : Hid (PWQ P f b0 e0 o) := ⟨hx.1, hx.2.2.1, by have := hx.2.2.2.2; rwa [FX.Semiring.pow_zero, show FX.toP P o * 1 = FX.toP P o by exact FX.rg] at this⟩
    have HN1 := Lib.hid hn1
    clear hx hn1 hn2 hst
    go_wp2_with (fail)
    go_ret
    exact ⟨o, HQ.out, A1, c1, by rw [HN1.out]; rfl, by have h := hso; rw [HN1.out] at h; exact h, hb⟩
  · have hpos : (0 : Int) < (e : Int) := by omega
    have hand : bits .and .i64 (e : Int) 1 = ((e % 2 : Nat) : Int) := and_one ⟨e, by omega⟩
    obtain ⟨k, hk⟩ : ∃ k, k = e / 2 := ⟨_, rfl⟩
    have htd : (e : Int).tdiv 2 = (k : Int) := by rw [Int.tdiv_eq_ediv_of_nonneg (by omega)]; omega
    have htd2 : (e : Int) / 2 = (k : Int) := by omega
    have htm2 : (e : Int).tmod 2 = ((e % 2 : Nat) : Int) := by rw [Int.tmod_eq_emod_of_nonneg (by omega)]; omega
    have hke : k < e := by omega
    clear hk
    have hxl1 := hx.2.2.1
    have hxl2 := hx.2.2.2.1
    have htbb := HTM.out A2 n2 c2 A2 n2 c2 b b
    have htob := HTM.out A1 n1 c1 A2 n2 c2 o b
    have hc1 := hx.1
    have hc2 := hx.2.1
    have HF : Hid (f.length ≤ 9) := by unfold Hid; have := HN.out; omega
    have hF9 := HF.out
    have hsf := HS.out.call hb
    by_cases hpar : e % 2 = 1
    · rw [hpar] at hand htm2
      have hek : e = 2 * k + 1 := by clear htd; omega
      have HX : Hid (∀ o' b' q q', FX.toP P o * FX.toP P b = q' * FX.toP P f + FX.toP P o' → FX.toP P b * FX.toP P b = q * FX.toP P f + FX.toP P b' → FX.Can P o' → FX.Can P b' → o'.length + 1 ≤ f.length → b'.length + 1 ≤ f.length → PWI P f b0 e0 o' b' k) := fun o' b' q q' h3 h4 h5 h6 h7 h8 => ⟨h5, h6, h7, h8, cg_odd (by rw [← hek]; exact hx.2.2.2.2) h3 h4⟩
      have ht1 := htob wo hn1 hn2 (by omega) (by omega) hc1 hc2 (own_isn hso hn1) (own_isn hsb hn2)
      have htb := fun W a7 => htbb W hn2 hn2 (by omega) (by omega) hc2 hc2 a7 a7
      have hl12 : n1 + n2 ≤ 100 := by have := HF.out; omega
      have hl22 : n2 + n2 ≤ 100 := by have := HF.out; omega
      have HN2 := Lib.hid hn2
      clear hx hn1 hn2 hst htbb htob hc1 hc2 hek hpar hF9 hxl1 hxl2
      go_wp2_with (first
        | (go_at_call 74; refine ht1.mono ?_; clear ht1; rintro ee w3 ⟨l3, ⟨t1, t2, t3⟩, A3, c3, rfl, ho3, hb3⟩; have hr3 := HRE.out A3 c3 l3 w3 (Nat.le_trans t3 hl12) t1 (OA.of ho3 rfl) (hsf.call hb3))
        | (go_at_call 108; refine hr3.mono ?_; clear hr3; rintro ee w4 ⟨o', q4, A4, c4, rfl, ho4, hb4⟩; have ht5 := htb w4 (own_isn (own_below (own_below hsb hb3) hb4) HN2.out))
        | (go_at_call 74; refine ht5.mono ?_; clear ht5; rintro ee w5 ⟨l5, ⟨r1, r2, r3⟩, A5, c5, rfl, ho5, hb5⟩; have hr6 := HRE.out A5 c5 l5 w5 (Nat.le_trans r3 hl22) r1 (OA.of ho5 rfl) (((hsf.call hb3).call hb4).call hb5))
        | (go_at_call 108; refine hr6.mono ?_; clear hr6; rintro ee w6 ⟨b', q6, A6, c6, rfl, ho6, hb6⟩))
      have hb36 := bel_call (bel_call (bel_call (bel_call hb hb3) hb4) hb5) hb6
      have ho46 := own_mono (base' := w.heap.size) (own_below (own_below ho4 hb5) hb6) (Nat.le_trans hb.size hb3.size)
      have ho6 := own_mono (base' := w.heap.size) ho6 (bel_call (bel_call (bel_call hb hb3) hb4) hb5).size
      clear hso hsb hb hb3 hb4 hb5 hb6 htb ho3 ho4 ho5 hsf
      go_roundw
      case rel =>
        obtain ⟨z1, ⟨zq, z2⟩, z3⟩ := q4
        obtain ⟨y1, ⟨yq, y2⟩, y3⟩ := q6
        exact ⟨o', b', A4, A6, c4, c6, _, _, k, rfl, rfl, rfl, rfl, by go_num, by omega, ho46, ho6, HX.out o' b' yq zq (by rw [← t2]; exact z2) (by rw [← r2]; exact y2) z1 y1 z3 y3, hb36⟩
      case measure => simp [intOf]; omega
    · have hpar0 : e % 2 = 0 := by omega
      rw [hpar0] at hand htm2
      have hek : e = 2 * k := by clear htd; omega
      have HX : Hid (∀ b' q, FX.toP P b * FX.toP P b = q * FX.toP P f + FX.toP P b' → FX.Can P b' → b'.length + 1 ≤ f.length → PWI P f b0 e0 o b' k) := fun b' q h4 h6 h8 => ⟨hx.1, h6, hx.2.2.1, h8, cg_even (by rw [← hek]; exact hx.2.2.2.2) h4⟩
      have ht5 := htbb wo hn2 hn2 (by omega) (by omega) hc2 hc2 (own_isn hsb hn2) (own_isn hsb hn2)
      have hl22 : n2 + n2 ≤ 100 := by have := HF.out; omega
      have HN1 := Lib.hid hn1
      clear hx hn1 hn2 hst htbb htob hc1 hc2 hek hpar hpar0 hF9 hxl1 hxl2
      go_wp2_with (first
        | (go_at_call 74; refine ht5.mono ?_; clear ht5; rintro ee w5 ⟨l5, ⟨r1, r2, r3⟩, A5, c5, rfl, ho5, hb5⟩; have hr6 := HRE.out A5 c5 l5 w5 (Nat.le_trans r3 hl22) r1 (OA.of ho5 rfl) (hsf.call hb5))
        | (go_at_call 108; refine hr6.mono ?_; clear hr6; rintro ee w6 ⟨b', q6, A6, c6, rfl, ho6, hb6⟩))
      have hb36 := bel_call (bel_call hb hb5) hb6
      have ho46 := own_below (own_below hso hb5) hb6
      have ho6 := own_mono (base' := w.heap.size) ho6 (bel_call hb hb5).size
      clear hso hsb hb hb5 hb6 ho5 hsf
      go_roundw
      case rel =>
        obtain ⟨y1, ⟨yq, y2⟩, y3⟩ := q6
        exact ⟨o, b', A1, A6, c1, c6, _, _, k, HN1.out, rfl, rfl, rfl, by go_num, by omega, ho46, ho6, HX.out b' yq (by rw [← r2]; exact y2) y1 y3, hb36⟩
      case measure => simp [intOf]; omega
set_option maxRecDepth 10000 in
set_option maxHeartbeats 1000000 in
theorem s_power (P : Nat) [NeZero P] (hP : P ≤ 97) (hp : FX.Prm P) (A A' : Option Addr) (c n' c' e0 : Nat) (b0 f : List Int) (w : World) (hn' : n' = f.length) (h2 : 2 ≤ n') (hl' : n' ≤ 9) (he : e0 ≤ 1000) (hlb : b0.length ≤ 10) (hb0 : FX.Can P b0) (hf : FX.Can P f) (hs : OA w A c b0) (hs' : IS w w.heap.size A' f) :
    Calls Try.prog 105 #[.int .i64 (P : Int), .slice A b0.length c, .int .i64 (e0 : Int), .slice A' n' c'] w (RVE (PWQ P f b0 e0) w) := by
  have hp2 : 2 ≤ P := hp.1
  have hre := fun A c g w a1 a2 a3 a4 => s_rest P hP hp A A' c n' c' g f w hn' (by omega) a1 (by omega) a2 hf a3 a4
  have htm := fun A n c A' n' c' g h w a1 a2 a3 a4 a5 a6 a7 a8 => s_times P hP A A' n c n' c' g h w a1 a2 a3 a4 a5 a6 a7 a8
  have ho1 : OA (w.alloc (.cells #[.int .i64 1] 2)) (some ⟨w.heap.size, 0, none⟩) 1 [1] := own_mono (own_one w (.int .i64 1) 2) (Nat.zero_le _)
  have hba := (Below.refl w.heap.size w).alloc (Nat.le_refl _) (.cells #[.int .i64 1] 2)
  have hr1 := hre (some ⟨w.heap.size, 0, none⟩) 1 [1] _ (by simp) (can_one P hp2) ho1 (hs'.call hba)
  have hr2 := fun W a3 a4 => hre A c b0 W (by omega) hb0 a3 a4
  have hsw := hs.call hba
  have hsw' := hs'.call hba
  have hst : ∀ o b, RM P [1] f o → RM P b0 f b → PWI P f b0 e0 o b e0 := fun o b h3 h4 => by
    obtain ⟨x1, ⟨q, x2⟩, x3⟩ := h3
    obtain ⟨y1, ⟨q', y2⟩, y3⟩ := h4
    exact ⟨x1, y1, x3, y3, cg_start e0 (FX.toP_one P) x2 y2⟩
  have HST := Lib.hid hst
  have HN := Lib.hid hn'
  have HS := Lib.hid hs'
  have HRE := Lib.hid hre
  have HTM := Lib.hid htm
  clear hst hn' hs hs' hre htm hb0 hf ho1
  generalize b0.length = nb at *
  go_enter Try.func105, Try.ntmps105
  go_wp2_with (first
    | (go_at_call 115; refine hr1.mono ?_; clear hr1; rintro e w1 ⟨o1, q1, A1, c1, rfl, ho1, hb1⟩; have hr3 := hr2 w1 (hsw.call hb1) (hsw'.call hb1))
    | (go_at_call 115; refine hr3.mono ?_; clear hr3; rintro e w2 ⟨o2, q2, A2, c2, rfl, ho2, hb2⟩))
  have ho1' := own_mono (base' := w.heap.size) (own_below ho1 hb2) hba.size
  have ho2 := own_mono (base' := w.heap.size) ho2 (Nat.le_trans hba.size hb1.size)
  have hb12 := bel_call (bel_call hba hb1) hb2
  have HPI := Lib.hid (HST.out o1 o2 q1 q2)
  clear hr2 hsw hsw' hba hb1 hb2 q1 q2 ho1
  go_loopw [1, 2, 9] (fun u1 u2 u9 wr => ∃ (o b : List Int) (A1 A2 : Option Addr) (c1 c2 n1 n2 e : Nat), n1 = o.length ∧ n2 = b.length ∧ u9 = .slice A1 n1 c1 ∧ u1 = .slice A2 n2 c2 ∧ u2 = .int .i64 (e : Int) ∧ e ≤ 1000 ∧ wr.ownsRow w.heap.size 2 1 (.slice A1 n1 c1) n1 (ints o) ∧ wr.ownsRow w.heap.size 2 1 (.slice A2 n2 c2) n2 (ints b) ∧ Hid (PWI P f b0 e0 o b e) ∧ Below w.heap.size w wr) (fun _ u2 _ _ => (intOf u2).toNat)
  case atStart => exact ⟨o1, o2, A1, A2, c1, c2, _, _, e0, rfl, rfl, rfl, rfl, rfl, he, ho1', ho2, HPI, hb12⟩
  case round =>
  clear ho1' ho2 HPI hb12 he
  obtain ⟨wo, rfl⟩ : ∃ wo : World, wo = wr := ⟨_, rfl⟩
  obtain ⟨o, b, A1, A2, c1, c2, n1, n2, e, hn1, hn2, rfl, rfl, rfl, he, hso, hsb, hst, hb⟩ := hrel
  have hx := hst.out
  by_cases h0 : e = 0
  · subst h0
    have HQ : Hid (PWQ P f b0 e0 o) := ⟨hx.1, hx.2.2.1, by have := hx.2.2.2.2; rwa [FX.Semiring.pow_zero, show FX.toP P o * 1 = FX.toP P o by exact FX.rg] at this⟩
    have HN1 := Lib.hid hn1
    clear hx hn1 hn2 hst
    go_wp2_with (fail)
    go_ret
    exact ⟨o, HQ.out, A1, c1, by rw [HN1.out]; rfl, by have h := hso; rw [HN1.out] at h; exact h, hb⟩
  · have hpos : (0 : Int) < (e : Int) := by omega
    have hand : bits .and .i64 (e : Int) 1 = ((e % 2 : Nat) : Int) := and_one ⟨e, by omega⟩
    obtain ⟨k, hk⟩ : ∃ k, k = e / 2 := ⟨_, rfl⟩
    have htd : (e : Int).tdiv 2 = (k : Int) := by rw [Int.tdiv_eq_ediv_of_nonneg (by omega)]; omega
    have htd2 : (e : Int) / 2 = (k : Int) := by omega
    have htm2 : (e : Int).tmod 2 = ((e % 2 : Nat) : Int) := by rw [Int.tmod_eq_emod_of_nonneg (by omega)]; omega
    have hke : k < e := by omega
    clear hk
    have hxl1 := hx.2.2.1
    have hxl2 := hx.2.2.2.1
    have htbb := HTM.out A2 n2 c2 A2 n2 c2 b b
    have htob := HTM.out A1 n1 c1 A2 n2 c2 o b
    have hc1 := hx.1
    have hc2 := hx.2.1
    have HF : Hid (f.length ≤ 9) := by unfold Hid; have := HN.out; omega
    have hF9 := HF.out
    have hsf := HS.out.call hb
    by_cases hpar : e % 2 = 1
    · rw [hpar] at hand htm2
      have hek : e = 2 * k + 1 := by clear htd; omega
      have HX : Hid (∀ o' b' q q', FX.toP P o * FX.toP P b = q' * FX.toP P f + FX.toP P o' → FX.toP P b * FX.toP P b = q * FX.toP P f + FX.toP P b' → FX.Can P o' → FX.Can P b' → o'.length + 1 ≤ f.length → b'.length + 1 ≤ f.length → PWI P f b0 e0 o' b' k) := fun o' b' q q' h3 h4 h5 h6 h7 h8 => ⟨h5, h6, h7, h8, cg_odd (by rw [← hek]; exact hx.2.2.2.2) h3 h4⟩
      have ht1 := htob wo hn1 hn2 (by omega) (by omega) hc1 hc2 (own_isn hso hn1) (own_isn hsb hn2)
      have htb := fun W a7 => htbb W hn2 hn2 (by omega) (by omega) hc2 hc2 a7 a7
      have hl12 : n1 + n2 ≤ 100 := by have := HF.out; omega
      have hl22 : n2 + n2 ≤ 100 := by have := HF.out; omega
      have HN2 := Lib.hid hn2
      clear hx hn1 hn2 hst htbb htob hc1 hc2 hek hpar hF9 hxl1 hxl2
      go_wp2_with (first
        | (go_at_call 72; refine ht1.mono ?_; clear ht1; rintro ee w3 ⟨l3, ⟨t1, t2, t3⟩, A3, c3, rfl, ho3, hb3⟩; have hr3 := HRE.out A3 c3 l3 w3 (Nat.le_trans t3 hl12) t1 (OA.of ho3 rfl) (hsf.call hb3))
        | (go_at_call 115; refine hr3.mono ?_; clear hr3; rintro ee w4 ⟨o', q4, A4, c4, rfl, ho4, hb4⟩; have ht5 := htb w4 (own_isn (own_below (own_below hsb hb3) hb4) HN2.out))
        | (go_at_call 72; refine ht5.mono ?_; clear ht5; rintro ee w5 ⟨l5, ⟨r1, r2, r3⟩, A5, c5, rfl, ho5, hb5⟩; have hr6 := HRE.out A5 c5 l5 w5 (Nat.le_trans r3 hl22) r1 (OA.of ho5 rfl) (((hsf.call hb3).call hb4).call hb5))
        | (go_at_call 115; refine hr6.mono ?_; clear hr6; rintro ee w6 ⟨b', q6, A6, c6, rfl, ho6, hb6⟩))
      have hb36 := bel_call (bel_call (bel_call (bel_call hb hb3) hb4) hb5) hb6
      have ho46 := own_mono (base' := w.heap.size) (own_below (own_below ho4 hb5) hb6) (Nat.le_trans hb.size hb3.size)
      have ho6 := own_mono (base' := w.heap.size) ho6 (bel_call (bel_call (bel_call hb hb3) hb4) hb5).size
      clear hso hsb hb hb3 hb4 hb5 hb6 htb ho3 ho4 ho5 hsf
      go_roundw
      case rel =>
        obtain ⟨z1, ⟨zq, z2⟩, z3⟩ := q4
        obtain ⟨y1, ⟨yq, y2⟩, y3⟩ := q6
        exact ⟨o', b', A4, A6, c4, c6, _, _, k, rfl, rfl, rfl, rfl, by go_num, by omega, ho46, ho6, HX.out o' b' yq zq (by rw [← t2]; exact z2) (by rw [← r2]; exact y2) z1 y1 z3 y3, hb36⟩
      case measure => simp [intOf]; omega
    · have hpar0 : e % 2 = 0 := by omega
      rw [hpar0] at hand htm2
      have hek : e = 2 * k := by clear htd; omega
      have HX : Hid (∀ b' q, FX.toP P b * FX.toP P b = q * FX.toP P f + FX.toP P b' → FX.Can P b' → b'.length + 1 ≤ f.length → PWI P f b0 e0 o b' k) := fun b' q h4 h6 h8 => ⟨hx.1, h6, hx.2.2.1, h8, cg_even (by rw [← hek]; exact hx.2.2.2.2) h4⟩
      have ht5 := htbb wo hn2 hn2 (by omega) (by omega) hc2 hc2 (own_isn hsb hn2) (own_isn hsb hn2)
      have hl22 : n2 + n2 ≤ 100 := by have := HF.out; omega
      have HN1 := Lib.hid hn1
      clear hx hn1 hn2 hst htbb htob hc1 hc2 hek hpar hpar0 hF9 hxl1 hxl2
      go_wp2_with (first
        | (go_at_call 72; refine ht5.mono ?_; clear ht5; rintro ee w5 ⟨l5, ⟨r1, r2, r3⟩, A5, c5, rfl, ho5, hb5⟩; have hr6 := HRE.out A5 c5 l5 w5 (Nat.le_trans r3 hl22) r1 (OA.of ho5 rfl) (hsf.call hb5))
        | (go_at_call 115; refine hr6.mono ?_; clear hr6; rintro ee w6 ⟨b', q6, A6, c6, rfl, ho6, hb6⟩))
      have hb36 := bel_call (bel_call hb hb5) hb6
      have ho46 := own_below (own_below hso hb5) hb6
      have ho6 := own_mono (base' := w.heap.size) ho6 (bel_call hb hb5).size
      clear hso hsb hb hb5 hb6 ho5 hsf
      go_roundw
      case rel =>
        obtain ⟨y1, ⟨yq, y2⟩, y3⟩ := q6
        exact ⟨o, b', A1, A6, c1, c6, _, _, k, HN1.out, rfl, rfl, rfl, by go_num, by omega, ho46, ho6, HX.out b' yq (by rw [← r2]; exact y2) y1 y3, hb36⟩
      case measure => simp [intOf]; omega
end Go.Proofs.Ytifaccppbhbfhaa
