/- RationalRoots: powers, the test for a root, the value. -/
import Derived.Test.YtglijcdnnaekkaaA289
import Derived.Test.YtglijcdnnaekkaaA30
import Derived.Test.YtglijcdnnaekkaaA13
namespace Go.Proofs.Ytglijcdnnaekkaa
set_option linter.unusedVariables false
set_option linter.unusedSimpArgs false
open Go.RowKit

theorem pow_bdZ {n : Int} (h : -60 ≤ n ∧ n ≤ 60) : ∀ i : Nat, (n ^ i).natAbs ≤ 60 ^ i
  | 0 => by simp
  | i + 1 => by
    rw [Int.pow_succ, Int.natAbs_mul, Nat.pow_succ]
    exact Nat.mul_le_mul (pow_bdZ h i) (by omega)
set_option maxHeartbeats 1000000 in
theorem i_powZ (n : Int) (e : Nat) (w : World) (hn : -60 ≤ n ∧ n ≤ 60) (he : e ≤ 4) : Calls Try.prog 117 #[.int .i64 n, .int .i64 e] w (Q (.int .i64 (n ^ e)) w) := by
  have HB := Lib.hid (pow_bdZ hn)
  go_enter Try.func117, Try.ntmps117
  go_wp2_with (fail)
  go_loop [5, 7] (fun u5 u7 => ∃ (i : Nat) (o : Int), i ≤ e ∧ u7 = .int .i64 i ∧ u5 = .int .i64 o ∧ Hid (o = n ^ i)) (fun _ u7 => e - (intOf u7).toNat)
  case atStart => exact ⟨0, 1, by omega, rfl, rfl, by simp [Hid]⟩
  case round =>
    obtain ⟨i, o, hi, rfl, rfl, HO⟩ := hrel
    by_cases hlt : i < e
    · have h1 := HB.out (i + 1)
      rw [Int.pow_succ, ← HO.out] at h1
      have h2 : 60 ^ (i + 1) ≤ 60 ^ 4 := Nat.pow_le_pow_right (by omega) (by omega)
      have hx : -12960000 ≤ o * n ∧ o * n ≤ 12960000 := by omega
      obtain ⟨hx1, hx2⟩ := hx
      have hw : IntKind.i64.wrap (o * n) = o * n := IntWalk.i64_in _ (by omega)
      have H2 := Lib.hid (show o * n = n ^ (i + 1) by rw [Int.pow_succ, HO.out])
      clear h1 h2 HO
      go_wp2_with (fail)
      go_round
      case rel => exact ⟨i + 1, o * n, by omega, by go_num, rfl, H2⟩
      case measure => simp [intOf]; omega
    · obtain rfl : i = e := by omega
      have h := HO.out
      subst h
      generalize n ^ i = z at *
      go_wp2_with (fail)
      go_ret
      exact ⟨rfl, 0, rfl⟩
def isS (n d : Int) (f : List Int) : Nat → Int
  | 0 => 0
  | i + 1 => isS n d f i + gt f i * n ^ i * d ^ (f.length - 1 - i)
theorem isS_cons (n d c : Int) (cs : List Int) : ∀ i, isS n d (c :: cs) (i + 1) = c * d ^ cs.length + n * isS n d cs i
  | 0 => by simp [isS, gt]
  | i + 1 => by
    rw [isS, isS_cons n d c cs i, isS, Int.pow_succ]
    have e1 : gt (c :: cs) (i + 1) = gt cs i := rfl
    have e2 : (c :: cs).length - 1 - (i + 1) = cs.length - 1 - i := by simp; omega
    rw [e1, e2]
    grind
theorem isS_hv (n d : Int) : ∀ f, isS n d f f.length = hvL n d f
  | [] => rfl
  | c :: cs => by rw [List.length_cons, isS_cons, isS_hv n d cs, hvL]
theorem isS_bd {n d : Int} {f : List Int} (hn : -60 ≤ n ∧ n ≤ 60) (hd : -60 ≤ d ∧ d ≤ 60) (hl : f.length ≤ 5) (hf : ∀ k, k < f.length → -60 ≤ gt f k ∧ gt f k ≤ 60) {i : Nat} (hi : i < f.length) : (gt f i * n ^ i).natAbs ≤ 777600000 ∧ (gt f i * n ^ i * d ^ (f.length - 1 - i)).natAbs ≤ 777600000 := by
  have h1 := hf i hi
  have h2 := pow_bdZ hn i
  have h3 := pow_bdZ hd (f.length - 1 - i)
  have h4 : (60 : Nat) ^ i * 60 ^ (f.length - 1 - i) ≤ 60 ^ 4 := by rw [← Nat.pow_add]; exact Nat.pow_le_pow_right (by omega) (by omega)
  have h5 : (60 : Nat) ^ i ≤ 60 ^ 4 := Nat.pow_le_pow_right (by omega) (by omega)
  rw [Int.natAbs_mul, Int.natAbs_mul]
  have h6 : (gt f i).natAbs ≤ 60 := by omega
  have h7 := Nat.mul_le_mul h6 h2
  have h8 := Nat.mul_le_mul h7 h3
  have h9 : 60 * 60 ^ i * 60 ^ (f.length - 1 - i) ≤ 60 * 60 ^ 4 := by rw [Nat.mul_assoc]; exact Nat.mul_le_mul_left _ h4
  have h10 : 60 * 60 ^ i ≤ 60 * 60 ^ 4 := Nat.mul_le_mul_left _ h5
  exact ⟨Nat.le_trans h7 (Nat.le_trans h10 (by decide)), by rw [Int.natAbs_mul]; exact Nat.le_trans h8 (Nat.le_trans h9 (by decide))⟩
theorem isS_sum {n d : Int} {f : List Int} (hn : -60 ≤ n ∧ n ≤ 60) (hd : -60 ≤ d ∧ d ≤ 60) (hl : f.length ≤ 5) (hf : ∀ k, k < f.length → -60 ≤ gt f k ∧ gt f k ≤ 60) : ∀ i, i ≤ f.length → (isS n d f i).natAbs ≤ 777600000 * i
  | 0, _ => by simp [isS]
  | i + 1, hi => by
    have h1 := isS_sum hn hd hl hf i (by omega)
    have h2 := (isS_bd hn hd hl hf (i := i) (by omega)).2
    rw [isS]
    omega
set_option maxRecDepth 20000 in
set_option maxHeartbeats 1000000 in
theorem i_isRoot (A : Option Addr) (m c : Nat) (f : List Int) (n d : Int) (w : World) (B : Nat) (hm : m = f.length) (hl : m ≤ 5) (hn : -60 ≤ n ∧ n ≤ 60) (hd : -60 ≤ d ∧ d ≤ 60) (hf : ∀ k, k < f.length → -60 ≤ gt f k ∧ gt f k ≤ 60) (hs : IS w B A f) :
    Calls Try.prog 69 #[.slice A m c, .int .i64 n, .int .i64 d] w (Q (.bool (hvL n d f == 0)) w) := by
  have HM := Lib.hid hm
  have hb1 := fun i h => isS_bd hn hd (by omega) hf (i := i) h
  have hb2 := fun i h => isS_sum hn hd (by omega) hf i h
  have hg := fun W => i_degree A m c W (by omega)
  rw [← isS_hv, ← hm]
  rw [← hm] at hb1 hb2
  clear hm hf
  go_enter Try.func69, Try.ntmps69
  go_wp2_with (fail)
  go_loopw [7, 12] (fun u7 u12 wr => ∃ i : Nat, i ≤ m ∧ u12 = .int .i64 i ∧ u7 = .int .i64 (isS n d f i) ∧ DR w wr) (fun _ u12 _ => m - (intOf u12).toNat)
  case atStart => exact ⟨0, Nat.zero_le _, rfl, rfl, DR.refl _⟩
  case round =>
    obtain ⟨i, hi, rfl, rfl, hdr⟩ := hrel
    have hb2 := hb2 i hi
    by_cases hlt : i < m
    · obtain ⟨b, off, rfl, hbb, hcell⟩ := hs.at (k := i) (by rw [← HM.out]; exact hlt)
      have e1 := (hdr.cell _).trans (hcell i (by rw [← HM.out]; exact hlt))
      have hb1 := hb1 i hlt
      have HS := Lib.hid (show isS n d f (i + 1) = isS n d f i + gt f i * n ^ i * d ^ (m - 1 - i) by rw [isS, ← HM.out])
      have hbn := pow_bdZ hn i
      have hbd := pow_bdZ hd (m - 1 - i)
      have hw0 : IntKind.i64.wrap ((m : Int) - 1 - (i : Int)) = ((m - 1 - i : Nat) : Int) := by rw [show ((m - 1 - i : Nat) : Int) = (m : Int) - 1 - (i : Int) by omega]; exact IntWalk.i64_in _ (by omega)
      generalize hE : m - 1 - i = E at *
      generalize isS n d f i = s at *
      generalize gt f i = x at *
      have hE4 : E ≤ 4 := by omega
      have hi4 : i ≤ 4 := by omega
      generalize hy : n ^ i = y at *
      generalize hz : d ^ E = z at *
      have hpow : ∀ (a : Int) (e : Nat) (r : Int) W, (-60 ≤ a ∧ a ≤ 60) → e ≤ 4 → a ^ e = r → Calls Try.prog 117 #[.int .i64 a, .int .i64 e] W (Q (.int .i64 r) W) := fun a e r W h1 h2 h3 => h3 ▸ i_powZ a e W h1 h2
      obtain ⟨t1, t2⟩ := hb1
      have r1 : -777600000 ≤ x * y ∧ x * y ≤ 777600000 := by omega
      have r2 : -777600000 ≤ x * y * z ∧ x * y * z ≤ 777600000 := by omega
      obtain ⟨r3, r4⟩ := r1
      obtain ⟨r5, r6⟩ := r2
      have hw1 : IntKind.i64.wrap (x * y) = x * y := IntWalk.i64_in _ (by omega)
      have hw2 : IntKind.i64.wrap (x * y * z) = x * y * z := IntWalk.i64_in _ (by omega)
      have hw3 : IntKind.i64.wrap (s + x * y * z) = s + x * y * z := IntWalk.i64_in _ (by omega)
      clear hcell hE t1 t2 hbn hbd
      go_wp2_with (first
        | (go_at_call 117; refine (hpow _ _ _ _ (by first | exact hn | exact hd) (by assumption) (by assumption)).mono ?_; rintro e w1 ⟨rfl, q1, rfl⟩)
        | (go_at_call 114; refine (hg _).mono ?_; rintro e w2 ⟨rfl, q2, rfl⟩))
      go_roundw
      case rel => exact ⟨i + 1, by omega, by go_num, by rw [HS.out], by repeat (first | exact hdr | refine DR.step ?_ _)⟩
      case measure => simp [intOf]; omega
    · obtain rfl : i = m := by omega
      generalize isS n d f i = s at *
      go_wp2_with (fail)
      go_ret
      exact ⟨rfl, hdr⟩
theorem hv_bd {n d : Int} (hn : -60 ≤ n ∧ n ≤ 60) (hd : -60 ≤ d ∧ d ≤ 60) : ∀ f : List Int, (∀ c ∈ f, -60 ≤ c ∧ c ≤ 60) → (hvL n d f).natAbs ≤ f.length * 60 ^ f.length
  | [], _ => by simp [hvL]
  | c :: cs, h => by
    have h1 := hv_bd hn hd cs (fun x hx => h x (List.mem_cons_of_mem _ hx))
    have h2 := h c (by simp)
    have h3 := pow_bdZ hd cs.length
    have h4 := Nat.mul_le_mul (show c.natAbs ≤ 60 by omega) h3
    have h5 := Nat.mul_le_mul (show n.natAbs ≤ 60 by omega) h1
    rw [← Int.natAbs_mul] at h4 h5
    have h6 := Int.natAbs_add_le (c * d ^ cs.length) (n * hvL n d cs)
    have e1 : 60 * 60 ^ cs.length = 60 ^ (cs.length + 1) := by rw [Nat.pow_succ, Nat.mul_comm]
    have e2 : 60 * (cs.length * 60 ^ cs.length) = cs.length * 60 ^ (cs.length + 1) := by rw [← e1, Nat.mul_left_comm]
    rw [hvL, List.length_cons, Nat.add_mul, Nat.one_mul]
    rw [e1] at h4
    rw [e2] at h5
    omega
theorem hv_drop {n d : Int} {f : List Int} {k : Nat} (h : k < f.length) : hvL n d (f.drop k) = gt f k * d ^ (f.length - 1 - k) + n * hvL n d (f.drop (k + 1)) := by
  rw [List.drop_eq_getElem_cons h, hvL, List.length_drop, show f.length - (k + 1) = f.length - 1 - k by omega]
  simp [gt, List.getElem?_eq_getElem h]
set_option maxRecDepth 20000 in
set_option maxHeartbeats 1000000 in
theorem s_value (A : Option Addr) (m c : Nat) (f : List Int) (n d : Int) (w : World) (B : Nat) (hm : m = f.length) (hl : m ≤ 5) (hn : -60 ≤ n ∧ n ≤ 60) (hd : -60 ≤ d ∧ d ≤ 60) (hf : ∀ c ∈ f, -60 ≤ c ∧ c ≤ 60) (hs : IS w B A f) :
    Calls Try.prog 61 #[.slice A m c, .int .i64 n, .int .i64 d] w (Q (.int .i64 (hvL n d f)) w) := by
  have HM := Lib.hid hm
  have hb : ∀ k, k ≤ m → (hvL n d (f.drop k)).natAbs ≤ 3888000000 := fun k _ => by
    have h1 := hv_bd hn hd (f.drop k) (fun c hc => hf c (List.mem_of_mem_drop hc))
    have h2 : (f.drop k).length ≤ 5 := by rw [List.length_drop]; omega
    have h3 : (60 : Nat) ^ (f.drop k).length ≤ 60 ^ 5 := Nat.pow_le_pow_right (by omega) h2
    have h4 := Nat.mul_le_mul h2 h3
    exact Nat.le_trans h1 (Nat.le_trans h4 (by decide))
  have hgt : ∀ k, k < m → -60 ≤ gt f k ∧ gt f k ≤ 60 := fun k hk => hf _ (by
    rw [hm] at hk
    simp [gt, List.getElem?_eq_getElem hk])
  have hpw : ∀ k, k ≤ m → (d ^ (m - k)).natAbs ≤ 777600000 := fun k _ => Nat.le_trans (pow_bdZ hd _) (Nat.le_trans (Nat.pow_le_pow_right (by omega) (show m - k ≤ 5 by omega)) (by decide))
  have hend : hvL n d f = hvL n d (f.drop 0) := rfl
  have hfirst : hvL n d (f.drop m) = 0 := by rw [hm, List.drop_length]; rfl
  rw [hend]
  have HN := Lib.hid hn
  have HD := Lib.hid hd
  obtain ⟨n1, n2⟩ := hn
  obtain ⟨d1, d2⟩ := hd
  clear hm hf
  go_enter Try.func61, Try.ntmps61
  go_wp2_with (fail)
  go_loopw [7, 8, 9] (fun u7 u8 u9 wr => ∃ (k : Nat) (o p : Int), k ≤ m ∧ u9 = .int .i64 ((k : Int) - 1) ∧ u7 = .int .i64 o ∧ u8 = .int .i64 p ∧ Hid (o = hvL n d (f.drop k) ∧ p = d ^ (m - k)) ∧ DR w wr) (fun _ _ u9 _ => (intOf u9 + 1).toNat)
  case atStart => exact ⟨m, 0, 1, Nat.le_refl _, by go_num, rfl, rfl, ⟨hfirst.symm, by simp⟩, DR.refl _⟩
  case round =>
    obtain ⟨k, o, p, hk, rfl, rfl, rfl, HO, hdr⟩ := hrel
    by_cases hlt : 0 < k
    · obtain ⟨k, rfl⟩ : ∃ k', k = k' + 1 := ⟨k - 1, by omega⟩
      obtain ⟨b, off, rfl, hbb, hcell⟩ := hs.at (k := k) (by rw [← HM.out]; omega)
      have e1 := (hdr.cell _).trans (hcell k (by rw [← HM.out]; omega))
      have hx := hgt k (by omega)
      have ho := hb (k + 1) hk
      have hpp := hpw (k + 1) hk
      have hpp2 := hpw k (by omega)
      have hon := hv_drop (n := n) (d := d) (f := f) (k := k) (by rw [← HM.out]; omega)
      rw [← HO.out.1] at ho hon
      rw [← HO.out.2] at hpp
      have ep : d ^ (m - k) = p * d := by rw [HO.out.2, show m - k = m - (k + 1) + 1 by omega, Int.pow_succ]
      rw [ep] at hpp2
      rw [← HM.out, show m - 1 - k = m - (k + 1) by omega, ← HO.out.2] at hon
      have hb2 := hb k (by omega)
      have ex : o * n + gt f k * p = hvL n d (f.drop k) := by rw [hon, Int.mul_comm o n, Int.add_comm]
      rw [← ex] at hb2
      have H2 := Lib.hid (show o * n + gt f k * p = hvL n d (f.drop k) ∧ p * d = d ^ (m - k) from ⟨ex, ep.symm⟩)
      have m1 : (o * n).natAbs ≤ 3888000000 * 60 := by rw [Int.natAbs_mul]; exact Nat.mul_le_mul ho (by omega)
      have m2 : (gt f k * p).natAbs ≤ 60 * 777600000 := by rw [Int.natAbs_mul]; exact Nat.mul_le_mul (by omega) hpp
      have hw1 : IntKind.i64.wrap (o * n) = o * n := IntWalk.i64_in _ (by omega)
      have hw2 : IntKind.i64.wrap (gt f k * p) = gt f k * p := IntWalk.i64_in _ (by omega)
      have hw3 : IntKind.i64.wrap (o * n + gt f k * p) = o * n + gt f k * p := IntWalk.i64_in _ (by omega)
      have hw4 : IntKind.i64.wrap (p * d) = p * d := IntWalk.i64_in _ (by omega)
      have hk1 : (((k + 1 : Nat)) : Int) - 1 = (k : Int) := by omega
      rw [hk1]
      clear hcell hon ex ep hb2 hpp2 m1 m2 hx ho hpp hk1 HO
      generalize gt f k = x at *
      go_wp2_with (fail)
      go_roundw
      case rel => exact ⟨k, _, _, by omega, by go_num, rfl, rfl, H2, hdr⟩
      case measure => simp [intOf]
    · obtain rfl : k = 0 := by omega
      have h := HO.out.1
      go_wp2_with (fail)
      go_ret
      exact ⟨by rw [← h]; rfl, hdr⟩
end Go.Proofs.Ytglijcdnnaekkaa
