/- Contracts: factors of a number as a slice of prime powers. -/
import Derived.Test.YtflldjcnglchiaaA2
namespace Go.Proofs.Ytflldjcnglchiaa
set_option linter.unusedVariables false
set_option linter.unusedSimpArgs false
open Go.RowKit

/-- wr is w behind some draws. -/
def gp (l : List (Int × Int)) (k : Nat) : Int × Int := l.getD k (0, 0)
def pcells (l : List (Int × Int)) : List Value := l.flatMap fun x => [.int .i64 x.1, .int .i64 x.2]
theorem pcells_length : ∀ l : List (Int × Int), (pcells l).length = l.length * 2
  | [] => rfl
  | x :: l => by
    have := pcells_length l
    simp only [pcells, List.flatMap_cons, List.length_append, List.length_cons, List.length_nil] at *
    omega
theorem pcells_snoc (l : List (Int × Int)) (x : Int × Int) : pcells (l ++ [x]) = pcells l ++ [.int .i64 x.1, .int .i64 x.2] := by
  simp [pcells]
theorem pcells_at : ∀ (l : List (Int × Int)) (k : Nat), k < l.length → (pcells l)[k * 2]? = some (.int .i64 (gp l k).1) ∧ (pcells l)[k * 2 + 1]? = some (.int .i64 (gp l k).2)
  | [], k, h => by simp at h
  | x :: l, 0, _ => by simp [pcells, gp]
  | x :: l, k + 1, h => by
    have := pcells_at l k (by simpa using h)
    have e : pcells (x :: l) = .int .i64 x.1 :: .int .i64 x.2 :: pcells l := by simp [pcells]
    have e1 : (k + 1) * 2 = k * 2 + 1 + 1 := by omega
    have e2 : gp (x :: l) (k + 1) = gp l k := by simp [gp]
    rw [e, e1, e2, List.getElem?_cons_succ, List.getElem?_cons_succ, List.getElem?_cons_succ, List.getElem?_cons_succ]
    exact this
theorem pcells_one (l : List (Int × Int)) : ∀ u ∈ pcells l, u.oneCell' = true := by
  intro u hu
  simp only [pcells, List.mem_flatMap] at hu
  obtain ⟨x, _, hx⟩ := hu
  simp at hx
  rcases hx with rfl | rfl <;> rfl
/-- A slice of pairs of int64 at address A reads as l. -/
def IP (w : World) (B : Nat) (A : Option Addr) (l : List (Int × Int)) : Prop :=
  0 < l.length → ∃ b off, A = some ⟨b, off, none⟩ ∧ b < B ∧ ∀ k, k < l.length → w.cell? ⟨b, off + k * 2, none⟩ = some (.int .i64 (gp l k).1) ∧ w.cell? ⟨b, off + k * 2 + 1, none⟩ = some (.int .i64 (gp l k).2)
theorem IP.at {w : World} {B : Nat} {A : Option Addr} {l : List (Int × Int)} (h : IP w B A l) {k : Nat} (hk : k < l.length) : ∃ b off, A = some ⟨b, off, none⟩ ∧ b < B ∧ w.cell? ⟨b, off + k * 2, none⟩ = some (.int .i64 (gp l k).1) ∧ w.cell? ⟨b, off + k * 2 + 1, none⟩ = some (.int .i64 (gp l k).2) := by
  obtain ⟨b, off, h1, h2, h3⟩ := h (by omega)
  exact ⟨b, off, h1, h2, h3 k hk⟩
theorem ip_of_own {w : World} {base cap n : Nat} {e : TypeId} {A : Option Addr} {l : List (Int × Int)} (h : w.ownsRow base e 2 (.slice A n cap) n (pcells l)) (hn : n = l.length) : IP w w.heap.size A l := by
  intro hp
  rcases h.2 with ⟨_, h0⟩ | ⟨g, c, cur, hv, _, hh, _⟩
  · omega
  · have hA : A = some ⟨g, 0, none⟩ := by injection hv
    subst hA
    refine ⟨g, 0, rfl, (h.lt g rfl).2, fun k hk => ?_⟩
    have h1 := h.cells (g := g) rfl
    have h2 := pcells_at l k hk
    have e1 := h1 _ _ h2.1
    have e2 := h1 _ _ h2.2
    rw [Go.WideShapes.add_plain] at e1 e2
    rw [Nat.zero_add] at *
    exact ⟨e1, e2⟩

/-- How often p divides n, and what is left. -/
def strip (p n : Nat) : Nat × Nat := if h : 2 ≤ p ∧ 0 < n ∧ n % p = 0 then ((strip p (n / p)).1 + 1, (strip p (n / p)).2) else (0, n)
termination_by n
decreasing_by all_goals exact Nat.div_lt_self h.2.1 h.1
theorem strip_yes {p n : Nat} (hp : 2 ≤ p) (hn : 0 < n) (h : n % p = 0) : strip p n = ((strip p (n / p)).1 + 1, (strip p (n / p)).2) := by rw [strip, dif_pos ⟨hp, hn, h⟩]
theorem strip_no {p n : Nat} (h : ¬ n % p = 0) : strip p n = (0, n) := by rw [strip, dif_neg (fun h' => h h'.2.2)]
theorem strip_bd {p : Nat} (hp : 2 ≤ p) : ∀ m n : Nat, n ≤ m → 0 < n → 0 < (strip p n).2 ∧ (strip p n).2 + (strip p n).1 ≤ n ∧ (strip p n).2 % p ≠ 0 := by
  intro m
  induction m with
  | zero => intro n h1 h2; omega
  | succ m ih =>
    intro n h1 h2
    by_cases h : n % p = 0
    · have hlt := Nat.div_lt_self h2 hp
      have hpos : 0 < n / p := Nat.div_pos (Nat.le_of_dvd h2 (Nat.dvd_of_mod_eq_zero h)) (by omega)
      have := ih (n / p) (by omega) hpos
      rw [strip_yes hp h2 h]
      exact ⟨this.1, by simp only []; omega, this.2.2⟩
    · rw [strip_no h]
      exact ⟨h2, by simp, h⟩
/-- The prime powers of n from p on. -/
def fl (p n : Nat) : List (Int × Int) :=
  if h : 2 ≤ p ∧ 1 < n then
    if n < p * p then [((n : Int), 1)] else
      (if 0 < (strip p n).1 then [((p : Int), ((strip p n).1 : Int))] else []) ++ fl (p + 1) (strip p n).2
  else []
termination_by n - p
decreasing_by
  have h1 := strip_bd h.1 n n (Nat.le_refl _) (by omega)
  have h2 : p * 2 ≤ p * p := Nat.mul_le_mul_left p h.1
  omega
theorem fl_one (p : Nat) : fl p 1 = [] := by rw [fl, dif_neg (by omega)]
theorem fl_last {p n : Nat} (hp : 2 ≤ p) (hn : 1 < n) (h : n < p * p) : fl p n = [((n : Int), 1)] := by rw [fl, dif_pos ⟨hp, hn⟩, if_pos h]
theorem fl_step {p n : Nat} (hp : 2 ≤ p) (hn : 1 < n) (h : ¬ n < p * p) : fl p n = (if 0 < (strip p n).1 then [((p : Int), ((strip p n).1 : Int))] else []) ++ fl (p + 1) (strip p n).2 := by
  rw [fl, dif_pos ⟨hp, hn⟩, if_neg h]
theorem fl_le {p n : Nat} (hp : 2 ≤ p) (hn : 1 ≤ n) (h : ¬ n < p * p) : 1 < n := by
  have h2 : p * 2 ≤ p * p := Nat.mul_le_mul_left p hp
  omega
theorem sqN_1000 {d : Nat} (h : d * d ≤ 1000000) : d ≤ 1000 := by
  rcases Nat.lt_or_ge 1000 d with h1 | h1
  · have := Nat.mul_le_mul h1 h1
    omega
  · exact h1
theorem infoPow : (Try.prog.info? 50).map (fun i => (i.zero, i.size, i.bytes)) = some (some (.agg #[.int .i64 0, .int .i64 0]), 2, 16) := by kernel_rfl
/-- What a call gives that makes a slice of prime powers. -/
def FP (l : List (Int × Int)) (w : World) (e : Ending) (w' : World) : Prop := ∃ A cap, e = .returned (.slice A l.length cap) ∧ l.length ≤ 2000 ∧ IP w' w'.heap.size A l ∧ Below w.heap.size w w'
theorem two_cells (w : World) (a b : Value) (t : TypeId) : ∀ j u, [a, b][j]? = some u → (w.alloc (.cells #[a, b] t)).cell? ((⟨w.heap.size, 0, none⟩ : Addr).add j) = some u := by
  intro j u h
  rw [Go.WideShapes.add_plain]
  rcases j with _ | _ | j
  · simp at h; subst h; simp [go_sem]
  · simp at h; subst h; simp [go_sem]
  · simp at h
theorem own_slice {w : World} {base n cap' : Nat} {e : TypeId} {size : Nat} {v : Value} {xs : List Value} (h : w.ownsRow base e size v n xs) : ∃ A cap, v = .slice A n cap := by
  rcases h.2 with ⟨rfl, rfl⟩ | ⟨g, cap, cur, rfl, _⟩
  · exact ⟨none, 0, rfl⟩
  · exact ⟨_, _, rfl⟩
set_option maxHeartbeats 2000000 in
theorem s_l01Factor (n : Nat) (w : World) (h1 : 1 ≤ n) (h2 : n ≤ 1000000) : Calls Try.prog 53 #[.int .i64 n] w (FP (fl 2 n) w) := by
  obtain ⟨i0, hi, hz0, hz1, hz2⟩ := info_parts infoPow
  go_enter Try.func53, Try.ntmps53
  go_wp2_with (fail)
  have h0 : (w.alloc (.cells #[] 50)).ownsRow w.heap.size 50 2 (.slice (some ⟨w.heap.size, 0, none⟩) 0 0) 0 (pcells []) :=
    World.ownsRow_lit w #[] 0 (Nat.le_refl _) (by simp [maxLen]) rfl
  go_loopw [0, 3, 4] (fun u0 u3 u4 wr => ∃ (p m k : Nat) (acc : List (Int × Int)), 2 ≤ p ∧ p ≤ 1001 ∧ 1 ≤ m ∧ m ≤ n ∧ k ≤ p ∧ u0 = .int .i64 m ∧ u4 = .int .i64 p ∧ Hid (acc ++ fl p m = fl 2 n ∧ k = acc.length) ∧ wr.ownsRow w.heap.size 50 2 u3 k (pcells acc) ∧ Below w.heap.size w wr) (fun u0 _ u4 _ => (intOf u0).toNat + 1 - (intOf u4).toNat)
  case atStart => exact ⟨2, n, 0, [], by omega, by omega, h1, Nat.le_refl _, by omega, rfl, rfl, ⟨by simp, rfl⟩, h0, (Below.refl _ _).alloc (Nat.le_refl _) _⟩
  case round =>
    obtain ⟨p, m, k, acc, hp, hp', hm, hm', hk, rfl, rfl, HG, hown, hb⟩ := hrel
    obtain ⟨A, cap, rfl⟩ := own_slice (cap' := 0) hown
    have d0 : 4 ≤ (p : Int) * p := sq_ge (d := 2) (by omega) (by omega)
    have d1 : (p : Int) * p ≤ 1002001 := sq_ge (d := (p : Int)) (e := 1001) (by omega) (by omega)
    have dc : (p : Int) * p = ((p * p : Nat) : Int) := by simp
    by_cases hpm : p * p ≤ m
    · have d2 : (p : Int) * p ≤ m := by rw [dc]; omega
      have d3 := sqN_1000 (d := p) (by omega)
      have hmm : p < m := by
        have := Nat.mul_le_mul_left p hp
        omega
      have hsb := strip_bd hp m m (Nat.le_refl _) (by omega)
      have HS := Lib.hid (fl_step hp (show 1 < m by omega) (by omega))
      clear dc
      obtain ⟨wo, rfl⟩ : ∃ wo : World, wo = wr := ⟨_, rfl⟩
      go_wp2_with (fail)
      go_loop [0, 5] (fun u0 u5 => ∃ m' e : Nat, 1 ≤ m' ∧ m' ≤ m ∧ e ≤ m ∧ u0 = .int .i64 m' ∧ u5 = .int .i64 e ∧ Hid (e + (strip p m').1 = (strip p m).1 ∧ (strip p m').2 = (strip p m).2)) (fun u0 _ => (intOf u0).toNat)
      case atStart => exact ⟨m, 0, hm, Nat.le_refl _, by omega, rfl, rfl, ⟨by omega, rfl⟩⟩
      case round =>
        obtain ⟨m', e, hm1, hm2, he, rfl, rfl, HE⟩ := hrel
        have hsb' := strip_bd hp m' m' (Nat.le_refl _) (by omega)
        have hdv := div_bd m' p hp
        have heq := HE.out
        by_cases hmod : m' % p = 0
        · have hx : (((m' : Int) % (p : Int)) == 0) = true := by rw [beq_iff_eq]; omega
          have hy := strip_yes hp (show 0 < m' by omega) hmod
          have hlt := Nat.div_lt_self (show 0 < m' by omega) hp
          have hpos : 0 < m' / p := Nat.div_pos (Nat.le_of_dvd (by omega) (Nat.dvd_of_mod_eq_zero hmod)) (by omega)
          have HY := Lib.hid hy
          have he1 : e + 1 ≤ m := by rw [hy] at heq; simp only [] at heq; omega
          clear hy heq hmod HS
          go_wp2_with (fail)
          go_round
          case rel => exact ⟨m' / p, e + 1, hpos, by omega, he1, by simp, by go_num, ⟨by have := HE.out; rw [HY.out] at this; simp only [] at this; omega, by have := HE.out; rw [HY.out] at this; exact this.2⟩⟩
          case measure => simp [intOf]; omega
        · have hx : (((m' : Int) % (p : Int)) == 0) = false := by rw [beq_eq_false_iff_ne]; omega
          rw [strip_no hmod] at heq
          simp only [Nat.add_zero] at heq
          obtain ⟨q1, q2⟩ := heq
          have Q1 := Lib.hid q1
          have Q2 := Lib.hid q2
          clear q1 q2 hmod
          by_cases he0 : 0 < e
          · have hs1 : (wo.alloc (.cells #[.int .i64 (p : Int), .int .i64 (e : Int)] 50)).ownsRow w.heap.size 50 2 (.slice A k cap) k (pcells acc) := hown.alloc _
            have hsz := hb.size
            have hwd := two_cells wo (.int .i64 (p : Int)) (.int .i64 (e : Int)) 50
            have HWD := Lib.hid hwd
            clear hwd
            go_wp2_with (at_builtin; refine wpList_append_own _ rfl (.tmp 25) (.tmp 29) 47 rfl w.heap.size 50 i0 (.agg #[.int .i64 0, .int .i64 0]) 2 16 Try.underlying47 hi hz0 hz1 hz2 rfl (by omega) (.slice A k cap) k (pcells acc) rfl hs1 ⟨wo.heap.size, 0, none⟩ 1 1 [.int .i64 (p : Int), .int .i64 (e : Int)] rfl rfl HWD.out (by intro u hu; simp at hu; rcases hu with rfl | rfl <;> rfl) (by simp only [maxLen]; omega) (by omega) (by simp; omega) ?_; intro v1 w1 hown1 hgrow1 hnil1; clear hnil1)
            have hb1 : Below w.heap.size w w1 := (hb.alloc hb.size _).grown hgrow1 (by simp; omega) (fun g hg => (hown.lt g hg).1)
            clear hgrow1
            go_roundw
            case rel =>
              refine ⟨p + 1, m', k + 1, acc ++ [((p : Int), (e : Int))], by omega, by omega, hm1, by omega, by omega, rfl, by go_num, ⟨?_, ?_⟩, by rw [pcells_snoc]; exact hown1, hb1⟩
              · have h1 := HG.out.1
                rw [HS.out, ← Q1.out, ← Q2.out, if_pos he0] at h1
                rw [← h1]; simp
              · have h1 := HG.out.2
                simp; exact h1
            case measure => simp [intOf]; omega
          · obtain rfl : e = 0 := by omega
            go_wp2_with (fail)
            go_roundw
            case rel =>
              refine ⟨p + 1, m', k, acc, by omega, by omega, hm1, by omega, by omega, rfl, by go_num, ⟨?_, HG.out.2⟩, hown, hb⟩
              have h1 := HG.out.1
              rw [HS.out, ← Q1.out, ← Q2.out, if_neg he0] at h1
              rw [← h1]; simp
            case measure => simp [intOf]; omega
    · have d2 : (m : Int) < (p : Int) * p := by rw [dc]; omega
      clear dc
      by_cases hm1 : 1 < m
      · have hs1 : (wr.alloc (.cells #[.int .i64 (m : Int), .int .i64 1] 50)).ownsRow w.heap.size 50 2 (.slice A k cap) k (pcells acc) := hown.alloc _
        have hsz := hb.size
        have hwd := two_cells wr (.int .i64 (m : Int)) (.int .i64 1) 50
        have HWD := Lib.hid hwd
        clear hwd
        go_wp2_with (at_builtin; refine wpList_append_own _ rfl (.tmp 33) (.tmp 36) 47 rfl w.heap.size 50 i0 (.agg #[.int .i64 0, .int .i64 0]) 2 16 Try.underlying47 hi hz0 hz1 hz2 rfl (by omega) (.slice A k cap) k (pcells acc) rfl hs1 ⟨wr.heap.size, 0, none⟩ 1 1 [.int .i64 (m : Int), .int .i64 1] rfl rfl HWD.out (by intro u hu; simp at hu; rcases hu with rfl | rfl <;> rfl) (by simp only [maxLen]; omega) (by omega) (by simp; omega) ?_; intro v1 w1 hown1 hgrow1 hnil1; clear hnil1)
        have hb1 : Below w.heap.size w w1 := (hb.alloc hb.size _).grown hgrow1 (by simp; omega) (fun g hg => (hown.lt g hg).1)
        clear hgrow1
        have hfin : acc ++ [((m : Int), (1 : Int))] = fl 2 n := by
          have h1 := HG.out.1
          rwa [fl_last hp hm1 (by omega)] at h1
        have hlen : k + 1 = (fl 2 n).length := by rw [← hfin]; simp; exact HG.out.2
        have HF := Lib.hid hfin
        have HL := Lib.hid hlen
        clear hfin hlen
        go_ret
        obtain ⟨A1, cap1, hv1⟩ := own_slice (cap' := 0) hown1
        rw [hv1, HL.out]
        refine ⟨A1, cap1, rfl, by have := HL.out; omega, ?_, hb1⟩
        rw [hv1] at hown1
        have h2 : w1.ownsRow w.heap.size 50 2 (.slice A1 (k + 1) cap1) (k + 1) (pcells (fl 2 n)) := by
          rw [← HF.out, pcells_snoc]; exact hown1
        exact ip_of_own h2 HL.out
      · obtain rfl : m = 1 := by omega
        have hfin : acc = fl 2 n := by
          have h1 := HG.out.1
          rwa [fl_one, List.append_nil] at h1
        have hlen : k = (fl 2 n).length := by rw [← hfin]; exact HG.out.2
        have HF := Lib.hid hfin
        have HL := Lib.hid hlen
        clear hfin hlen
        go_wp2_with (fail)
        go_ret
        rw [HL.out]
        refine ⟨A, cap, rfl, by have := HL.out; omega, ?_, hb⟩
        rw [HF.out] at hown
        exact ip_of_own hown HL.out
end Go.Proofs.Ytflldjcnglchiaa
