/- Several parts of the proof in one text; each part says what it shows. Nothing is assumed. -/
import Derived.Test.YtifaccppbhbfhaaA376
/- Contracts: is a polynomial irreducible, both sides. -/
namespace Go.Proofs.Ytifaccppbhbfhaa
set_option linter.unusedVariables false
set_option linter.unusedSimpArgs false
open Go.RowKit

/-- Both sides' answer: one factor, once. -/
noncomputable def irV (P : Nat) [NeZero P] (f : List Int) : Bool :=
  @decide (∃ L, FX.FAC P (FX.toP P f) L ∧ L.length = 1 ∧ (L.getD 0 ([], 0)).2 = 1) (Classical.propDecidable _)
theorem irV_of (P : Nat) [NeZero P] {f : List Int} {L : List (List Int × Nat)} (h : FX.FAC P (FX.toP P f) L) (b : Bool) (hb : b = true ↔ (L.length = 1 ∧ (L.getD 0 ([], 0)).2 = 1)) : b = irV P f := by
  rw [Bool.eq_iff_iff, hb]
  unfold irV
  rw [@decide_eq_true_iff _ (Classical.propDecidable _)]
  constructor
  · intro h2; exact ⟨L, h, h2⟩
  · rintro ⟨L', h2, h3⟩
    rw [FX.FAC.uniq P h h2]; exact h3
set_option maxRecDepth 20000 in
set_option maxHeartbeats 1000000 in
theorem i_irr (P : Nat) [NeZero P] (hP : P ≤ 97) (hp : FX.Prm P) (A : Option Addr) (n c : Nat) (f : List Int) (w : World) (hn : n = f.length) (h2 : 2 ≤ n) (h9 : n ≤ 9) (hf : FX.Can P f) (hs : IS w w.heap.size A f) : Calls Try.prog 23 #[.int .i64 (P : Int), .slice A n c] w (M (.bool (irV P f)) w) := by
  have hfac := i_factorsBy P hP hp n A n c f w hn (Nat.le_refl _) h2 h9 hf hs
  clear hs hf hn
  go_enter Try.func23, Try.ntmps23
  go_wp2_with (fail)
  refine hfac.mono ?_
  clear hfac
  rintro e w1 ⟨E, g, c1, m, hm, hm0, hm8, hbd, hF, rfl, ho, hv, hb⟩
  by_cases h1 : m = 1
  · subst h1
    obtain ⟨x, rfl⟩ : ∃ x, E = [x] := List.length_eq_one_iff.1 hm.symm
    obtain ⟨z1, z2⟩ := eC_at (l := [x]) (k := 0) (by simp)
    have e2 := own_hsrc ho ⟨g, 0, none⟩ rfl _ _ z2
    rw [Go.WideShapes.add_plain] at e2
    simp only [Nat.zero_mul, Nat.zero_add] at e2
    have hx : (ge [x] 0).2.2 = x.2.2 := rfl
    rw [hx] at e2
    have HI : Hid ((((x.2.2 : Nat) : Int) == 1) = irV P f) := irV_of P hF _ (by
      rw [beq_iff_eq]
      show _ ↔ ([x].map (·.2)).length = 1 ∧ x.2.2 = 1
      simp; omega)
    generalize x.2.2 = t at *
    clear hx z1 z2 hm hbd hF ho hv hm0 hm8
    go_wp2_with (fail)
    go_ret
    exact ⟨by rw [← HI.out]; rfl, hb⟩
  · have HI : Hid (false = irV P f) := irV_of P hF _ (by
      rw [List.length_map, ← hm]
      constructor
      · intro h; cases h
      · intro h; exact absurd h.1 h1)
    have hne : ((m : Int) == 1) = false := by rw [beq_eq_false_iff_ne]; omega
    clear hm hbd hF
    go_wp2_with (fail)
    go_ret
    exact ⟨by rw [← HI.out]; rfl, hb⟩
set_option maxRecDepth 20000 in
set_option maxHeartbeats 1000000 in
theorem s_all (P : Nat) [NeZero P] (hP : P ≤ 97) (hp : FX.Prm P) (A : Option Addr) (n c : Nat) (f : List Int) (w : World) (hn : n = f.length) (h2 : 2 ≤ n) (h9 : n ≤ 9) (hf : FX.Can P f) (hs : IS w w.heap.size A f) : Calls Try.prog 27 #[.int .i64 (P : Int), .slice A n c] w (fun e w' => ∃ (L : List (List Int × Nat)) (g c' m : Nat), m = L.length ∧ m ≤ 8 ∧ (∀ x ∈ L, x.1.length ≤ 9 ∧ x.2 ≤ 8) ∧ FX.FAC P (FX.toP P f) L ∧ e = .returned (.slice (some ⟨g, 0, none⟩) m c') ∧ FLW w' g c' L ∧ Below w.heap.size w w') := by
  have hmon := s_monic P hP hp A n c f w hn (by omega) hf hs
  have hfc := fun A1 c1 fm g0 W a b cc d ee ff gg => s_factor P hP hp fm.length A1 c1 fm 1 g0 0 [] W (Nat.le_refl _) a b cc d (by omega) (by omega) ee ff gg List.Pairwise.nil (fun x hx => by simp at hx) (by simp; omega) (fun x hx => by simp at hx)
  have HN := Lib.hid hn
  clear hn hf hs
  go_enter Try.func27, Try.ntmps27
  go_wp2_with (first
    | (go_at_call 47; refine hmon.mono ?_; clear hmon; rintro e w1 ⟨fm, hmn, A1, c1, rfl, ho1, hb1⟩; have hfl : fm.length = n := (by have := hmn.2.1; have := HN.out; omega); have hba := (Below.refl w1.heap.size w1).alloc (Nat.le_refl _) (.cells #[] 36); have hfl0 : FLW (w1.alloc (.cells #[] 36)) w1.heap.size 0 [] := ⟨[], sh_nilT w1 0 (Nat.zero_le _), rfl, fun i hi => by simp at hi⟩; have hc := hfc A1 c1 fm w1.heap.size _ hmn.1 (by omega) (by omega) (by have h := hmn.2.2.1 (by rw [← HN.out]; omega); rw [← hmn.2.1] at h; exact h) (by omega) ((OA.of ho1 rfl).call hba) hfl0; rw [hfl] at hc ⊢; have HNM := Lib.hid hfl; clear hfl)
    | (go_at_call 46; refine hc.mono ?_; clear hc; rintro e w2 ⟨L, g', c', hq, ho, hl8, hbd, rfl, hw, hb2⟩))
  go_ret
  refine ⟨L, g', c', L.length, rfl, hl8, hbd, ⟨ho, fun g t => ?_⟩, rfl, hw, bel_call (bel_call hb1 hba) hb2⟩
  rw [hq g t]
  constructor
  · rintro (h | ⟨s, rfl, h⟩)
    · simp at h
    · rw [Nat.mul_one]; exact (occ_num P hp hmn).1 h
  · intro h
    exact .inr ⟨t, by omega, (occ_num P hp hmn).2 h⟩
end Go.Proofs.Ytifaccppbhbfhaa
/- Contract: is a polynomial irreducible, by the reference. -/
namespace Go.Proofs.Ytifaccppbhbfhaa
set_option linter.unusedVariables false
set_option linter.unusedSimpArgs false
open Go.RowKit

set_option maxRecDepth 20000 in
set_option maxHeartbeats 1000000 in
theorem s_irr (P : Nat) [NeZero P] (hP : P ≤ 97) (hp : FX.Prm P) (A : Option Addr) (n c : Nat) (f : List Int) (w : World) (hn : n = f.length) (h2 : 2 ≤ n) (h9 : n ≤ 9) (hf : FX.Can P f) (hs : IS w w.heap.size A f) : Calls Try.prog 20 #[.int .i64 (P : Int), .slice A n c] w (M (.bool (irV P f)) w) := by
  have hfac := s_all P hP hp A n c f w hn h2 h9 hf hs
  clear hs hf hn
  go_enter Try.func20, Try.ntmps20
  go_wp2_with (fail)
  refine hfac.mono ?_
  clear hfac
  rintro e w1 ⟨L, g, c1, m, hm, hm8, hbd, hF, rfl, ⟨vs, ho, hv⟩, hb⟩
  rw [← hm] at ho
  by_cases h1 : m = 1
  · subst h1
    obtain ⟨x, rfl⟩ : ∃ x, L = [x] := List.length_eq_one_iff.1 hm.symm
    have hvl : vs.length = 1 := by rw [hv.1]; rfl
    obtain ⟨z1, z2⟩ := shC_at (vs := vs) (cs := tms [x]) (k := 0) (by rw [hvl]; rfl) (by omega)
    have e2 := own_hsrc ho ⟨g, 0, none⟩ rfl _ _ z2
    rw [Go.WideShapes.add_plain] at e2
    simp only [Nat.zero_mul, Nat.zero_add] at e2
    have hx : gt (tms [x]) 0 = (x.2 : Int) := rfl
    rw [hx] at e2
    have HI : Hid ((((x.2 : Nat) : Int) == 1) = irV P f) := irV_of P hF _ (by
      rw [beq_iff_eq]
      show _ ↔ [x].length = 1 ∧ x.2 = 1
      simp; omega)
    generalize x.2 = t at *
    clear hx z1 z2 hm hbd hF ho hv hm8 hvl
    go_wp2_with (fail)
    go_ret
    exact ⟨by rw [← HI.out]; rfl, hb⟩
  · have HI : Hid (false = irV P f) := irV_of P hF _ (by
      rw [← hm]
      constructor
      · intro h; cases h
      · intro h; exact absurd h.1 h1)
    have hne : ((m : Int) == 1) = false := by rw [beq_eq_false_iff_ne]; omega
    clear hm hbd hF
    go_wp2_with (fail)
    go_ret
    exact ⟨by rw [← HI.out]; rfl, hb⟩
end Go.Proofs.Ytifaccppbhbfhaa
/- Contract: IsModular, by the reference. -/
namespace Go.Proofs.Ytifaccppbhbfhaa
set_option linter.unusedVariables false
set_option linter.unusedSimpArgs false
open Go.RowKit

/-- A polynomial by p. -/
noncomputable def mdlB (p : Int) (xs : List Int) : Bool := smallB p && (decide (xs.length ≤ 9) && (decide (∀ j, j < xs.length → inB (gt xs j) 0 (p - 1) = true) && (decide (xs.length = 0) || decide (gt xs (xs.length - 1) ≠ 0))))
theorem mdlB_t {p : Int} {xs : List Int} (h : mdlB p xs = true) : smallB p = true ∧ xs.length ≤ 9 ∧ (∀ j, j < xs.length → inB (gt xs j) 0 (p - 1) = true) ∧ (xs.length = 0 ∨ gt xs (xs.length - 1) ≠ 0) := by
  unfold mdlB at h
  simpa using h
theorem mdlB_can {P : Nat} [NeZero P] {xs : List Int} (h : mdlB (P : Int) xs = true) : FX.Can P xs := by
  obtain ⟨h1, h2, h3, h4⟩ := mdlB_t h
  have hP := Nat.pos_of_ne_zero (NeZero.ne P)
  refine ⟨fun k => ?_, fun h0 => (h4.resolve_left (by omega))⟩
  by_cases hk : k < xs.length
  · have := h3 k hk
    unfold inB at this
    simp at this
    omega
  · rw [gt_big (by omega)]; omega
set_option maxRecDepth 20000 in
set_option maxHeartbeats 1000000 in
theorem s_IsModular (p : Int) (A : Option Addr) (n c : Nat) (xs : List Int) (w : World) (hp : -9223372036854775808 ≤ p) (hn : n = xs.length) (hl : n ≤ 1048576) (hs : IS w w.heap.size A xs) : Calls Try.prog 44 #[.int .i64 p, .slice A n c] w (Q (.bool (mdlB p xs)) w) := by
  have HN := Lib.hid hn
  by_cases h1 : smallB p = true
  · have hp1 := smallB_t h1
    by_cases h9 : n ≤ 9
    · have HB : Hid (mdlB p xs = (decide (∀ j, j < xs.length → inB (gt xs j) 0 (p - 1) = true) && (decide (xs.length = 0) || decide (gt xs (xs.length - 1) ≠ 0)))) := by unfold Hid mdlB; rw [h1, decide_eq_true (show xs.length ≤ 9 by omega)]; simp
      clear hn
      go_enter Try.func44, Try.ntmps44
      go_wp2_with (go_at_call 34; refine (s_l01Small _ _ hp).mono ?_; rintro e w1 ⟨rfl, q1, rfl⟩; rw [h1])
      go_loopw [5] (fun u wr => ∃ k : Nat, k ≤ n ∧ u = .int .i64 (k : Int) ∧ Hid (∀ j, j < k → inB (gt xs j) 0 (p - 1) = true) ∧ ∃ m, wr = w.drewN m) (fun u _ => n - (intOf u).toNat)
      case atStart => exact ⟨0, Nat.zero_le _, rfl, fun j hj => by omega, q1, rfl⟩
      case round =>
      obtain ⟨k, hk, rfl, HX, m, rfl⟩ := hrel
      by_cases hlt : k < n
      · obtain ⟨b, o, rfl, hb, hc⟩ := hs.at (k := k) (by rw [← HN.out]; exact hlt)
        have e1 := hc k (by rw [← HN.out]; exact hlt)
        cases hin : inB (gt xs k) 0 (p - 1) with
        | true =>
          have HX2 : Hid (∀ j, j < k + 1 → inB (gt xs j) 0 (p - 1) = true) := fun j hj => by
            by_cases e : j = k
            · rw [e]; exact hin
            · exact HX.out j (by omega)
          clear hc
          go_wp2_with (go_at_call 57; refine (s_l01In _ _ _ _).mono ?_; rintro e w1 ⟨rfl, q2, rfl⟩; rw [hin])
          go_roundw
          case rel => exact ⟨k + 1, by omega, by go_num, HX2, _, rfl⟩
          case measure => simp [intOf]; omega
        | false =>
          have HR : Hid (mdlB p xs = false) := by
            unfold Hid
            rw [HB.out, Bool.and_eq_false_iff]
            left
            rw [decide_eq_false_iff_not]
            intro h
            rw [h k (by rw [← HN.out]; exact hlt)] at hin
            cases hin
          clear hc
          go_wp2_with (go_at_call 57; refine (s_l01In _ _ _ _).mono ?_; rintro e w1 ⟨rfl, q2, rfl⟩; rw [hin])
          go_ret
          exact ⟨by rw [HR.out]; rfl, _, rfl⟩
      · obtain rfl : k = n := by omega
        have HA : Hid (mdlB p xs = (decide (xs.length = 0) || decide (gt xs (xs.length - 1) ≠ 0))) := by
          unfold Hid
          rw [HB.out, decide_eq_true (by rw [← HN.out]; exact HX.out), Bool.true_and]
        by_cases hn0 : k = 0
        · subst hn0
          have HR : Hid (mdlB p xs = true) := by unfold Hid; rw [HA.out, decide_eq_true (by rw [← HN.out])]; rfl
          go_wp2_with (fail)
          go_ret
          exact ⟨by rw [HR.out]; rfl, _, rfl⟩
        · obtain ⟨b, o, rfl, hb, hc⟩ := hs.at (k := k - 1) (by rw [← HN.out]; omega)
          have e1 := hc (k - 1) (by rw [← HN.out]; omega)
          have HR : Hid (mdlB p xs = (gt xs (k - 1) != 0)) := by
            unfold Hid
            rw [HA.out, decide_eq_false (by rw [← HN.out]; exact hn0), Bool.false_or, ← HN.out]
            cases hz : (gt xs (k - 1) != 0) <;> simp at hz <;> simp [hz]
          obtain ⟨d, hd⟩ : ∃ d, d = k - 1 := ⟨_, rfl⟩
          rw [← hd] at e1 HR
          have hkd : (k : Int) - 1 = (d : Int) := by omega
          have hdk : d < k := by omega
          have hk0 : ((k : Int) == 0) = false := by rw [beq_eq_false_iff_ne]; omega
          generalize gt xs d = x at *
          clear hc hd hn0
          go_wp2_with (fail)
          go_ret
          exact ⟨by rw [HR.out]; rfl, _, rfl⟩
    · have HR : Hid (mdlB p xs = false) := by unfold Hid mdlB; rw [h1, decide_eq_false (show ¬ xs.length ≤ 9 by omega)]; rfl
      have h9' : (9 : Int) < (n : Int) := by omega
      clear hn h9
      go_enter Try.func44, Try.ntmps44
      go_wp2_with (go_at_call 34; refine (s_l01Small _ _ hp).mono ?_; rintro e w1 ⟨rfl, q1, rfl⟩; rw [h1])
      go_ret
      exact ⟨by rw [HR.out]; rfl, _, rfl⟩
  · have h1' : smallB p = false := by cases h : smallB p; rfl; exact absurd h h1
    have HR : Hid (mdlB p xs = false) := by unfold Hid mdlB; rw [h1']; rfl
    clear hn h1
    go_enter Try.func44, Try.ntmps44
    go_wp2_with (go_at_call 34; refine (s_l01Small _ _ hp).mono ?_; rintro e w1 ⟨rfl, q1, rfl⟩; rw [h1'])
    go_ret
    exact ⟨by rw [HR.out]; rfl, _, rfl⟩
end Go.Proofs.Ytifaccppbhbfhaa
/- Contract: IsModular, by the program. -/
namespace Go.Proofs.Ytifaccppbhbfhaa
set_option linter.unusedVariables false
set_option linter.unusedSimpArgs false
open Go.RowKit

set_option maxHeartbeats 400000 in
theorem c_modC (x p : Int) (g : Nat) (w : World) (hp : 2 ≤ p) (hp2 : p ≤ 97) (hg : w.cell? ⟨g, 0, none⟩ = some (.int .i64 p)) : Calls Try.prog 66 #[.int .i64 x, .pointer (some ⟨g, 0, none⟩)] w (Q (.bool (!inB x 0 (p - 1))) w) := by
  go_enter Try.func66, Try.ntmps66
  go_wp2_with (first | (go_at_call 59; refine (i_within _ _ _ _).mono ?_; rintro e w' ⟨rfl, nq, rfl⟩))
  go_ret
  exact ⟨rfl, dq1⟩
noncomputable def rngB (p : Int) (xs : List Int) : Bool := decide (∀ j, j < xs.length → inB (gt xs j) 0 (p - 1) = true)
theorem rngB_t {p : Int} {xs : List Int} (h : ∀ j, j < xs.length → inB (gt xs j) 0 (p - 1) = true) : rngB p xs = true := by unfold rngB; rw [decide_eq_true h]
theorem rngB_f {p : Int} {xs : List Int} (h : ¬ ∀ j, j < xs.length → inB (gt xs j) 0 (p - 1) = true) : rngB p xs = false := by unfold rngB; rw [decide_eq_false h]
set_option maxHeartbeats 1000000 in
theorem x_modC (p : Int) (g : Nat) (A : Option Addr) (n c : Nat) (xs : List Int) (w : World) (B : Nat) (hp : 2 ≤ p) (hp2 : p ≤ 97) (hn : n = xs.length) (hl : n ≤ 1048576) (hs : IS w B A xs) (hg : w.cell? ⟨g, 0, none⟩ = some (.int .i64 p)) :
    Calls Try.prog 82 #[.slice A n c, .func (.func 66) #[] #[.pointer (some ⟨g, 0, none⟩)]] w (fun e w' => ∃ r : Int, e = .returned (.int .i64 r) ∧ (0 ≤ r ↔ rngB p xs = false) ∧ DR w w') := by
  have HN := Lib.hid hn
  clear hn
  go_enter Try.func82, Try.ntmps82
  go_wp2_with (fail)
  go_loopw [8] (fun u3 wr => ∃ k : Nat, k ≤ n ∧ u3 = .int .i64 k ∧ Hid (∀ j, j < k → inB (gt xs j) 0 (p - 1) = true) ∧ DR w wr) (fun u3 _ => n - (intOf u3).toNat)
  case atStart => exact ⟨0, Nat.zero_le _, rfl, fun j hj => by omega, DR.refl _⟩
  case round =>
    obtain ⟨k, hk, rfl, HR, hdr⟩ := hrel
    have hgr := (hdr.cell ⟨g, 0, none⟩).trans hg
    by_cases hlt : k < n
    · obtain ⟨b, off, rfl, hbb, hcell⟩ := IS.at hs (k := k) (by rw [← HN.out]; exact hlt)
      have hc1 := (hdr.cell _).trans (hcell k (by rw [← HN.out]; exact hlt))
      clear hcell
      cases hin : inB (gt xs k) 0 (p - 1)
      · go_wp2_with (first | (go_at_call 66; refine (c_modC _ _ _ _ hp hp2 hgr).mono ?_; rintro e w' ⟨rfl, nq, rfl⟩; rw [hin]))
        go_ret
        refine ⟨_, rfl, ?_, hdr.step _⟩
        rw [rngB_f (fun h => by have := h k (by rw [← HN.out]; exact hlt); rw [hin] at this; cases this)]
        simp
      · go_wp2_with (first | (go_at_call 66; refine (c_modC _ _ _ _ hp hp2 hgr).mono ?_; rintro e w' ⟨rfl, nq, rfl⟩; rw [hin]))
        go_roundw
        case rel => exact ⟨k + 1, by omega, by go_num, fun j hj => by
          by_cases hjk : j = k
          · subst hjk; exact hin
          · exact HR.out j (by omega), hdr.step _⟩
        case measure => simp [intOf]; omega
    · obtain rfl : k = n := by omega
      have hall : rngB p xs = true := rngB_t (fun j hj => HR.out j (by rw [HN.out]; exact hj))
      have HA := Lib.hid hall
      clear hall
      go_wp2_with (fail)
      go_ret
      refine ⟨_, rfl, ?_, hdr⟩
      rw [HA.out]
      simp
set_option maxHeartbeats 400000 in
theorem cf_modC (p : Int) (g : Nat) (A : Option Addr) (n c : Nat) (xs : List Int) (w : World) (B : Nat) (hp : 2 ≤ p) (hp2 : p ≤ 97) (hn : n = xs.length) (hl : n ≤ 1048576) (hs : IS w B A xs) (hg : w.cell? ⟨g, 0, none⟩ = some (.int .i64 p)) :
    Calls Try.prog 63 #[.slice A n c, .func (.func 66) #[] #[.pointer (some ⟨g, 0, none⟩)]] w (Q (.bool (!rngB p xs)) w) := by
  have HN := Lib.hid hn
  clear hn
  go_enter Try.func63, Try.ntmps63
  go_wp2_with (fail)
  refine (x_modC p g A n c xs _ B hp hp2 HN.out hl hs hg).mono ?_
  rintro e w1 ⟨r, rfl, hr, hdr⟩
  have HR := Lib.hid hr
  clear hr
  go_wp2_with (fail)
  go_ret
  refine ⟨ret_bool ?_, hdr⟩
  have hr := HR.out
  cases h : rngB p xs
  · rw [h] at hr; simp at hr; simp; omega
  · rw [h] at hr; simp at hr; simp; omega
set_option maxRecDepth 20000 in
set_option maxHeartbeats 1000000 in
theorem i_IsModular (p : Int) (A : Option Addr) (n c : Nat) (xs : List Int) (w : World) (hn : n = xs.length) (hl : n ≤ 1048576) (hs : IS w w.heap.size A xs) : Calls Try.prog 45 #[.int .i64 p, .slice A n c] w (M (.bool (mdlB p xs)) w) := by
  have HN := Lib.hid hn
  have hbx : Below w.heap.size w (w.alloc (.cells #[.int .i64 p] 2)) := BoxB w _
  have hK := (BK.new w 2 #[.int .i64 p]).cell 0
  have hs1 : IS (w.alloc (.cells #[.int .i64 p] 2)) w.heap.size A xs := hs.below hbx
  by_cases h1 : smallB p = true
  · obtain ⟨P, hpP, -, hp2, hp97⟩ := FX.prm_of h1
    have hp2' : 2 ≤ p := by omega
    have hp97' : p ≤ 97 := by omega
    clear hpP hp2 hp97
    by_cases h9 : n ≤ 9
    · have HB : Hid (mdlB p xs = (rngB p xs && (decide (xs.length = 0) || decide (gt xs (xs.length - 1) ≠ 0)))) := by unfold Hid mdlB rngB; rw [h1, decide_eq_true (show xs.length ≤ 9 by omega)]; simp
      clear hn
      cases hr : rngB p xs with
      | false =>
        have HR : Hid (mdlB p xs = false) := by unfold Hid; rw [HB.out, hr]; rfl
        go_enter Try.func45, Try.ntmps45
        go_wp2_with (first | (go_at_call 38; refine (i_isSmallPrime _ _).mono ?_; rintro e w1 ⟨rfl, q1, rfl⟩; rw [h1]) | (go_at_call 63; refine (cf_modC p _ _ _ _ xs _ _ hp2' hp97' HN.out hl (hs1.drewN _) hK).mono ?_; rintro e w1 ⟨rfl, q1, rfl⟩; rw [hr]))
        go_ret
        exact ⟨ret_bool HR.out.symm, by repeat (first | exact hbx | refine below_drewN ?_ _)⟩
      | true =>
        by_cases hn0 : n = 0
        · have HR : Hid (mdlB p xs = true) := by unfold Hid; rw [HB.out, hr, ← HN.out, hn0]; rfl
          subst hn0
          go_enter Try.func45, Try.ntmps45
          go_wp2_with (first | (go_at_call 38; refine (i_isSmallPrime _ _).mono ?_; rintro e w1 ⟨rfl, q1, rfl⟩; rw [h1]) | (go_at_call 63; refine (cf_modC p _ _ _ _ xs _ _ hp2' hp97' HN.out hl (hs1.drewN _) hK).mono ?_; rintro e w1 ⟨rfl, q1, rfl⟩; rw [hr]))
          go_ret
          exact ⟨ret_bool HR.out.symm, by repeat (first | exact hbx | refine below_drewN ?_ _)⟩
        · have hk1 : 0 < n := by omega
          have hk2 : ((n : Int) == 0) = false := by rw [beq_eq_false_iff_ne]; omega
          have HX : Hid (mdlB p xs = (lastI xs != 0)) := by
            unfold Hid; rw [HB.out, hr, Bool.true_and, decide_eq_false (by rw [← HN.out]; exact hn0), Bool.false_or]
            unfold lastI
            cases hz : (gt xs (xs.length - 1) != 0) <;> simp at hz <;> simp [hz]
          obtain ⟨b, off, rfl, hcl⟩ := hs1.last HN.out hk1
          have hz1 : IntKind.i64.wrap ((n : Int) - 1) = (n : Int) - 1 := IntWalk.i64_in _ (by omega)
          have hz2 : ((n : Int) - 1).toNat = n - 1 := by omega
          have hz3 : 1 ≤ (n : Int) := by omega
          have hz4 : 0 ≤ (n : Int) - 1 := by omega
          clear hn0
          go_enter Try.func45, Try.ntmps45
          go_wp2_with (first | (go_at_call 38; refine (i_isSmallPrime _ _).mono ?_; rintro e w1 ⟨rfl, q1, rfl⟩; rw [h1]) | (go_at_call 63; refine (cf_modC p _ _ _ _ xs _ _ hp2' hp97' HN.out hl (hs1.drewN _) hK).mono ?_; rintro e w1 ⟨rfl, q1, rfl⟩; rw [hr]) | go_quiet (fail))
          go_ret
          exact ⟨ret_bool HX.out.symm, by repeat (first | exact hbx | refine below_drewN ?_ _)⟩
    · have HR : Hid (mdlB p xs = false) := by unfold Hid mdlB; rw [h1, decide_eq_false (show ¬ xs.length ≤ 9 by omega)]; rfl
      have h9' : (9 : Int) < (n : Int) := by omega
      clear hn h9
      go_enter Try.func45, Try.ntmps45
      go_wp2_with (go_at_call 38; refine (i_isSmallPrime _ _).mono ?_; rintro e w1 ⟨rfl, q1, rfl⟩; rw [h1])
      go_ret
      exact ⟨ret_bool HR.out.symm, by repeat (first | exact hbx | refine below_drewN ?_ _)⟩
  · have h1' : smallB p = false := by cases h : smallB p; rfl; exact absurd h h1
    have HR : Hid (mdlB p xs = false) := by unfold Hid mdlB; rw [h1']; rfl
    clear hn h1
    go_enter Try.func45, Try.ntmps45
    go_wp2_with (go_at_call 38; refine (i_isSmallPrime _ _).mono ?_; rintro e w1 ⟨rfl, q1, rfl⟩; rw [h1'])
    go_ret
    exact ⟨ret_bool HR.out.symm, by repeat (first | exact hbx | refine below_drewN ?_ _)⟩
end Go.Proofs.Ytifaccppbhbfhaa
/- Contracts: IsIrreducible, both sides; its law. -/
namespace Go.Proofs.Ytifaccppbhbfhaa
set_option linter.unusedVariables false
set_option linter.unusedSimpArgs false
open Go.RowKit

def MJ (b : Bool) (c : Int) (w : World) (e : Ending) (w' : World) : Prop := e = .returned (.tuple #[.bool b, .int .i64 c]) ∧ Below w.heap.size w w'
theorem ret_bj {a a' : Bool} {b b' : Int} (h1 : a = a') (h2 : b = b') : Ending.returned (.tuple #[.bool a, .int .i64 b]) = .returned (.tuple #[.bool a', .int .i64 b']) := by rw [h1, h2]
/-- The code of a polynomial that has to have factors. -/
noncomputable def facC (p : Int) (xs : List Int) : Int := if mdlB p xs = true then (if xs.length < 2 then 2 else 0) else 1
/-- Is a polynomial irreducible, at any number p. -/
noncomputable def irA (p : Int) (xs : List Int) : Bool := if h : p.toNat = 0 then false else @irV p.toNat ⟨h⟩ xs
theorem irA_nat (P : Nat) [NeZero P] (xs : List Int) : irA (P : Int) xs = irV P xs := by
  unfold irA
  rw [dif_neg (by rw [Int.toNat_natCast]; exact NeZero.ne P)]
  rfl
noncomputable def irB (p : Int) (xs : List Int) : Bool := if facC p xs = 0 then irA p xs else false
theorem facC_0 {p : Int} {xs : List Int} (h : facC p xs = 0) : mdlB p xs = true ∧ 2 ≤ xs.length ∧ xs.length ≤ 9 := by
  unfold facC at h
  by_cases h1 : mdlB p xs = true
  · rw [if_pos h1] at h
    by_cases h2 : xs.length < 2
    · rw [if_pos h2] at h; cases h
    · exact ⟨h1, by omega, (mdlB_t h1).2.1⟩
  · rw [if_neg h1] at h; cases h
theorem facC_1 {p : Int} {xs : List Int} (h : mdlB p xs = false) : facC p xs = 1 := by
  unfold facC; rw [h]; rfl
theorem facC_2 {p : Int} {xs : List Int} (h : mdlB p xs = true) (h2 : xs.length < 2) : facC p xs = 2 := by
  unfold facC; rw [if_pos h, if_pos h2]
theorem facC_3 {p : Int} {xs : List Int} (h : mdlB p xs = true) (h2 : 2 ≤ xs.length) : facC p xs = 0 := by
  unfold facC; rw [if_pos h, if_neg (by omega)]
set_option maxHeartbeats 1000000 in
theorem i_factorable (p : Int) (A : Option Addr) (n c : Nat) (xs : List Int) (w : World) (hn : n = xs.length) (hl : n ≤ 1048576) (hs : IS w w.heap.size A xs) : Calls Try.prog 26 #[.int .i64 p, .slice A n c] w (M (.int .i64 (facC p xs)) w) := by
  have hm := i_IsModular p A n c xs w hn hl hs
  have HN := Lib.hid hn
  clear hn
  cases h1 : mdlB p xs with
  | false =>
    have HC : Hid (facC p xs = 1) := facC_1 h1
    rw [h1] at hm
    go_enter Try.func26, Try.ntmps26
    go_wp2_with (go_at_call 45; refine hm.mono ?_; rintro e w1 ⟨rfl, b1⟩)
    go_ret
    exact ⟨ret_int HC.out.symm, b1⟩
  | true =>
    rw [h1] at hm
    by_cases h2 : n < 2
    · have HC : Hid (facC p xs = 2) := facC_2 h1 (by rw [← HN.out]; exact h2)
      go_enter Try.func26, Try.ntmps26
      go_wp2_with (first | (go_at_call 45; refine hm.mono ?_; rintro e w1 ⟨rfl, b1⟩) | (go_at_call 41; refine (i_degree _ _ _ _ hl).mono ?_; rintro e w' ⟨rfl, nq, rfl⟩))
      go_ret
      exact ⟨ret_int HC.out.symm, below_drewN b1 _⟩
    · have HC : Hid (facC p xs = 0) := facC_3 h1 (by rw [← HN.out]; omega)
      go_enter Try.func26, Try.ntmps26
      go_wp2_with (first | (go_at_call 45; refine hm.mono ?_; rintro e w1 ⟨rfl, b1⟩) | (go_at_call 41; refine (i_degree _ _ _ _ hl).mono ?_; rintro e w' ⟨rfl, nq, rfl⟩))
      go_ret
      exact ⟨ret_int HC.out.symm, below_drewN b1 _⟩
set_option maxHeartbeats 1000000 in
theorem s_l09Code (p : Int) (A : Option Addr) (n c : Nat) (xs : List Int) (w : World) (hp : -9223372036854775808 ≤ p) (hn : n = xs.length) (hl : n ≤ 1048576) (hs : IS w w.heap.size A xs) : Calls Try.prog 25 #[.int .i64 p, .slice A n c] w (Q (.int .i64 (facC p xs)) w) := by
  have hm := s_IsModular p A n c xs w hp hn hl hs
  have HN := Lib.hid hn
  clear hn
  cases h1 : mdlB p xs with
  | false =>
    have HC : Hid (facC p xs = 1) := facC_1 h1
    rw [h1] at hm
    go_enter Try.func25, Try.ntmps25
    go_wp2_with (go_at_call 44; refine hm.mono ?_; rintro e w1 ⟨rfl, q1, rfl⟩)
    go_ret
    exact ⟨ret_int HC.out.symm, _, rfl⟩
  | true =>
    rw [h1] at hm
    by_cases h2 : n < 2
    · have HC : Hid (facC p xs = 2) := facC_2 h1 (by rw [← HN.out]; exact h2)
      have h2' : (n : Int) < 2 := by omega
      clear h2
      go_enter Try.func25, Try.ntmps25
      go_wp2_with (go_at_call 44; refine hm.mono ?_; rintro e w1 ⟨rfl, q1, rfl⟩)
      go_ret
      exact ⟨ret_int HC.out.symm, _, rfl⟩
    · have HC : Hid (facC p xs = 0) := facC_3 h1 (by rw [← HN.out]; omega)
      have h2' : (2 : Int) ≤ n := by omega
      clear h2
      go_enter Try.func25, Try.ntmps25
      go_wp2_with (go_at_call 44; refine hm.mono ?_; rintro e w1 ⟨rfl, q1, rfl⟩)
      go_ret
      exact ⟨ret_int HC.out.symm, _, rfl⟩
set_option maxHeartbeats 1000000 in
theorem i_IsIrreducible (p : Int) (A : Option Addr) (n c : Nat) (xs : List Int) (w : World) (hn : n = xs.length) (hl : n ≤ 1048576) (hs : IS w w.heap.size A xs) : Calls Try.prog 12 #[.int .i64 p, .slice A n c] w (MJ (irB p xs) (facC p xs) w) := by
  have hm := i_factorable p A n c xs w hn hl hs
  have HN := Lib.hid hn
  clear hn
  by_cases h1 : facC p xs = 0
  · obtain ⟨g1, g2, g3⟩ := facC_0 h1
    obtain ⟨P, rfl, hp, hp2, hp97⟩ := FX.prm_of (mdlB_t g1).1
    haveI : NeZero P := ⟨by omega⟩
    have hir := fun W h => i_irr P hp97 hp A n c xs W HN.out (by rw [HN.out]; exact g2) (by rw [HN.out]; exact g3) (mdlB_can g1) h
    have HB : Hid (irB (P : Int) xs = irV P xs) := by unfold Hid irB; rw [if_pos h1, irA_nat]
    have HC := Lib.hid h1
    rw [h1] at hm
    clear h1 g1 g2 g3
    go_enter Try.func12, Try.ntmps12
    go_wp2_with (go_at_call 26; refine hm.mono ?_; rintro e w1 ⟨rfl, b1⟩)
    refine (hir _ (hs.call b1)).mono ?_
    rintro e w2 ⟨rfl, b2⟩
    go_wp2_with (fail)
    go_ret2
    exact ⟨ret_bj HB.out.symm HC.out.symm, bel_call b1 b2⟩
  · have HB : Hid (irB p xs = false) := by unfold Hid irB; rw [if_neg h1]
    generalize facC p xs = cd at *
    have h1' : (cd == 0) = false := by rw [beq_eq_false_iff_ne]; exact h1
    clear h1
    go_enter Try.func12, Try.ntmps12
    go_wp2_with (go_at_call 26; refine hm.mono ?_; rintro e w1 ⟨rfl, b1⟩)
    go_ret2
    exact ⟨ret_bj HB.out.symm rfl, b1⟩
set_option maxHeartbeats 1000000 in
theorem s_IsIrreducible (p : Int) (A : Option Addr) (n c : Nat) (xs : List Int) (w : World) (hp : -9223372036854775808 ≤ p) (hn : n = xs.length) (hl : n ≤ 1048576) (hs : IS w w.heap.size A xs) : Calls Try.prog 11 #[.int .i64 p, .slice A n c] w (MJ (irB p xs) (facC p xs) w) := by
  have hm := s_l09Code p A n c xs w hp hn hl hs
  have HN := Lib.hid hn
  clear hn
  by_cases h1 : facC p xs = 0
  · obtain ⟨g1, g2, g3⟩ := facC_0 h1
    obtain ⟨P, rfl, hp, hp2, hp97⟩ := FX.prm_of (mdlB_t g1).1
    haveI : NeZero P := ⟨by omega⟩
    have hir := fun W h => s_irr P hp97 hp A n c xs W HN.out (by rw [HN.out]; exact g2) (by rw [HN.out]; exact g3) (mdlB_can g1) h
    have HB : Hid (irB (P : Int) xs = irV P xs) := by unfold Hid irB; rw [if_pos h1, irA_nat]
    have HC := Lib.hid h1
    rw [h1] at hm
    clear h1 g1 g2 g3
    go_enter Try.func11, Try.ntmps11
    go_wp2_with (go_at_call 25; refine hm.mono ?_; rintro e w1 ⟨rfl, q1, rfl⟩)
    refine (hir _ (hs.drewN q1)).mono ?_
    rintro e w2 ⟨rfl, b2⟩
    go_wp2_with (fail)
    go_ret2
    exact ⟨ret_bj HB.out.symm HC.out.symm, undrew b2⟩
  · have HB : Hid (irB p xs = false) := by unfold Hid irB; rw [if_neg h1]
    generalize facC p xs = cd at *
    have h1' : (cd == 0) = false := by rw [beq_eq_false_iff_ne]; exact h1
    clear h1
    go_enter Try.func11, Try.ntmps11
    go_wp2_with (go_at_call 25; refine hm.mono ?_; rintro e w1 ⟨rfl, q1, rfl⟩)
    go_ret2
    exact ⟨ret_bj HB.out.symm rfl, below_drewN (Below.refl _ _) _⟩
set_option maxHeartbeats 2000000 in
theorem law_IsIrreducible (p : Int) (A : Option Addr) (n c : Nat) (xs : List Int) (w : World) (hp : -9223372036854775808 ≤ p ∧ p ≤ 9223372036854775807) (hn : n = xs.length) (hc : n ≤ c) (hm : c ≤ maxLen) (hr : R64 xs) (hs : IS w w.heap.size A xs) :
    Calls Try.prog 4 #[.int .i64 p, .slice A n c] w (M (.bool true) w) := by
  unfold maxLen at hm
  by_cases hbig : 1048576 < n
  · have HN := Lib.hid hn
    clear hn
    go_enter Try.func4, Try.ntmps4
    go_wp2_with (fail)
    go_ret
    exact ⟨rfl, Below.refl _ _⟩
  have hl : n ≤ 1048576 := by omega
  clear hbig
  have HN := Lib.hid hn
  have hp0 := hp.1
  clear hn hr hp
  have hS := fun A c W h => s_IsIrreducible p A n c xs W hp0 HN.out hl h
  have hI := fun A c W h => i_IsIrreducible p A n c xs W HN.out hl h
  generalize irB p xs = b at *
  generalize facC p xs = cd at *
  go_enter Try.func4, Try.ntmps4
  go_wp2_with (fail)
  refine (l_toInt64S A n c xs _ HN.out hl hs).mono ?_
  rintro e w1 ⟨g1, rfl, hN1, b1⟩
  go_wp2_with (fail)
  refine (hS _ _ _ hN1.is).mono ?_
  rintro e w2 ⟨rfl, hb2⟩
  have b2 := bel_call b1 hb2
  go_wp2_with (fail)
  refine (l_toInt64S A n c xs _ HN.out hl (hs.call b2)).mono ?_
  rintro e w3 ⟨g3, rfl, hN3, hb3⟩
  have b3 := bel_call b2 hb3
  go_wp2_with (fail)
  refine (hI _ _ _ hN3.is).mono ?_
  rintro e w4 ⟨rfl, hb4⟩
  have b4 := bel_call b3 hb4
  have hN4 := hN3.below hb4 hN3.lt
  go_wp2_with (fail)
  refine (l_toInt64S A n c xs _ HN.out hl (hs.call b4)).mono ?_
  rintro e w5 ⟨g5, rfl, hN5, hb5⟩
  have b5 := bel_call b4 hb5
  have hN6 := hN4.below hb5 hN4.lt
  go_wp2_with (fail)
  refine (l_eqInt64S _ _ n _ n _ xs _ _ _ HN.out HN.out (by omega) hN6.is hN5.is).mono ?_
  rintro e w6 ⟨rfl, q6, rfl⟩
  go_wp2_with (fail)
  go_ret
  exact ⟨rfl, below_drewN b5 _⟩
end Go.Proofs.Ytifaccppbhbfhaa
