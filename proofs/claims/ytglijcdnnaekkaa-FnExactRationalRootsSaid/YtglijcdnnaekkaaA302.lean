/- RationalRoots: the reference's roots, put in order one by one. -/
import Derived.Test.YtglijcdnnaekkaaA297
namespace Go.Proofs.Ytglijcdnnaekkaa
set_option linter.unusedVariables false
set_option linter.unusedSimpArgs false
open Go.RowKit

theorem lowC_at : ∀ f : List Int, lowC f ≠ 0 → ∃ k, k < f.length ∧ gt f k = lowC f ∧ ∀ j, j < k → gt f j = 0
  | [], h => absurd rfl h
  | c :: cs, h => by
    rw [lowC] at h ⊢
    by_cases hc : c = 0
    · rw [if_pos hc] at h ⊢
      obtain ⟨k, h1, h2, h3⟩ := lowC_at cs h
      refine ⟨k + 1, by simp; omega, by simpa [gt] using h2, fun j hj => ?_⟩
      cases j with
      | zero => simpa [gt] using hc
      | succ j => simpa [gt] using h3 j (by omega)
    · rw [if_neg hc]
      exact ⟨0, by simp, by simp [gt], fun j hj => by omega⟩
theorem rC_take (l : List (Int × Int)) : ∀ k, (rC l).take (k * 2) = rC (l.take k) := fun k => by
  induction l generalizing k with
  | nil => simp [rC]
  | cons x l ih =>
    cases k with
    | zero => simp [rC]
    | succ k => rw [show (k + 1) * 2 = k * 2 + 1 + 1 by omega]; simp [rC, ih k]
theorem rC_drop (l : List (Int × Int)) : ∀ k, (rC l).drop (k * 2) = rC (l.drop k) := fun k => by
  induction l generalizing k with
  | nil => simp [rC]
  | cons x l ih =>
    cases k with
    | zero => simp [rC]
    | succ k => rw [show (k + 1) * 2 = k * 2 + 1 + 1 by omega]; simp [rC, ih k]
theorem rC_ins (q : Int × Int) (l : List (Int × Int)) : (rC l).take (atQ q l l.length * 2) ++ [.int .i64 q.1, .int .i64 q.2] ++ (rC l).drop (atQ q l l.length * 2) = rC (insQ q l) := by
  rw [rC_take, rC_drop]
  unfold insQ
  rw [rC_app, List.append_assoc]
  rfl
theorem rC_one : ∀ l : List (Int × Int), ∀ u ∈ rC l, u.oneCell' = true
  | [], u, h => by simp [rC] at h
  | x :: l, u, h => by
    simp only [rC, List.mem_cons] at h
    rcases h with rfl | rfl | h
    · rfl
    · rfl
    · exact rC_one l u h
theorem rq_nilT (w : World) (base : Nat) (h : base ≤ w.heap.size) : (w.alloc (.cells #[] 46)).ownsRow base 46 2 (.slice (some ⟨w.heap.size, 0, none⟩) 0 0) 0 [] :=
  World.ownsRow_lit (base := base) w #[] 0 h (by simp [maxLen]) rfl
theorem rq_nil1 (w : World) (cs : Array Value) : ((w.drew.alloc (.cells cs 46)).alloc (.cells #[] 46)).ownsRow w.heap.size 46 2 (.slice (some ⟨w.heap.size + 1, 0, none⟩) 0 0) 0 [] := by
  have h := rq_nilT (w.drew.alloc (.cells cs 46)) w.heap.size (by simp)
  rwa [World.size_alloc] at h
theorem rq_keep2 {w w7 : World} {x y : Int} (hg : ((w.drew.alloc (.cells #[] 46)).alloc (.cells #[.int .i64 x, .int .i64 y] 46)).grownBy w7 (Value.slice (some ⟨w.heap.size, 0, none⟩) 0 0).ownBlock) : ∀ j u, [Value.int .i64 x, Value.int .i64 y][j]? = some u → w7.cell? ((⟨w.heap.size + 1, 0, none⟩ : Addr).add j) = some u := fun j u hj => by
  have h := rq_one (w.drew.alloc (.cells #[] 46)) x y j u hj
  rw [World.size_alloc] at h
  rw [Go.WideShapes.add_plain] at h ⊢
  exact hg.cell h (by simp [Value.ownBlock])
theorem rq_keep1 {w w7 : World} {x y : Int} (hg : ((w.drew.alloc (.cells #[.int .i64 x, .int .i64 y] 46)).alloc (.cells #[] 46)).grownBy w7 (Value.slice (some ⟨w.heap.size + 1, 0, none⟩) 0 0).ownBlock) : ∀ j u, [Value.int .i64 x, Value.int .i64 y][j]? = some u → w7.cell? ((⟨w.heap.size, 0, none⟩ : Addr).add j) = some u := fun j u hj => by
  have h := rq_one w.drew x y j u hj
  rw [Go.WideShapes.add_plain] at h ⊢
  have h2 : ((w.drew.alloc (.cells #[.int .i64 x, .int .i64 y] 46)).alloc (.cells #[] 46)).cell? ⟨w.heap.size, 0 + j, none⟩ = some u := (World.cell?_alloc_past (w := w.drew.alloc (.cells #[.int .i64 x, .int .i64 y] 46)) _ w.heap.size (0 + j) (by simp)).trans h
  exact hg.cell h2 (by simp [Value.ownBlock])
theorem rq_box (w : World) (g : Nat) (hg : w.heap.size = g) (x y : Int) :
    (w.alloc (.cells #[.int .i64 0, .int .i64 0] 46)).cell? ⟨g, 0, none⟩ = some (.int .i64 0) ∧ (w.alloc (.cells #[.int .i64 0, .int .i64 0] 46)).frozen? ⟨g, 0, none⟩ = false ∧
    ((w.alloc (.cells #[.int .i64 0, .int .i64 0] 46)).setCell ⟨g, 0, none⟩ (.int .i64 x)).cell? ⟨g, 1, none⟩ = some (.int .i64 0) ∧ ((w.alloc (.cells #[.int .i64 0, .int .i64 0] 46)).setCell ⟨g, 0, none⟩ (.int .i64 x)).frozen? ⟨g, 1, none⟩ = false ∧
    BK (((w.alloc (.cells #[.int .i64 0, .int .i64 0] 46)).setCell ⟨g, 0, none⟩ (.int .i64 x)).setCell ⟨g, 1, none⟩ (.int .i64 y)) g 46 #[.int .i64 x, .int .i64 y] ∧
    Below w.heap.size w (((w.alloc (.cells #[.int .i64 0, .int .i64 0] 46)).setCell ⟨g, 0, none⟩ (.int .i64 x)).setCell ⟨g, 1, none⟩ (.int .i64 y)) := by
  subst hg
  have B1 := BK.new w 46 #[.int .i64 0, .int .i64 0]
  have B2 : BK ((w.alloc (.cells #[.int .i64 0, .int .i64 0] 46)).setCell ⟨w.heap.size, 0, none⟩ (.int .i64 x)) w.heap.size 46 #[.int .i64 x, .int .i64 0] := B1.set 0 (.int .i64 x)
  have B3 : BK (((w.alloc (.cells #[.int .i64 0, .int .i64 0] 46)).setCell ⟨w.heap.size, 0, none⟩ (.int .i64 x)).setCell ⟨w.heap.size, 1, none⟩ (.int .i64 y)) w.heap.size 46 #[.int .i64 x, .int .i64 y] := B2.set 1 (.int .i64 y)
  exact ⟨B1.two.1, B1.two.2.2.1, B2.two.2.1, B2.two.2.2.2, B3, (((Below.refl _ _).alloc (Nat.le_refl _) _).setCell (Nat.le_refl _) _).setCell (Nat.le_refl _) _⟩
theorem acc_bd {P : Int → Int → Bool} {B D i : Nat} (hB : B ≤ 60) (hD : D + 1 ≤ 60) (hi : i ≤ 2 * B + 1) : ∀ a ∈ srtQ (rrD P B D ++ rrN P ((D : Int) + 1) (-(B : Int)) i), (-60 ≤ a.1 ∧ a.1 ≤ 60) ∧ -60 ≤ a.2 ∧ a.2 ≤ 60 := fun a ha => by
  have h := srtQ_mem _ _ (Nat.le_refl _) a (by rw [List.take_length]; exact ha)
  rw [List.mem_append] at h
  rcases h with h | h
  · obtain ⟨_, h1, h2, h3⟩ := rrD_mem _ h
    omega
  · obtain ⟨_, h1, h2, h3⟩ := rrN_mem _ h
    omega
set_option maxRecDepth 20000 in
set_option maxHeartbeats 8000000 in
theorem s_rats (A : Option Addr) (fl c : Nat) (f : List Int) (w : World) (hm : fl = f.length) (h2 : 2 ≤ fl) (hl : fl ≤ 5) (hf : ∀ k, k < f.length → -60 ≤ gt f k ∧ gt f k ≤ 60) (hlow : lowC f ≠ 0)
    (hbl : (lowC f).natAbs ≤ 60) (hlen : ∀ D i, (rrD (prR f) (lowC f).natAbs D ++ rrN (prR f) (D + 1) (-((lowC f).natAbs : Int)) i).length ≤ 1000) (hs : IS w w.heap.size A f) :
    Calls Try.prog 30 #[.slice A fl c] w (fun e w' => ∃ g m c3, e = .returned (.slice (some ⟨g, 0, none⟩) m c3) ∧ m = (rrD (prR f) (lowC f).natAbs (gt f (f.length - 1)).natAbs).length ∧ w'.ownsRow w.heap.size 46 2 (.slice (some ⟨g, 0, none⟩) m c3) m (rC (srtQ (rrD (prR f) (lowC f).natAbs (gt f (f.length - 1)).natAbs))) ∧ Below w.heap.size w w') := by
  obtain ⟨ji, jh, j0, j1, j2⟩ := info_parts infoRat
  obtain ⟨k0, hk0, hlow0, hz0⟩ := lowC_at f hlow
  have hk0' : k0 < fl := by omega
  have hlast : f.length - 1 = fl - 1 := by omega
  have hfl := hf (f.length - 1) (by omega)
  have hfL : ∀ c ∈ f, -60 ≤ c ∧ c ≤ 60 := fun c hc => by
    obtain ⟨i, hi, e⟩ := List.mem_iff_getElem.1 hc
    have := hf i hi
    simpa [gt, List.getElem?_eq_getElem hi, e] using this
  have hvl := fun n d W h1 h2 (h : IS W w.heap.size A f) => s_value A fl c f n d W w.heap.size hm hl h1 h2 hfL h
  rw [hlast] at hfl ⊢
  generalize hlc : (lowC f).natAbs = B at *
  generalize hzl : (gt f (fl - 1)).natAbs = Z at *
  have hZ : Z ≤ 60 := by omega
  have HM := Lib.hid hm
  have HLEN := Lib.hid hlen
  have HZ0 := Lib.hid hz0
  have HL0 := Lib.hid hlow0
  have hB1 : abs64 (gt f k0) = (B : Int) := by rw [hlow0, abs64_eq (by omega) (by omega), hlc]
  have hZ1 : abs64 (gt f (fl - 1)) = (Z : Int) := by rw [abs64_eq (by omega) (by omega), hzl]
  have hne : ((gt f k0) == 0) = false := by rw [hlow0]; simpa using hlow
  have ha1 := fun W => s_l01Abs (gt f k0) W
  have ha2 := fun W => s_l01Abs (gt f (fl - 1)) W
  rw [hB1] at ha1
  rw [hZ1] at ha2
  have hcells : ∀ k, k < fl → ∃ b off, A = some ⟨b, off, none⟩ ∧ ∀ W, Below w.heap.size w W → W.cell? ⟨b, off + k, none⟩ = some (.int .i64 (gt f k)) := fun k hk => by
    obtain ⟨b, off, e, hbb, hc⟩ := hs.at (k := k) (by omega)
    exact ⟨b, off, e, fun W hW => (hW.cell (p := ⟨b, off + k, none⟩) hbb).trans (hc k (by omega))⟩
  obtain ⟨b, off, rfl, hck⟩ : ∃ b off, A = some ⟨b, off, none⟩ ∧ ∀ k, k < fl → ∀ W, Below w.heap.size w W → W.cell? ⟨b, off + k, none⟩ = some (.int .i64 (gt f k)) := by
    obtain ⟨b, off, e, _⟩ := hcells 0 (by omega)
    refine ⟨b, off, e, fun k hk => ?_⟩
    obtain ⟨b', off', e', h⟩ := hcells k hk
    rw [e] at e'
    injection e' with e'
    injection e' with e1 e2
    subst e1
    subst e2
    exact h
  have hckL := hck (fl - 1) (by omega)
  have hck0 := hck k0 hk0'
  clear hm hlen hz0 hlow0 hlow hf hfL hlast hcells hB1 hZ1 hfl hlc hzl hk0
  go_enter Try.func30, Try.ntmps30
  go_wp2_with (fail)
  go_loopw [3] (fun u3 wr => ∃ k : Nat, k ≤ k0 ∧ u3 = .int .i64 (k : Int) ∧ DR w wr) (fun u3 _ => k0 - (intOf u3).toNat)
  case atStart => exact ⟨0, Nat.zero_le _, rfl, DR.refl _⟩
  case round =>
    obtain ⟨ws, rfl⟩ : ∃ ws : World, ws = wr := ⟨_, rfl⟩
    obtain ⟨k, hk, rfl, hdr⟩ := hrel
    have hbd : Below w.heap.size w ws := by obtain ⟨q, rfl⟩ := hdr; exact below_drewN (Below.refl _ _) q
    have c1 := hck k (by omega) ws hbd
    by_cases hlt : k < k0
    · have hzz := HZ0.out k hlt
      rw [hzz] at c1
      clear hzz
      go_wp2_with (fail)
      go_roundw
      case rel => exact ⟨k + 1, by omega, by go_num, by repeat (first | exact hdr | refine DR.step ?_ _)⟩
      case measure => simp [intOf]; omega
    · obtain rfl : k = k0 := by omega
      go_wp2_with (fail)
      have hz1 : IntKind.i64.wrap ((fl : Int) - 1) = (fl : Int) - 1 := IntWalk.i64_in _ (by omega)
      have hz2 : ((fl : Int) - 1).toNat = fl - 1 := by omega
      have hz3 : 1 ≤ (fl : Int) := by omega
      have hz4 : 0 ≤ (fl : Int) - 1 := by omega
      have hz5 : (fl : Int) - 1 < (fl : Int) := by omega
      have hzk : (k : Int) < (fl : Int) := by omega
      have hzB : IntKind.i64.wrap (-(B : Int)) = -(B : Int) := IntWalk.i64_in _ (by omega)
      clear c1 hck hne
      go_loopw [4, 5] (fun u4 u5 wr => ∃ D m g c3 : Nat, D ≤ Z ∧ u5 = .int .i64 ((D : Int) + 1) ∧ u4 = .slice (some ⟨g, 0, none⟩) m c3 ∧ Hid (m = (srtQ (rrD (prR f) B D)).length) ∧ Hid (wr.ownsRow w.heap.size 46 2 (.slice (some ⟨g, 0, none⟩) m c3) m (rC (srtQ (rrD (prR f) B D)))) ∧ Below w.heap.size w wr) (fun _ u5 _ => Z + 1 - (intOf u5).toNat)
      case atStart => exact ⟨0, 0, ws.heap.size, 0, Nat.zero_le _, rfl, rfl, rfl, rq_nilT ws _ hbd.size, hbd.alloc hbd.size _⟩
      case round =>
        clear hdr hbd
        obtain ⟨wo, rfl⟩ : ∃ wo : World, wo = wr := ⟨_, rfl⟩
        obtain ⟨D, m, g, c3, hD, rfl, rfl, HM0, HOW, hb⟩ := hrel
        have c2 := hckL wo hb
        have c3' := hck0 wo hb
        by_cases hlt2 : D < Z
        · have hlt3 : (D : Int) + 1 ≤ (Z : Int) := by omega
          go_wp2_with (first
            | (go_at_call 59; refine (ha2 _).mono ?_; rintro e w2 ⟨rfl, q2, rfl⟩)
            | (have q9 := q2; go_at_call 59; refine (ha1 _).mono ?_; rintro e w3 ⟨rfl, q3, rfl⟩))
          have hb3 : Below w.heap.size w (wo.drewN (q2 + q3)) := below_drewN hb _
          have HOW3 : Hid ((wo.drewN (q2 + q3)).ownsRow w.heap.size 46 2 (.slice (some ⟨g, 0, none⟩) m c3) m (rC (srtQ (rrD (prR f) B D)))) := HOW
          clear hb HOW c2 c3'
          go_loopw [4, 6] (fun u4 u6 wr => ∃ i m g c3 : Nat, i ≤ 2 * B + 1 ∧ u6 = .int .i64 (-(B : Int) + (i : Int)) ∧ u4 = .slice (some ⟨g, 0, none⟩) m c3 ∧ Hid (m = (srtQ (rrD (prR f) B D ++ rrN (prR f) ((D : Int) + 1) (-(B : Int)) i)).length) ∧ Hid (wr.ownsRow w.heap.size 46 2 (.slice (some ⟨g, 0, none⟩) m c3) m (rC (srtQ (rrD (prR f) B D ++ rrN (prR f) ((D : Int) + 1) (-(B : Int)) i)))) ∧ Below w.heap.size w wr) (fun _ u6 _ => ((B : Int) + 1 - intOf u6).toNat)
          case atStart => exact ⟨0, m, g, c3, Nat.zero_le _, by go_num, rfl, by show _ = _; rw [rrN, List.append_nil]; exact HM0.out, by show World.ownsRow _ _ _ _ _ _ _; rw [rrN, List.append_nil]; exact HOW3.out, hb3⟩
          case round =>
            clear hb3 HOW3 HM0
            obtain ⟨wp, rfl⟩ : ∃ wp : World, wp = wr := ⟨_, rfl⟩
            obtain ⟨i, m, g, c3, hi, rfl, rfl, HM0, HOW, hb⟩ := hrel
            have c3' := hck0 wp hb
            by_cases hlt4 : i < 2 * B + 1
            · have hlt5 : -(B : Int) + (i : Int) ≤ (B : Int) := by omega
              have hll := HLEN.out D i
              have HBO := Lib.hid (acc_bd (P := prR f) (B := B) (D := D) (i := i) (by omega) (by omega) (by omega))
              have HST := Lib.hid (show rrD (prR f) B D ++ rrN (prR f) ((D : Int) + 1) (-(B : Int)) (i + 1) = rrD (prR f) B D ++ rrN (prR f) ((D : Int) + 1) (-(B : Int)) i ++ (if prR f (-(B : Int) + (i : Nat)) ((D : Int) + 1) = true then [(-(B : Int) + ((i : Nat) : Int), (D : Int) + 1)] else []) by rw [rrN, List.append_assoc])
              generalize rrD (prR f) B D ++ rrN (prR f) ((D : Int) + 1) (-(B : Int)) i = acc at *
              have hml : m = acc.length := by rw [HM0.out, srtQ_len]
              have hm1000 : m ≤ 1000 := by omega
              have hgc := fun W => s_l01Gcd (-(B : Int) + (i : Int)) ((D : Int) + 1) W (by omega) (by omega) (by omega) (by omega)
              have hvl2 := fun W h => hvl (-(B : Int) + (i : Int)) ((D : Int) + 1) W (by omega) (by omega) h
              have hpd : prR f (-(B : Int) + (i : Nat)) ((D : Int) + 1) = (((Int.gcd (-(B : Int) + (i : Int)) ((D : Int) + 1) : Int) == 1) && (hvL (-(B : Int) + (i : Int)) ((D : Int) + 1) f == 0)) := rfl
              generalize hp : prR f (-(B : Int) + (i : Nat)) ((D : Int) + 1) = pv at *
              generalize ((Int.gcd (-(B : Int) + (i : Int)) ((D : Int) + 1) : Nat) : Int) = gg at *
              generalize hvL (-(B : Int) + (i : Int)) ((D : Int) + 1) f = hv at *
              have HSD := Lib.hid (fun q => (hs.below hb).drewN q)
              clear hp hml hll
              cases hgq : (gg == 1)
              · rw [hgq, Bool.false_and] at hpd
                subst hpd
                simp only [Bool.false_eq_true, if_false, List.append_nil] at HST
                have hgn : (gg != 1) = true := by unfold bne; rw [hgq]; rfl
                clear hvl2
                go_wp2_with (first
                  | (go_at_call 59; refine (ha1 _).mono ?_; rintro e w2 ⟨rfl, q4, rfl⟩)
                  | (go_at_call 60; refine (hgc _).mono ?_; rintro e w2 ⟨rfl, q5, rfl⟩))
                go_roundw
                case rel => exact ⟨i + 1, m, g, c3, by omega, by go_num, rfl, by show _ = _; rw [HST.out]; exact HM0.out, by show World.ownsRow _ _ _ _ _ _ _; rw [HST.out]; exact HOW.out, below_drewN hb _⟩
                case measure => simp [intOf]; omega
              · rw [hgq, Bool.true_and] at hpd
                have hgn : (gg != 1) = false := by unfold bne; rw [hgq]; rfl
                cases hvq : (hv == 0)
                · rw [hvq] at hpd
                  subst hpd
                  simp only [Bool.false_eq_true, if_false, List.append_nil] at HST
                  have hvn : (hv != 0) = true := by unfold bne; rw [hvq]; rfl
                  go_wp2_with (first
                    | (go_at_call 59; refine (ha1 _).mono ?_; rintro e w2 ⟨rfl, q4, rfl⟩)
                    | (go_at_call 60; refine (hgc _).mono ?_; rintro e w2 ⟨rfl, q5, rfl⟩)
                    | (go_at_call 61; refine (hvl2 _ (HSD.out (q4 + q5))).mono ?_; rintro e w3 ⟨rfl, q6, rfl⟩))
                  go_roundw
                  case rel => exact ⟨i + 1, m, g, c3, by omega, by go_num, rfl, by show _ = _; rw [HST.out]; exact HM0.out, by show World.ownsRow _ _ _ _ _ _ _; rw [HST.out]; exact HOW.out, below_drewN hb _⟩
                  case measure => simp [intOf]; omega
                · rw [hvq] at hpd
                  subst hpd
                  simp only [if_true] at HST
                  have hvn : (hv != 0) = false := by unfold bne; rw [hvq]; rfl
                  have HINS := Lib.hid (show srtQ (rrD (prR f) B D ++ rrN (prR f) ((D : Int) + 1) (-(B : Int)) (i + 1)) = insQ (-(B : Int) + (i : Int), (D : Int) + 1) (srtQ acc) by rw [HST.out, srtQ_snoc])
                  generalize srtQ acc = out at *
                  go_wp2_with (first
                    | (go_at_call 59; refine (ha1 _).mono ?_; rintro e w2 ⟨rfl, q4, rfl⟩)
                    | (go_at_call 60; refine (hgc _).mono ?_; rintro e w2 ⟨rfl, q5, rfl⟩)
                    | (go_at_call 61; refine (hvl2 _ (HSD.out (q4 + q5))).mono ?_; rintro e w3 ⟨rfl, q6, rfl⟩; obtain ⟨z1, z2, z3, z4, z5, z6⟩ := rq_box (wp.drewN (q4 + q5 + q6)) wp.heap.size rfl (-(B : Int) + (i : Int)) ((D : Int) + 1); have Z5 := Lib.hid z5; have Z6 := Lib.hid z6; clear z5 z6))
                  have HO0 : Hid ((wp.drewN (q4 + q5 + q6)).ownsRow w.heap.size 46 2 (.slice (some ⟨g, 0, none⟩) m c3) m (rC out)) := HOW
                  have hbz0 : Below w.heap.size w (wp.drewN (q4 + q5 + q6)) := below_drewN hb _
                  have how := own_below HO0.out Z6.out
                  have hbq := hbz0.trans (Z6.out.mono hbz0.size)
                  have BQ := Z5.out
                  have hm0 : m = out.length := HM0.out
                  have HM := Lib.hid hm0
                  clear z1 z2 z3 z4 Z5 Z6 HO0 hbz0 HOW HM0 hm0 hgc hvl2 HSD
                  generalize ((((wp.drewN (q4 + q5 + q6)).alloc (Obj.cells #[Value.int IntKind.i64 0, Value.int IntKind.i64 0] 46)).setCell ⟨wp.heap.size, 0, none⟩ (Value.int IntKind.i64 (-(B : Int) + (i : Int)))).setCell ⟨wp.heap.size, 1, none⟩ (Value.int IntKind.i64 ((D : Int) + 1))) = wq at *
                  generalize wp.heap.size = gq at *
                  go_loopw [8] (fun u8 wr => ∃ t : Nat, t ≤ m ∧ u8 = .int .i64 (t : Int) ∧ Hid (atQ (-(B : Int) + (i : Int), (D : Int) + 1) out m = atQ (-(B : Int) + (i : Int), (D : Int) + 1) out t) ∧ Below wq.heap.size wq wr) (fun u8 _ => (intOf u8).toNat)
                  case atStart => exact ⟨m, Nat.le_refl _, rfl, rfl, Below.refl _ _⟩
                  case round =>
                    obtain ⟨wt, rfl⟩ : ∃ wt : World, wt = wr := ⟨_, rfl⟩
                    obtain ⟨t, ht, rfl, HAT0, hbt⟩ := hrel
                    have hoT := own_below how hbt
                    have BZ := BQ.below hbt BQ.lt
                    have hbT := hbq.trans (hbt.mono hbq.size)
                    have hzT := hbT.size
                    by_cases ht0 : 0 < t
                    · have htl : t - 1 < out.length := by rw [← HM.out]; omega
                      have x1 := rC_at (l := out) htl
                      have e1 := own_hsrc hoT ⟨g, 0, none⟩ rfl ((t - 1) * 2) _ x1.1
                      have e2 := own_hsrc hoT ⟨g, 0, none⟩ rfl ((t - 1) * 2 + 1) _ x1.2
                      rw [Go.WideShapes.add_plain, Nat.zero_add] at e1 e2
                      have xm := HBO.out (gPr out (t - 1)) (by simp [gPr, List.getElem?_eq_getElem htl])
                      have hyes := fun h => atQ_yes (x := ((-(B : Int) + (i : Int)), ((D : Int) + 1))) (l := out) (k := t - 1) h
                      have hno := fun h => atQ_no (x := ((-(B : Int) + (i : Int)), ((D : Int) + 1))) (l := out) (k := t - 1) h
                      rw [Nat.sub_add_cancel ht0] at hyes hno
                      have hbq1 : befQ ((-(B : Int) + (i : Int)), ((D : Int) + 1)) (gPr out (t - 1)) = decide ((-(B : Int) + (i : Int)) * (gPr out (t - 1)).2 < (gPr out (t - 1)).1 * ((D : Int) + 1)) := rfl
                      generalize gPr out (t - 1) = xy at *
                      obtain ⟨x, y⟩ := xy
                      have hc1 := fun (W : World) => s_l26Before (-(B : Int) + (i : Int)) ((D : Int) + 1) x y W (by omega) (by omega) xm.1 xm.2
                      rw [← hbq1] at hc1
                      have hs1' : IntKind.i64.wrap ((t : Int) - 1) = (t : Int) - 1 := IntWalk.i64_in _ (by omega)
                      have hs2' : ((t : Int) - 1).toNat = t - 1 := by omega
                      have hs3' : 1 ≤ (t : Int) := by omega
                      have hs4' : 0 ≤ (t : Int) - 1 := by omega
                      have hs5' : (t : Int) - 1 < (m : Int) := by omega
                      have hs6' : (0 : Int) < (t : Int) := by omega
                      obtain ⟨z0, z1, _, _⟩ := BZ.two
                      have r1 := fun d os => cell_regrown e1 d os
                      have r2 := fun d os => cell_regrown e2 d os
                      have r3 := fun d os => cell_regrown z0 d os
                      have r4 := fun d os => cell_regrown z1 d os
                      clear x1 xm e1 e2 z0 z1 hbq1
                      cases hbe : befQ ((-(B : Int) + (i : Int)), ((D : Int) + 1)) (x, y)
                      · rw [hbe] at hc1
                        have HAT := Lib.hid (show t = atQ ((-(B : Int) + (i : Int)), ((D : Int) + 1)) out m by rw [HAT0.out]; exact (hno hbe).symm)
                        clear hyes hno hbe
                        go_wp2_with (fail)
                        refine wp_region_quiet_below (by kernel_rfl) (by kernel_rfl) ?_
                        repeat (first | go_big_quiet_step ((go_at_call 62; go_loud (exact Calls.regrown_of (hc1 _)))) | quiet_step ((go_at_call 62; go_loud (exact Calls.regrown_of (hc1 _)))))
                        refine wpQuiet_nil ?_
                        intro _ hw'
                        obtain ⟨⟨dq, osq⟩, hw''⟩ := hw'
                        subst hw''
                        have hb5 := below_regrown wt dq osq
                        generalize Go.Sort.grow (redrawn wt dq) osq = wz at *
                        have hoT := own_below hoT hb5
                        have BZ := BZ.below hb5 BZ.lt
                        have hbT := hbT.trans (hb5.mono hzT)
                        have hzT := hbT.size
                        clear r1 r2 r3 r4
                        go_wp2_with (fail)
                        have HFIN := Lib.hid (show ∀ A9 c9 w9, w9.ownsRow wz.heap.size 46 2 (.slice A9 (m + 1) c9) (m + 1) ((rC out).take (t * 2) ++ [.int .i64 (-(B : Int) + (i : Int)), .int .i64 ((D : Int) + 1)] ++ (rC out).drop (t * 2)) → Below wz.heap.size wz w9 → w9.ownsRow w.heap.size 46 2 (.slice A9 (m + 1) c9) (m + 1) (rC (insQ ((-(B : Int) + (i : Int)), ((D : Int) + 1)) out)) ∧ Below w.heap.size w w9 from fun A9 c9 w9 ho9 hb9 => by
                          have e1 := rC_ins ((-(B : Int) + (i : Int)), ((D : Int) + 1)) out
                          rw [← HM.out, ← HAT.out] at e1
                          rw [e1] at ho9
                          exact ⟨own_mono ho9 hzT, hbT.trans (hb9.mono hzT)⟩)
                        have HM2 := Lib.hid (show m + 1 = (insQ ((-(B : Int) + (i : Int)), ((D : Int) + 1)) out).length by rw [insQ_len, HM.out])
                        rw [← HINS.out] at HM2 HFIN
                        have HONE := Lib.hid (rC_one out)
                        have hcap : m ≤ c3 := by
                          obtain ⟨A', c', he, h⟩ := own_slice' hoT
                          injection he with _ _ he
                          omega
                        have hxl : (rC out).length = m * 2 := hoT.1
                        generalize hX : rC out = xs at *
                        have HTK := Lib.hid (show (xs.take (t * 2)).length = t * 2 by rw [List.length_take, hxl]; omega)
                        have HDP := Lib.hid (show (xs.drop (t * 2)).length = (m - t) * 2 by rw [List.length_drop, hxl]; omega)
                        have hsB : ∀ W : World, Below wz.heap.size wz W → ∀ j u, xs[j]? = some u → W.cell? ⟨g, j, none⟩ = some u := fun W hW j u hj => by
                          have h9 := World.ownsRow.cells (own_below hoT hW) (g := g) rfl j u hj
                          rw [Go.WideShapes.add_plain] at h9
                          simpa using h9
                        have hs1 : ∀ W : World, Below wz.heap.size wz W → ∀ j u, (xs.take (t * 2))[j]? = some u → W.cell? ((⟨g, 0, none⟩ : Addr).add j) = some u := fun W hW j u hj => by
                          rw [Go.WideShapes.add_plain, Nat.zero_add]
                          rw [List.getElem?_take] at hj
                          split at hj
                          · exact hsB W hW j u hj
                          · cases hj
                        obtain ⟨x0, x1, _, _⟩ := BZ.two
                        have xa0 := fun o => (BZ.below ((Below.refl wz.heap.size wz).alloc (Nat.le_refl _) o) BZ.lt).two.1
                        have xa1 := fun o => (BZ.below ((Below.refl wz.heap.size wz).alloc (Nat.le_refl _) o) BZ.lt).two.2.1
                        have p1 : t ≤ c3 := by omega
                        have p2 : (t : Int) ≤ (c3 : Int) := by omega
                        have p3 : (t : Int) ≤ (m : Int) := by omega
                        have hmx : m + 1 ≤ maxLen := by simp only [maxLen]; omega
                        clear hX hxl
                        by_cases hca : c3 = t
                        · have hmt : m = t := by omega
                          have hs3 : ∀ W : World, Below wz.heap.size wz W → ∀ j u, (xs.drop (t * 2))[j]? = some u → W.cell? ((⟨g, 0, none⟩ : Addr).add j) = some u := fun W hW j u hj => by
                            rw [List.getElem?_eq_none (by rw [HDP.out]; omega)] at hj; cases hj
                          subst hca
                          subst hmt
                          clear hsB hoT
                          go_region_law
                            (first
                              | ((refine step_append_own (by rfl) (.tmp 79) (.tmp 82) 23 (by rfl) wz.heap.size 46 ji (.agg #[.int .i64 0, .int .i64 0]) 2 16 Try.underlying23 jh j0 j1 j2 rfl (by omega) v8 (m + 1) (xs.take (m * 2) ++ [.int .i64 (-(B : Int) + (i : Int)), .int .i64 ((D : Int) + 1)]) (by rfl) hown8 ⟨g, 0, none⟩ 0 0 (xs.drop (m * 2)) (by rfl) (by rw [HDP.out]; omega) (hs3 _ hb8) (fun u hu => HONE.out u (List.mem_of_mem_drop hu)) (by have := hmx; omega) (by omega) hb8.size ?_; intro v9 w9 hown9 hg9 hat9; have hb9 := hb8.grown hg9 hb8.size (fun g' hg' => (hown8.lt g' hg').1)))
                              | ((refine step_append_own (by rfl) (.tmp 76) (.tmp 78) 23 (by rfl) wz.heap.size 46 ji (.agg #[.int .i64 0, .int .i64 0]) 2 16 Try.underlying23 jh j0 j1 j2 rfl (by omega) v7 m (xs.take (m * 2)) (by rfl) (World.ownsRow.alloc hown7 _) ⟨w7.heap.size, 0, none⟩ 1 1 [.int .i64 (-(B : Int) + (i : Int)), .int .i64 ((D : Int) + 1)] (by rfl) (by rfl) (fun j u hj => rq_one w7 (-(B : Int) + (i : Int)) ((D : Int) + 1) j u hj) (rq_oneCell _ _) (by have := hmx; omega) (by omega) (by have := hb7.size; simp; omega) ?_; intro v8 w8 hown8 hg8 hat8; have hb8 := (hb7.alloc hb7.size _).grown hg8 (by have := hb7.size; simp; omega) (fun g' hg' => (hown7.lt g' hg').1)))
                              | ((refine step_append_own (by rfl) (.tmp 76) (.tmp 78) 23 (by rfl) wz.heap.size 46 ji (.agg #[.int .i64 0, .int .i64 0]) 2 16 Try.underlying23 jh j0 j1 j2 rfl (by omega) v7 m (xs.take (m * 2)) (by rfl) hown7 ⟨wz.heap.size + 1, 0, none⟩ 1 1 [.int .i64 (-(B : Int) + (i : Int)), .int .i64 ((D : Int) + 1)] (by rfl) (by rfl) hX7 (rq_oneCell _ _) (by have := hmx; omega) (by omega) hb7.size ?_; intro v8 w8 hown8 hg8 hat8; have hb8 := hb7.grown hg8 hb7.size (fun g' hg' => (hown7.lt g' hg').1)))
                              | ((refine step_append_own (by rfl) (.tmp 76) (.tmp 78) 23 (by rfl) wz.heap.size 46 ji (.agg #[.int .i64 0, .int .i64 0]) 2 16 Try.underlying23 jh j0 j1 j2 rfl (by omega) v7 m (xs.take (m * 2)) (by rfl) hown7 ⟨wz.heap.size, 0, none⟩ 1 1 [.int .i64 (-(B : Int) + (i : Int)), .int .i64 ((D : Int) + 1)] (by rfl) (by rfl) hX7 (rq_oneCell _ _) (by have := hmx; omega) (by omega) hb7.size ?_; intro v8 w8 hown8 hg8 hat8; have hb8 := hb7.grown hg8 hb7.size (fun g' hg' => (hown7.lt g' hg').1)))
                              | ((refine step_append_own (by rfl) (.tmp 72) (.tmp 75) 23 (by rfl) wz.heap.size 46 ji (.agg #[.int .i64 0, .int .i64 0]) 2 16 Try.underlying23 jh j0 j1 j2 rfl (by omega) (.slice (some ⟨wz.heap.size, 0, none⟩) 0 0) 0 [] (by rfl) (rq_nilT wz.drew wz.heap.size (Nat.le_refl _)) ⟨g, 0, none⟩ m m (xs.take (m * 2)) (by rfl) HTK.out (hs1 _ ((Below.refl _ _).drew.alloc (Nat.le_refl _) _)) (fun u hu => HONE.out u (List.mem_of_mem_take hu)) (by have := hmx; omega) (by omega) (by simp; try omega) ?_; intro v7 w7 hown7 hg7 hat7; have hb7 := ((Below.refl wz.heap.size wz).drew.alloc (Nat.le_refl _) _).grown hg7 (by simp; try omega) (fun g' hg' => (by simp [Value.ownBlock] at hg'; omega)); obtain ⟨k0, k1, _, _⟩ := (BZ.below hb7 BZ.lt).two; rw [Nat.zero_add, List.nil_append] at hown7))
                              | ((refine step_append_own (by rfl) (.tmp 72) (.tmp 75) 23 (by rfl) wz.heap.size 46 ji (.agg #[.int .i64 0, .int .i64 0]) 2 16 Try.underlying23 jh j0 j1 j2 rfl (by omega) (.slice (some ⟨wz.heap.size, 0, none⟩) 0 0) 0 [] (by rfl) (World.ownsRow.alloc (rq_nilT wz.drew wz.heap.size (Nat.le_refl _)) _) ⟨g, 0, none⟩ m m (xs.take (m * 2)) (by rfl) HTK.out (hs1 _ (((Below.refl _ _).drew.alloc (Nat.le_refl _) _).alloc (by simp) _)) (fun u hu => HONE.out u (List.mem_of_mem_take hu)) (by have := hmx; omega) (by omega) (by simp; try omega) ?_; intro v7 w7 hown7 hg7 hat7; have hb7 := (((Below.refl wz.heap.size wz).drew.alloc (Nat.le_refl _) _).alloc (by simp) _).grown hg7 (by simp; try omega) (fun g' hg' => (by simp [Value.ownBlock] at hg'; omega)); have hX7 := rq_keep2 hg7; rw [Nat.zero_add, List.nil_append] at hown7))
                              | ((refine step_append_own (by rfl) (.tmp 72) (.tmp 75) 23 (by rfl) wz.heap.size 46 ji (.agg #[.int .i64 0, .int .i64 0]) 2 16 Try.underlying23 jh j0 j1 j2 rfl (by omega) (.slice (some ⟨wz.heap.size + 1, 0, none⟩) 0 0) 0 [] (by rfl) (rq_nil1 wz #[.int .i64 (-(B : Int) + (i : Int)), .int .i64 ((D : Int) + 1)]) ⟨g, 0, none⟩ m m (xs.take (m * 2)) (by rfl) HTK.out (hs1 _ (((Below.refl _ _).drew.alloc (Nat.le_refl _) _).alloc (by simp) _)) (fun u hu => HONE.out u (List.mem_of_mem_take hu)) (by have := hmx; omega) (by omega) (by simp; try omega) ?_; intro v7 w7 hown7 hg7 hat7; have hb7 := (((Below.refl wz.heap.size wz).drew.alloc (Nat.le_refl _) _).alloc (by simp) _).grown hg7 (by simp; try omega) (fun g' hg' => (by simp [Value.ownBlock] at hg'; omega)); have hX7 := rq_keep1 hg7; rw [Nat.zero_add, List.nil_append] at hown7)))
                          all_goals
                            have hlen : m + 1 + 0 = m + 1 := by omega
                            rw [hlen] at hown9
                            obtain ⟨A9, c9, rfl, _⟩ := own_slice' hown9
                            obtain ⟨g9, rfl, _, _, _⟩ := own_src hown9 (by omega)
                            obtain ⟨ho99, hb99⟩ := HFIN.out _ _ _ hown9 hb9
                            have HO99 := Lib.hid ho99
                            clear hown9 hown8 hown7 hb9 hb8 hb7 hlen hs1 hs3 ho99
                            go_wp2_with (fail)
                            go_roundw
                            case rel => exact ⟨i + 1, m + 1, g9, c9, by omega, by go_num, rfl, HM2.out, HO99.out, hb99⟩
                            case measure => simp [intOf]; omega
                        · have hs3 : ∀ W : World, Below wz.heap.size wz W → ∀ j u, (xs.drop (t * 2))[j]? = some u → W.cell? ((⟨g, t * 2, none⟩ : Addr).add j) = some u := fun W hW j u hj => by
                            rw [Go.WideShapes.add_plain]
                            rw [List.getElem?_drop] at hj
                            exact hsB W hW (t * 2 + j) u hj
                          clear hsB hoT
                          go_region_law
                            (first
                              | ((refine step_append_own (by rfl) (.tmp 79) (.tmp 82) 23 (by rfl) wz.heap.size 46 ji (.agg #[.int .i64 0, .int .i64 0]) 2 16 Try.underlying23 jh j0 j1 j2 rfl (by omega) v8 (t + 1) (xs.take (t * 2) ++ [.int .i64 (-(B : Int) + (i : Int)), .int .i64 ((D : Int) + 1)]) (by rfl) hown8 ⟨g, t * 2, none⟩ (m - t) (c3 - t) (xs.drop (t * 2)) (by rfl) HDP.out (hs3 _ hb8) (fun u hu => HONE.out u (List.mem_of_mem_drop hu)) (by have := hmx; omega) (by omega) hb8.size ?_; intro v9 w9 hown9 hg9 hat9; have hb9 := hb8.grown hg9 hb8.size (fun g' hg' => (hown8.lt g' hg').1)))
                              | ((refine step_append_own (by rfl) (.tmp 76) (.tmp 78) 23 (by rfl) wz.heap.size 46 ji (.agg #[.int .i64 0, .int .i64 0]) 2 16 Try.underlying23 jh j0 j1 j2 rfl (by omega) v7 t (xs.take (t * 2)) (by rfl) (World.ownsRow.alloc hown7 _) ⟨w7.heap.size, 0, none⟩ 1 1 [.int .i64 (-(B : Int) + (i : Int)), .int .i64 ((D : Int) + 1)] (by rfl) (by rfl) (fun j u hj => rq_one w7 (-(B : Int) + (i : Int)) ((D : Int) + 1) j u hj) (rq_oneCell _ _) (by have := hmx; omega) (by omega) (by have := hb7.size; simp; omega) ?_; intro v8 w8 hown8 hg8 hat8; have hb8 := (hb7.alloc hb7.size _).grown hg8 (by have := hb7.size; simp; omega) (fun g' hg' => (hown7.lt g' hg').1)))
                              | ((refine step_append_own (by rfl) (.tmp 76) (.tmp 78) 23 (by rfl) wz.heap.size 46 ji (.agg #[.int .i64 0, .int .i64 0]) 2 16 Try.underlying23 jh j0 j1 j2 rfl (by omega) v7 t (xs.take (t * 2)) (by rfl) hown7 ⟨wz.heap.size + 1, 0, none⟩ 1 1 [.int .i64 (-(B : Int) + (i : Int)), .int .i64 ((D : Int) + 1)] (by rfl) (by rfl) hX7 (rq_oneCell _ _) (by have := hmx; omega) (by omega) hb7.size ?_; intro v8 w8 hown8 hg8 hat8; have hb8 := hb7.grown hg8 hb7.size (fun g' hg' => (hown7.lt g' hg').1)))
                              | ((refine step_append_own (by rfl) (.tmp 76) (.tmp 78) 23 (by rfl) wz.heap.size 46 ji (.agg #[.int .i64 0, .int .i64 0]) 2 16 Try.underlying23 jh j0 j1 j2 rfl (by omega) v7 t (xs.take (t * 2)) (by rfl) hown7 ⟨wz.heap.size, 0, none⟩ 1 1 [.int .i64 (-(B : Int) + (i : Int)), .int .i64 ((D : Int) + 1)] (by rfl) (by rfl) hX7 (rq_oneCell _ _) (by have := hmx; omega) (by omega) hb7.size ?_; intro v8 w8 hown8 hg8 hat8; have hb8 := hb7.grown hg8 hb7.size (fun g' hg' => (hown7.lt g' hg').1)))
                              | ((refine step_append_own (by rfl) (.tmp 72) (.tmp 75) 23 (by rfl) wz.heap.size 46 ji (.agg #[.int .i64 0, .int .i64 0]) 2 16 Try.underlying23 jh j0 j1 j2 rfl (by omega) (.slice (some ⟨wz.heap.size, 0, none⟩) 0 0) 0 [] (by rfl) (rq_nilT wz.drew wz.heap.size (Nat.le_refl _)) ⟨g, 0, none⟩ t c3 (xs.take (t * 2)) (by rfl) HTK.out (hs1 _ ((Below.refl _ _).drew.alloc (Nat.le_refl _) _)) (fun u hu => HONE.out u (List.mem_of_mem_take hu)) (by have := hmx; omega) (by omega) (by simp; try omega) ?_; intro v7 w7 hown7 hg7 hat7; have hb7 := ((Below.refl wz.heap.size wz).drew.alloc (Nat.le_refl _) _).grown hg7 (by simp; try omega) (fun g' hg' => (by simp [Value.ownBlock] at hg'; omega)); obtain ⟨k0, k1, _, _⟩ := (BZ.below hb7 BZ.lt).two; rw [Nat.zero_add, List.nil_append] at hown7))
                              | ((refine step_append_own (by rfl) (.tmp 72) (.tmp 75) 23 (by rfl) wz.heap.size 46 ji (.agg #[.int .i64 0, .int .i64 0]) 2 16 Try.underlying23 jh j0 j1 j2 rfl (by omega) (.slice (some ⟨wz.heap.size, 0, none⟩) 0 0) 0 [] (by rfl) (World.ownsRow.alloc (rq_nilT wz.drew wz.heap.size (Nat.le_refl _)) _) ⟨g, 0, none⟩ t c3 (xs.take (t * 2)) (by rfl) HTK.out (hs1 _ (((Below.refl _ _).drew.alloc (Nat.le_refl _) _).alloc (by simp) _)) (fun u hu => HONE.out u (List.mem_of_mem_take hu)) (by have := hmx; omega) (by omega) (by simp; try omega) ?_; intro v7 w7 hown7 hg7 hat7; have hb7 := (((Below.refl wz.heap.size wz).drew.alloc (Nat.le_refl _) _).alloc (by simp) _).grown hg7 (by simp; try omega) (fun g' hg' => (by simp [Value.ownBlock] at hg'; omega)); have hX7 := rq_keep2 hg7; rw [Nat.zero_add, List.nil_append] at hown7))
                              | ((refine step_append_own (by rfl) (.tmp 72) (.tmp 75) 23 (by rfl) wz.heap.size 46 ji (.agg #[.int .i64 0, .int .i64 0]) 2 16 Try.underlying23 jh j0 j1 j2 rfl (by omega) (.slice (some ⟨wz.heap.size + 1, 0, none⟩) 0 0) 0 [] (by rfl) (rq_nil1 wz #[.int .i64 (-(B : Int) + (i : Int)), .int .i64 ((D : Int) + 1)]) ⟨g, 0, none⟩ t c3 (xs.take (t * 2)) (by rfl) HTK.out (hs1 _ (((Below.refl _ _).drew.alloc (Nat.le_refl _) _).alloc (by simp) _)) (fun u hu => HONE.out u (List.mem_of_mem_take hu)) (by have := hmx; omega) (by omega) (by simp; try omega) ?_; intro v7 w7 hown7 hg7 hat7; have hb7 := (((Below.refl wz.heap.size wz).drew.alloc (Nat.le_refl _) _).alloc (by simp) _).grown hg7 (by simp; try omega) (fun g' hg' => (by simp [Value.ownBlock] at hg'; omega)); have hX7 := rq_keep1 hg7; rw [Nat.zero_add, List.nil_append] at hown7)))
                          all_goals
                            have hlen : t + 1 + (m - t) = m + 1 := by omega
                            rw [hlen] at hown9
                            obtain ⟨A9, c9, rfl, _⟩ := own_slice' hown9
                            obtain ⟨g9, rfl, _, _, _⟩ := own_src hown9 (by omega)
                            obtain ⟨ho99, hb99⟩ := HFIN.out _ _ _ hown9 hb9
                            have HO99 := Lib.hid ho99
                            clear hown9 hown8 hown7 hb9 hb8 hb7 hlen hs1 hs3 ho99
                            go_wp2_with (fail)
                            go_roundw
                            case rel => exact ⟨i + 1, m + 1, g9, c9, by omega, by go_num, rfl, HM2.out, HO99.out, hb99⟩
                            case measure => simp [intOf]; omega
                      · rw [hbe] at hc1
                        have HT2 := Lib.hid (HAT0.out.trans (hyes hbe))
                        clear hyes hno hbe
                        go_wp2_with (fail)
                        refine wp_region_quiet_below (by kernel_rfl) (by kernel_rfl) ?_
                        repeat (first | go_big_quiet_step ((go_at_call 62; go_loud (exact Calls.regrown_of (hc1 _)))) | quiet_step ((go_at_call 62; go_loud (exact Calls.regrown_of (hc1 _)))))
                        refine wpQuiet_nil ?_
                        intro _ hw'
                        obtain ⟨⟨dq, osq⟩, hw''⟩ := hw'
                        subst hw''
                        have hb5 := below_regrown wt dq osq
                        generalize Go.Sort.grow (redrawn wt dq) osq = w5 at *
                        go_wp2_with (fail)
                        go_roundw
                        case rel => exact ⟨t - 1, by omega, by go_num, HT2.out, hbt.trans (hb5.mono hbt.size)⟩
                        case measure => simp [intOf]; omega
                    · have hng : ¬ (0 : Int) < (t : Int) := by omega
                      have HAT := Lib.hid (show t = atQ ((-(B : Int) + (i : Int)), ((D : Int) + 1)) out m by rw [HAT0.out, show t = 0 by omega]; rfl)
                      go_wp2_with (go_quiet (fail))
                      have hoT := own_dr hoT nq
                      have BZ := BZ.drewN nq
                      have hbT := below_drewN hbT nq
                      have hzT : w.heap.size ≤ (wt.drewN nq).heap.size := hbT.size
                      generalize wt.drewN nq = wz at *
                      have HFIN := Lib.hid (show ∀ A9 c9 w9, w9.ownsRow wz.heap.size 46 2 (.slice A9 (m + 1) c9) (m + 1) ((rC out).take (t * 2) ++ [.int .i64 (-(B : Int) + (i : Int)), .int .i64 ((D : Int) + 1)] ++ (rC out).drop (t * 2)) → Below wz.heap.size wz w9 → w9.ownsRow w.heap.size 46 2 (.slice A9 (m + 1) c9) (m + 1) (rC (insQ ((-(B : Int) + (i : Int)), ((D : Int) + 1)) out)) ∧ Below w.heap.size w w9 from fun A9 c9 w9 ho9 hb9 => by
                        have e1 := rC_ins ((-(B : Int) + (i : Int)), ((D : Int) + 1)) out
                        rw [← HM.out, ← HAT.out] at e1
                        rw [e1] at ho9
                        exact ⟨own_mono ho9 hzT, hbT.trans (hb9.mono hzT)⟩)
                      have HM2 := Lib.hid (show m + 1 = (insQ ((-(B : Int) + (i : Int)), ((D : Int) + 1)) out).length by rw [insQ_len, HM.out])
                      rw [← HINS.out] at HM2 HFIN
                      have HONE := Lib.hid (rC_one out)
                      have hcap : m ≤ c3 := by
                        obtain ⟨A', c', he, h⟩ := own_slice' hoT
                        injection he with _ _ he
                        omega
                      have hxl : (rC out).length = m * 2 := hoT.1
                      generalize hX : rC out = xs at *
                      have HTK := Lib.hid (show (xs.take (t * 2)).length = t * 2 by rw [List.length_take, hxl]; omega)
                      have HDP := Lib.hid (show (xs.drop (t * 2)).length = (m - t) * 2 by rw [List.length_drop, hxl]; omega)
                      have hsB : ∀ W : World, Below wz.heap.size wz W → ∀ j u, xs[j]? = some u → W.cell? ⟨g, j, none⟩ = some u := fun W hW j u hj => by
                        have h9 := World.ownsRow.cells (own_below hoT hW) (g := g) rfl j u hj
                        rw [Go.WideShapes.add_plain] at h9
                        simpa using h9
                      have hs1 : ∀ W : World, Below wz.heap.size wz W → ∀ j u, (xs.take (t * 2))[j]? = some u → W.cell? ((⟨g, 0, none⟩ : Addr).add j) = some u := fun W hW j u hj => by
                        rw [Go.WideShapes.add_plain, Nat.zero_add]
                        rw [List.getElem?_take] at hj
                        split at hj
                        · exact hsB W hW j u hj
                        · cases hj
                      obtain ⟨x0, x1, _, _⟩ := BZ.two
                      have xa0 := fun o => (BZ.below ((Below.refl wz.heap.size wz).alloc (Nat.le_refl _) o) BZ.lt).two.1
                      have xa1 := fun o => (BZ.below ((Below.refl wz.heap.size wz).alloc (Nat.le_refl _) o) BZ.lt).two.2.1
                      have p1 : t ≤ c3 := by omega
                      have p2 : (t : Int) ≤ (c3 : Int) := by omega
                      have p3 : (t : Int) ≤ (m : Int) := by omega
                      have hmx : m + 1 ≤ maxLen := by simp only [maxLen]; omega
                      clear hX hxl
                      by_cases hca : c3 = t
                      · have hmt : m = t := by omega
                        have hs3 : ∀ W : World, Below wz.heap.size wz W → ∀ j u, (xs.drop (t * 2))[j]? = some u → W.cell? ((⟨g, 0, none⟩ : Addr).add j) = some u := fun W hW j u hj => by
                          rw [List.getElem?_eq_none (by rw [HDP.out]; omega)] at hj; cases hj
                        subst hca
                        subst hmt
                        clear hsB hoT
                        go_region_law
                          (first
                            | ((refine step_append_own (by rfl) (.tmp 79) (.tmp 82) 23 (by rfl) wz.heap.size 46 ji (.agg #[.int .i64 0, .int .i64 0]) 2 16 Try.underlying23 jh j0 j1 j2 rfl (by omega) v8 (m + 1) (xs.take (m * 2) ++ [.int .i64 (-(B : Int) + (i : Int)), .int .i64 ((D : Int) + 1)]) (by rfl) hown8 ⟨g, 0, none⟩ 0 0 (xs.drop (m * 2)) (by rfl) (by rw [HDP.out]; omega) (hs3 _ hb8) (fun u hu => HONE.out u (List.mem_of_mem_drop hu)) (by have := hmx; omega) (by omega) hb8.size ?_; intro v9 w9 hown9 hg9 hat9; have hb9 := hb8.grown hg9 hb8.size (fun g' hg' => (hown8.lt g' hg').1)))
                            | ((refine step_append_own (by rfl) (.tmp 76) (.tmp 78) 23 (by rfl) wz.heap.size 46 ji (.agg #[.int .i64 0, .int .i64 0]) 2 16 Try.underlying23 jh j0 j1 j2 rfl (by omega) v7 m (xs.take (m * 2)) (by rfl) (World.ownsRow.alloc hown7 _) ⟨w7.heap.size, 0, none⟩ 1 1 [.int .i64 (-(B : Int) + (i : Int)), .int .i64 ((D : Int) + 1)] (by rfl) (by rfl) (fun j u hj => rq_one w7 (-(B : Int) + (i : Int)) ((D : Int) + 1) j u hj) (rq_oneCell _ _) (by have := hmx; omega) (by omega) (by have := hb7.size; simp; omega) ?_; intro v8 w8 hown8 hg8 hat8; have hb8 := (hb7.alloc hb7.size _).grown hg8 (by have := hb7.size; simp; omega) (fun g' hg' => (hown7.lt g' hg').1)))
                            | ((refine step_append_own (by rfl) (.tmp 76) (.tmp 78) 23 (by rfl) wz.heap.size 46 ji (.agg #[.int .i64 0, .int .i64 0]) 2 16 Try.underlying23 jh j0 j1 j2 rfl (by omega) v7 m (xs.take (m * 2)) (by rfl) hown7 ⟨wz.heap.size + 1, 0, none⟩ 1 1 [.int .i64 (-(B : Int) + (i : Int)), .int .i64 ((D : Int) + 1)] (by rfl) (by rfl) hX7 (rq_oneCell _ _) (by have := hmx; omega) (by omega) hb7.size ?_; intro v8 w8 hown8 hg8 hat8; have hb8 := hb7.grown hg8 hb7.size (fun g' hg' => (hown7.lt g' hg').1)))
                            | ((refine step_append_own (by rfl) (.tmp 76) (.tmp 78) 23 (by rfl) wz.heap.size 46 ji (.agg #[.int .i64 0, .int .i64 0]) 2 16 Try.underlying23 jh j0 j1 j2 rfl (by omega) v7 m (xs.take (m * 2)) (by rfl) hown7 ⟨wz.heap.size, 0, none⟩ 1 1 [.int .i64 (-(B : Int) + (i : Int)), .int .i64 ((D : Int) + 1)] (by rfl) (by rfl) hX7 (rq_oneCell _ _) (by have := hmx; omega) (by omega) hb7.size ?_; intro v8 w8 hown8 hg8 hat8; have hb8 := hb7.grown hg8 hb7.size (fun g' hg' => (hown7.lt g' hg').1)))
                            | ((refine step_append_own (by rfl) (.tmp 72) (.tmp 75) 23 (by rfl) wz.heap.size 46 ji (.agg #[.int .i64 0, .int .i64 0]) 2 16 Try.underlying23 jh j0 j1 j2 rfl (by omega) (.slice (some ⟨wz.heap.size, 0, none⟩) 0 0) 0 [] (by rfl) (rq_nilT wz.drew wz.heap.size (Nat.le_refl _)) ⟨g, 0, none⟩ m m (xs.take (m * 2)) (by rfl) HTK.out (hs1 _ ((Below.refl _ _).drew.alloc (Nat.le_refl _) _)) (fun u hu => HONE.out u (List.mem_of_mem_take hu)) (by have := hmx; omega) (by omega) (by simp; try omega) ?_; intro v7 w7 hown7 hg7 hat7; have hb7 := ((Below.refl wz.heap.size wz).drew.alloc (Nat.le_refl _) _).grown hg7 (by simp; try omega) (fun g' hg' => (by simp [Value.ownBlock] at hg'; omega)); obtain ⟨k0, k1, _, _⟩ := (BZ.below hb7 BZ.lt).two; rw [Nat.zero_add, List.nil_append] at hown7))
                            | ((refine step_append_own (by rfl) (.tmp 72) (.tmp 75) 23 (by rfl) wz.heap.size 46 ji (.agg #[.int .i64 0, .int .i64 0]) 2 16 Try.underlying23 jh j0 j1 j2 rfl (by omega) (.slice (some ⟨wz.heap.size, 0, none⟩) 0 0) 0 [] (by rfl) (World.ownsRow.alloc (rq_nilT wz.drew wz.heap.size (Nat.le_refl _)) _) ⟨g, 0, none⟩ m m (xs.take (m * 2)) (by rfl) HTK.out (hs1 _ (((Below.refl _ _).drew.alloc (Nat.le_refl _) _).alloc (by simp) _)) (fun u hu => HONE.out u (List.mem_of_mem_take hu)) (by have := hmx; omega) (by omega) (by simp; try omega) ?_; intro v7 w7 hown7 hg7 hat7; have hb7 := (((Below.refl wz.heap.size wz).drew.alloc (Nat.le_refl _) _).alloc (by simp) _).grown hg7 (by simp; try omega) (fun g' hg' => (by simp [Value.ownBlock] at hg'; omega)); have hX7 := rq_keep2 hg7; rw [Nat.zero_add, List.nil_append] at hown7))
                            | ((refine step_append_own (by rfl) (.tmp 72) (.tmp 75) 23 (by rfl) wz.heap.size 46 ji (.agg #[.int .i64 0, .int .i64 0]) 2 16 Try.underlying23 jh j0 j1 j2 rfl (by omega) (.slice (some ⟨wz.heap.size + 1, 0, none⟩) 0 0) 0 [] (by rfl) (rq_nil1 wz #[.int .i64 (-(B : Int) + (i : Int)), .int .i64 ((D : Int) + 1)]) ⟨g, 0, none⟩ m m (xs.take (m * 2)) (by rfl) HTK.out (hs1 _ (((Below.refl _ _).drew.alloc (Nat.le_refl _) _).alloc (by simp) _)) (fun u hu => HONE.out u (List.mem_of_mem_take hu)) (by have := hmx; omega) (by omega) (by simp; try omega) ?_; intro v7 w7 hown7 hg7 hat7; have hb7 := (((Below.refl wz.heap.size wz).drew.alloc (Nat.le_refl _) _).alloc (by simp) _).grown hg7 (by simp; try omega) (fun g' hg' => (by simp [Value.ownBlock] at hg'; omega)); have hX7 := rq_keep1 hg7; rw [Nat.zero_add, List.nil_append] at hown7)))
                        all_goals
                          have hlen : m + 1 + 0 = m + 1 := by omega
                          rw [hlen] at hown9
                          obtain ⟨A9, c9, rfl, _⟩ := own_slice' hown9
                          obtain ⟨g9, rfl, _, _, _⟩ := own_src hown9 (by omega)
                          obtain ⟨ho99, hb99⟩ := HFIN.out _ _ _ hown9 hb9
                          have HO99 := Lib.hid ho99
                          clear hown9 hown8 hown7 hb9 hb8 hb7 hlen hs1 hs3 ho99
                          go_wp2_with (fail)
                          go_roundw
                          case rel => exact ⟨i + 1, m + 1, g9, c9, by omega, by go_num, rfl, HM2.out, HO99.out, hb99⟩
                          case measure => simp [intOf]; omega
                      · have hs3 : ∀ W : World, Below wz.heap.size wz W → ∀ j u, (xs.drop (t * 2))[j]? = some u → W.cell? ((⟨g, t * 2, none⟩ : Addr).add j) = some u := fun W hW j u hj => by
                          rw [Go.WideShapes.add_plain]
                          rw [List.getElem?_drop] at hj
                          exact hsB W hW (t * 2 + j) u hj
                        clear hsB hoT
                        go_region_law
                          (first
                            | ((refine step_append_own (by rfl) (.tmp 79) (.tmp 82) 23 (by rfl) wz.heap.size 46 ji (.agg #[.int .i64 0, .int .i64 0]) 2 16 Try.underlying23 jh j0 j1 j2 rfl (by omega) v8 (t + 1) (xs.take (t * 2) ++ [.int .i64 (-(B : Int) + (i : Int)), .int .i64 ((D : Int) + 1)]) (by rfl) hown8 ⟨g, t * 2, none⟩ (m - t) (c3 - t) (xs.drop (t * 2)) (by rfl) HDP.out (hs3 _ hb8) (fun u hu => HONE.out u (List.mem_of_mem_drop hu)) (by have := hmx; omega) (by omega) hb8.size ?_; intro v9 w9 hown9 hg9 hat9; have hb9 := hb8.grown hg9 hb8.size (fun g' hg' => (hown8.lt g' hg').1)))
                            | ((refine step_append_own (by rfl) (.tmp 76) (.tmp 78) 23 (by rfl) wz.heap.size 46 ji (.agg #[.int .i64 0, .int .i64 0]) 2 16 Try.underlying23 jh j0 j1 j2 rfl (by omega) v7 t (xs.take (t * 2)) (by rfl) (World.ownsRow.alloc hown7 _) ⟨w7.heap.size, 0, none⟩ 1 1 [.int .i64 (-(B : Int) + (i : Int)), .int .i64 ((D : Int) + 1)] (by rfl) (by rfl) (fun j u hj => rq_one w7 (-(B : Int) + (i : Int)) ((D : Int) + 1) j u hj) (rq_oneCell _ _) (by have := hmx; omega) (by omega) (by have := hb7.size; simp; omega) ?_; intro v8 w8 hown8 hg8 hat8; have hb8 := (hb7.alloc hb7.size _).grown hg8 (by have := hb7.size; simp; omega) (fun g' hg' => (hown7.lt g' hg').1)))
                            | ((refine step_append_own (by rfl) (.tmp 76) (.tmp 78) 23 (by rfl) wz.heap.size 46 ji (.agg #[.int .i64 0, .int .i64 0]) 2 16 Try.underlying23 jh j0 j1 j2 rfl (by omega) v7 t (xs.take (t * 2)) (by rfl) hown7 ⟨wz.heap.size + 1, 0, none⟩ 1 1 [.int .i64 (-(B : Int) + (i : Int)), .int .i64 ((D : Int) + 1)] (by rfl) (by rfl) hX7 (rq_oneCell _ _) (by have := hmx; omega) (by omega) hb7.size ?_; intro v8 w8 hown8 hg8 hat8; have hb8 := hb7.grown hg8 hb7.size (fun g' hg' => (hown7.lt g' hg').1)))
                            | ((refine step_append_own (by rfl) (.tmp 76) (.tmp 78) 23 (by rfl) wz.heap.size 46 ji (.agg #[.int .i64 0, .int .i64 0]) 2 16 Try.underlying23 jh j0 j1 j2 rfl (by omega) v7 t (xs.take (t * 2)) (by rfl) hown7 ⟨wz.heap.size, 0, none⟩ 1 1 [.int .i64 (-(B : Int) + (i : Int)), .int .i64 ((D : Int) + 1)] (by rfl) (by rfl) hX7 (rq_oneCell _ _) (by have := hmx; omega) (by omega) hb7.size ?_; intro v8 w8 hown8 hg8 hat8; have hb8 := hb7.grown hg8 hb7.size (fun g' hg' => (hown7.lt g' hg').1)))
                            | ((refine step_append_own (by rfl) (.tmp 72) (.tmp 75) 23 (by rfl) wz.heap.size 46 ji (.agg #[.int .i64 0, .int .i64 0]) 2 16 Try.underlying23 jh j0 j1 j2 rfl (by omega) (.slice (some ⟨wz.heap.size, 0, none⟩) 0 0) 0 [] (by rfl) (rq_nilT wz.drew wz.heap.size (Nat.le_refl _)) ⟨g, 0, none⟩ t c3 (xs.take (t * 2)) (by rfl) HTK.out (hs1 _ ((Below.refl _ _).drew.alloc (Nat.le_refl _) _)) (fun u hu => HONE.out u (List.mem_of_mem_take hu)) (by have := hmx; omega) (by omega) (by simp; try omega) ?_; intro v7 w7 hown7 hg7 hat7; have hb7 := ((Below.refl wz.heap.size wz).drew.alloc (Nat.le_refl _) _).grown hg7 (by simp; try omega) (fun g' hg' => (by simp [Value.ownBlock] at hg'; omega)); obtain ⟨k0, k1, _, _⟩ := (BZ.below hb7 BZ.lt).two; rw [Nat.zero_add, List.nil_append] at hown7))
                            | ((refine step_append_own (by rfl) (.tmp 72) (.tmp 75) 23 (by rfl) wz.heap.size 46 ji (.agg #[.int .i64 0, .int .i64 0]) 2 16 Try.underlying23 jh j0 j1 j2 rfl (by omega) (.slice (some ⟨wz.heap.size, 0, none⟩) 0 0) 0 [] (by rfl) (World.ownsRow.alloc (rq_nilT wz.drew wz.heap.size (Nat.le_refl _)) _) ⟨g, 0, none⟩ t c3 (xs.take (t * 2)) (by rfl) HTK.out (hs1 _ (((Below.refl _ _).drew.alloc (Nat.le_refl _) _).alloc (by simp) _)) (fun u hu => HONE.out u (List.mem_of_mem_take hu)) (by have := hmx; omega) (by omega) (by simp; try omega) ?_; intro v7 w7 hown7 hg7 hat7; have hb7 := (((Below.refl wz.heap.size wz).drew.alloc (Nat.le_refl _) _).alloc (by simp) _).grown hg7 (by simp; try omega) (fun g' hg' => (by simp [Value.ownBlock] at hg'; omega)); have hX7 := rq_keep2 hg7; rw [Nat.zero_add, List.nil_append] at hown7))
                            | ((refine step_append_own (by rfl) (.tmp 72) (.tmp 75) 23 (by rfl) wz.heap.size 46 ji (.agg #[.int .i64 0, .int .i64 0]) 2 16 Try.underlying23 jh j0 j1 j2 rfl (by omega) (.slice (some ⟨wz.heap.size + 1, 0, none⟩) 0 0) 0 [] (by rfl) (rq_nil1 wz #[.int .i64 (-(B : Int) + (i : Int)), .int .i64 ((D : Int) + 1)]) ⟨g, 0, none⟩ t c3 (xs.take (t * 2)) (by rfl) HTK.out (hs1 _ (((Below.refl _ _).drew.alloc (Nat.le_refl _) _).alloc (by simp) _)) (fun u hu => HONE.out u (List.mem_of_mem_take hu)) (by have := hmx; omega) (by omega) (by simp; try omega) ?_; intro v7 w7 hown7 hg7 hat7; have hb7 := (((Below.refl wz.heap.size wz).drew.alloc (Nat.le_refl _) _).alloc (by simp) _).grown hg7 (by simp; try omega) (fun g' hg' => (by simp [Value.ownBlock] at hg'; omega)); have hX7 := rq_keep1 hg7; rw [Nat.zero_add, List.nil_append] at hown7)))
                        all_goals
                          have hlen : t + 1 + (m - t) = m + 1 := by omega
                          rw [hlen] at hown9
                          obtain ⟨A9, c9, rfl, _⟩ := own_slice' hown9
                          obtain ⟨g9, rfl, _, _, _⟩ := own_src hown9 (by omega)
                          obtain ⟨ho99, hb99⟩ := HFIN.out _ _ _ hown9 hb9
                          have HO99 := Lib.hid ho99
                          clear hown9 hown8 hown7 hb9 hb8 hb7 hlen hs1 hs3 ho99
                          go_wp2_with (fail)
                          go_roundw
                          case rel => exact ⟨i + 1, m + 1, g9, c9, by omega, by go_num, rfl, HM2.out, HO99.out, hb99⟩
                          case measure => simp [intOf]; omega
            · have hlt5 : ¬ -(B : Int) + (i : Int) ≤ (B : Int) := by omega
              have HIE := Lib.hid (show i = 2 * B + 1 by omega)
              go_wp2_with (go_at_call 59; refine (ha1 _).mono ?_; rintro e w2 ⟨rfl, q4, rfl⟩)
              go_roundw
              case rel =>
                have h := HIE.out
                subst h
                exact ⟨D + 1, m, g, c3, by omega, by go_num, rfl, HM0, HOW, below_drewN hb _⟩
              case measure => simp [intOf]; omega
        · obtain rfl : D = Z := by omega
          have hlt3 : ¬ (D : Int) + 1 ≤ (D : Int) := by omega
          go_wp2_with (go_at_call 59; refine (ha2 _).mono ?_; rintro e w2 ⟨rfl, q2, rfl⟩)
          go_ret
          exact ⟨g, m, c3, rfl, by rw [HM0.out, srtQ_len], HOW.out, below_drewN hb _⟩
end Go.Proofs.Ytglijcdnnaekkaa
