/- Several parts of the proof in one text; each part says what it shows. Nothing is assumed. -/
import Derived.Test.YtglijcdnnaekkaaGreatA273
import Derived.Test.YtglijcdnnaekkaaGreatA173
import Derived.Test.YtglijcdnnaekkaaGreatA174
/- Shares: the reference's shares of a group. -/
namespace Go.Proofs.YtglijcdnnaekkaaGreat
set_option linter.unusedVariables false
set_option linter.unusedSimpArgs false
open Go.RowKit

theorem ctL_new1 {ts : List (List Int)} {i : Nat} (h : hasS (gl ts i) (shO ts i) = false) : ctL ts (i + 1) (shO ts (i + 1)) = (ctL ts i (shO ts i)).take (atS (gl ts i) (shO ts i)) ++ [1] ++ (ctL ts i (shO ts i)).drop (atS (gl ts i) (shO ts i)) := by
  have hat := shI_at' ts i
  have hc : cntT ts i (gl ts i) = 0 := cntT_zero fun j hj e => by
    have := has_iff.2 (shO_mem.2 ⟨j, hj, e⟩)
    rw [h] at this
    cases this
  rw [ctL_more, ctL_gt hat.1, hat.2, hc, ctL_new h]
  have hle := atS_le (gl ts i) (shO ts i)
  have hl : ((ctL ts i (shO ts i)).take (atS (gl ts i) (shO ts i))).length = atS (gl ts i) (shO ts i) := by rw [List.length_take, ctL_len]; omega
  rw [List.append_assoc, List.set_append_right _ _ (by omega), hl, Nat.sub_self, List.append_assoc]
  rfl
theorem bef_cmp {a b : List Int} : bef a b = true ↔ cmpT a b < 0 := (cmpT_bef a b).symm
theorem sh_one (w : World) (v : Value) (x : Int) : ∀ j u, [v, Value.int .i64 x][j]? = some u → (w.alloc (.cells #[v, .int .i64 x] 59)).cell? ((⟨w.heap.size, 0, none⟩ : Addr).add j) = some u := fun j u hj => by
  rw [Go.WideShapes.add_plain, Nat.zero_add, World.cell?_alloc_at (w := w) #[v, .int .i64 x] _ w.heap.size j rfl]
  rcases j with _ | _ | j
  · simpa using hj
  · simpa using hj
  · simp at hj
theorem sh_nilT (w : World) (base : Nat) (h : base ≤ w.heap.size) : (w.alloc (.cells #[] 59)).ownsRow base 59 2 (.slice (some ⟨w.heap.size, 0, none⟩) 0 0) 0 [] :=
  World.ownsRow_lit (base := base) w #[] 0 h (by simp [maxLen]) rfl
theorem sh_nil1 (w : World) (cs : Array Value) : ((w.drew.alloc (.cells cs 59)).alloc (.cells #[] 59)).ownsRow w.heap.size 59 2 (.slice (some ⟨w.heap.size + 1, 0, none⟩) 0 0) 0 [] := by
  have h := sh_nilT (w.drew.alloc (.cells cs 59)) w.heap.size (by simp)
  rwa [World.size_alloc] at h
theorem sh_keep2 {w w7 : World} {v : Value} {x : Int} (hg : ((w.drew.alloc (.cells #[] 59)).alloc (.cells #[v, .int .i64 x] 59)).grownBy w7 (Value.slice (some ⟨w.heap.size, 0, none⟩) 0 0).ownBlock) : ∀ j u, [v, Value.int .i64 x][j]? = some u → w7.cell? ((⟨w.heap.size + 1, 0, none⟩ : Addr).add j) = some u := fun j u hj => by
  have h := sh_one (w.drew.alloc (.cells #[] 59)) v x j u hj
  rw [World.size_alloc] at h
  rw [Go.WideShapes.add_plain] at h ⊢
  exact hg.cell h (by simp [Value.ownBlock])
theorem sh_keep1 {w w7 : World} {v : Value} {x : Int} (hg : ((w.drew.alloc (.cells #[v, .int .i64 x] 59)).alloc (.cells #[] 59)).grownBy w7 (Value.slice (some ⟨w.heap.size + 1, 0, none⟩) 0 0).ownBlock) : ∀ j u, [v, Value.int .i64 x][j]? = some u → w7.cell? ((⟨w.heap.size, 0, none⟩ : Addr).add j) = some u := fun j u hj => by
  have h := sh_one w.drew v x j u hj
  rw [Go.WideShapes.add_plain] at h ⊢
  have h2 : ((w.drew.alloc (.cells #[v, .int .i64 x] 59)).alloc (.cells #[] 59)).cell? ⟨w.heap.size, 0 + j, none⟩ = some u := (World.cell?_alloc_past (w := w.drew.alloc (.cells #[v, .int .i64 x] 59)) _ w.heap.size (0 + j) (by simp)).trans h
  exact hg.cell h2 (by simp [Value.ownBlock])
theorem put1 {vs : List Value} {cs : List Int} {v : Value} {k : Nat} (hl : vs.length = cs.length) (hk : k ≤ vs.length) (x : Int) : (shC vs cs).take (k * 2) ++ [v, .int .i64 x] ++ (shC vs cs).drop (k * 2) = shC (vs.take k ++ [v] ++ vs.drop k) (cs.take k ++ [x] ++ cs.drop k) := by
  rw [shC_take, shC_drop, shC_app (by simp; omega), shC_app (by simp; omega)]
  rfl
set_option maxRecDepth 20000 in
set_option maxHeartbeats 8000000 in
theorem s_shares (n : Nat) (A : Option Addr) (L c : Nat) (l : List Int) (w : World) (hn1 : 1 ≤ n) (hn6 : n ≤ 6) (hL : L = l.length) (hl : L ≤ 720) (hk : InK n l) (hs : IS w w.heap.size A l) :
    Calls Tryz.prog 80 #[.agg #[.int .i64 n, .slice A L c]] w (SHR n l w) := by
  have B0 := BK.new w 26 #[.int .i64 n, .slice A L c]
  obtain ⟨c0, c1, _, _⟩ := B0.two
  have hb0 := (Below.refl w.heap.size w).alloc (Nat.le_refl _) (.cells #[.int .i64 n, .slice A L c] 26)
  have hme := s_elements n A L c l _ hn1 hn6 hL (by omega) hk (hs.call hb0)
  have HL := Lib.hid hL
  have HMR := Lib.hid (fun k (h : k < l.length) => gl_memR hk h)
  have HTY := Lib.hid (fun k (h : k < l.length) => gl_tyM (n := n) h)
  unfold MII at hme
  rw [memL_len, ← hL] at hme
  have HMS := Lib.hid (show L = (memL n l).length by rw [memL_len, hL])
  have HT6 := Lib.hid (show ∀ j, j < L → (gl (tyM n l) j).length ≤ 6 from fun j hj => by
    rw [gl_tyM (by omega), tyS_len]
    have := cycL_len (gl (memL n l) j)
    rw [(gl_memR hk (by omega)).1] at this
    omega)
  unfold SHR
  rw [← hL]
  generalize tyM n l = ts at *
  generalize memL n l = ms at *
  obtain ⟨i0, hi, hy0, hy1, hy2⟩ := info_parts infoSh
  clear hL hk hs B0
  go_enter Tryz.func80, Tryz.ntmps80
  go_wp2_with (fail)
  refine hme.mono ?_
  rintro e w1 ⟨Am, cm, vm, rfl, om, rm, hb1⟩
  have b1 := bel_call hb0 hb1
  have im := OwnII.ii om rm
  have hz1 := b1.size
  clear hme c0 c1 om rm hb0 hb1
  generalize w.alloc (.cells #[.int .i64 n, .slice A L c] 26) = w0 at *
  go_wp2_with (fail)
  go_loopw [4, 5] (fun u4 u5 wr => ∃ (k m g c3 : Nat) (vs : List Value), k ≤ L ∧ u5 = .int .i64 (k : Int) ∧ u4 = .slice (some ⟨g, 0, none⟩) m c3 ∧ Hid (m = (shO ts k).length) ∧ Hid (wr.ownsRow w1.heap.size 59 2 (.slice (some ⟨g, 0, none⟩) m c3) m (shC vs (ctL ts k (shO ts k)))) ∧ Hid (RowsO wr w1.heap.size vs (shO ts k)) ∧ Below w1.heap.size w1 wr) (fun _ u5 _ => L - (intOf u5).toNat)
  case atStart => exact ⟨0, 0, w1.heap.size, 0, [], Nat.zero_le _, rfl, rfl, rfl, sh_nilT w1 _ (Nat.le_refl _), ⟨rfl, fun i hi => by simp at hi, fun i j _ hj => by simp at hj⟩, (Below.refl _ _).alloc (Nat.le_refl _) _⟩
  case round =>
    obtain ⟨ws, rfl⟩ : ∃ ws : World, ws = wr := ⟨_, rfl⟩
    obtain ⟨k, m, g, c3, vs, hkL, rfl, rfl, HM, HOW, HRW, hb⟩ := hrel
    by_cases hlt : k < L
    · have ims := im.below hb
      have hzb := hb.size
      have hkl : k < l.length := by rw [← HL.out]; exact hlt
      obtain ⟨b, off, rfl, hbb, hcell⟩ := ims.at (k := k) (by rw [← HMS.out]; exact hlt)
      obtain ⟨Ar, cr, h1, _, _, i1⟩ := hcell k (by rw [← HMS.out]; exact hlt)
      have hin := HMR.out k hkl
      rw [hin.1] at h1
      have hct := s_l21Type Ar n cr (gl ms k) ws hn1 hn6 hin (i1.more hzb)
      have hty := HTY.out k hkl
      have htl : (cycL (gl ms k)).length = (gl ts k).length := by rw [hty, tyS_len]
      rw [← hty] at hct
      have ht6 := HT6.out k hlt
      generalize (cycL (gl ms k)).length = tl at *
      have HTL := Lib.hid htl
      have htl6 : tl ≤ 6 := by omega
      have hml : m ≤ k := by rw [HM.out]; exact shO_len ts k
      have hrow6 : ∀ j, j < m → (gl (shO ts k) j).length ≤ 6 := fun j hj => by
        obtain ⟨q, hq, e⟩ := shO_mem.1 (gl_mem (ll := shO ts k) (i := j) (by rw [← HM.out]; exact hj))
        rw [← e]
        exact HT6.out q (by omega)
      have HR6 := Lib.hid hrow6
      clear hcell i1 hin hty htl ht6 hrow6
      go_wp2_with (fail)
      refine hct.mono ?_
      rintro e w2 ⟨v, rfl, ov, hb2⟩
      obtain ⟨At, ct, rfl, _⟩ := own_slice' ov
      have ow2 := own_below HOW.out hb2
      have rw2 := HRW.out.below hb2
      have hst := own_isn ov HTL.out
      have b2 := hb.trans (hb2.mono hzb)
      have hz2 := hb2.size
      have hat := atS_le (gl ts k) (shO ts k)
      rw [← HM.out] at hat
      have hw720 : IntKind.i64.wrap (((cntT ts k (gl ts k) : Nat) : Int) + 1) = ((cntT ts k (gl ts k) : Nat) : Int) + 1 := IntWalk.i64_in _ (by have := cntT_le ts k (gl ts k); omega)
      clear hct
      go_wp2_with (fail)
      go_loopw [7] (fun u7 wr => ∃ t : Nat, t ≤ m ∧ u7 = .int .i64 (t : Int) ∧ Hid (∀ j, j < t → cmpT (gl (shO ts k) j) (gl ts k) < 0) ∧ DR w2 wr) (fun u7 _ => m - (intOf u7).toNat)
      case atStart => exact ⟨0, Nat.zero_le _, rfl, fun j hj => by omega, DR.refl _⟩
      case round =>
        obtain ⟨wt, rfl⟩ : ∃ wt : World, wt = wr := ⟨_, rfl⟩
        obtain ⟨t, ht, rfl, HLT, hdr⟩ := hrel
        have otw : wt.ownsRow w1.heap.size 59 2 (.slice (some ⟨g, 0, none⟩) m c3) m (shC vs (ctL ts k (shO ts k))) := by obtain ⟨q, rfl⟩ := hdr; exact ow2
        have rtw : RowsO wt w1.heap.size vs (shO ts k) := by obtain ⟨q, rfl⟩ := hdr; exact rw2.drewN q
        have hstw : IS wt wt.heap.size At (gl ts k) := by obtain ⟨q, rfl⟩ := hdr; exact hst.drewN q
        have bt : Below w1.heap.size w1 wt := by obtain ⟨q, rfl⟩ := hdr; exact below_drewN b2 q
        by_cases htm : t < m
        · obtain ⟨Ah, ch, e1, e2, _, ih⟩ := sh_cell otw rtw HM.out (by rw [ctL_len, ← HM.out]) htm
          have hrl := HR6.out t htm
          have hbf := fun q => s_before Ah At (gl (shO ts k) t).length ch tl ct (gl (shO ts k) t) (gl ts k) (wt.drewN q) wt.heap.size wt.heap.size rfl HTL.out (by omega) (by omega) (ih.drewN q) (hstw.drewN q)
          have hbw := s_before Ah At (gl (shO ts k) t).length ch tl ct (gl (shO ts k) t) (gl ts k) wt wt.heap.size wt.heap.size rfl HTL.out (by omega) (by omega) ih hstw
          have hsm := fun q => s_same Ah At (gl (shO ts k) t).length ch tl ct (gl (shO ts k) t) (gl ts k) (wt.drewN q) wt.heap.size wt.heap.size rfl HTL.out (by omega) (by omega) (ih.drewN q) (hstw.drewN q)
          cases hbe : bef (gl (shO ts k) t) (gl ts k)
          · rw [hbe] at hbw
            have hge : ¬ cmpT (gl (shO ts k) t) (gl ts k) < 0 := fun h => by rw [bef_cmp.2 h] at hbe; cases hbe
            have HAT := Lib.hid (show t = atS (gl ts k) (shO ts k) from atS_unique (by rw [← HM.out]; exact ht) HLT.out (fun _ => hge))
            have hhs : hasS (gl ts k) (shO ts k) = decide (gl (shO ts k) t = gl ts k) := by
              unfold hasS
              rw [← HAT.out, ← HM.out]
              by_cases e : gl (shO ts k) t = gl ts k
              · rw [decide_eq_true e, decide_eq_true ⟨htm, e⟩]
              · rw [decide_eq_false e, decide_eq_false (fun h => e h.2)]
            rw [← hhs] at hsm
            clear hge hbf hbe hhs
            cases hf : hasS (gl ts k) (shO ts k)
            · rw [hf] at hsm
              have HNO := Lib.hid hf
              clear hf
              generalize hG : (gl (shO ts k) t).length = gh at *
              clear hG
              go_upto_region 12 with (first
                | (go_at_call 85; refine hbw.mono ?_; rintro e w4 ⟨rfl, q4, rfl⟩)
                | (go_at_call 99; refine (hsm _).mono ?_; rintro e w5 ⟨rfl, q5, rfl⟩))
              clear hbw hsm e1 e2 otw rtw hstw bt ih
              have hdz : DR w2 (wt.drewN (q4 + q5)) := by repeat (first | exact hdr | refine DR.step ?_ _)
              generalize hwz : wt.drewN (q4 + q5) = wz at *
              clear hwz
              have hoT : wz.ownsRow w1.heap.size 59 2 (.slice (some ⟨g, 0, none⟩) m c3) m (shC vs (ctL ts k (shO ts k))) := by obtain ⟨q, rfl⟩ := hdz; exact ow2
              have hrT : RowsO wz w1.heap.size vs (shO ts k) := by obtain ⟨q, rfl⟩ := hdz; exact rw2.drewN q
              have hbT : Below w1.heap.size w1 wz := by obtain ⟨q, rfl⟩ := hdz; exact below_drewN b2 q
              have hvT : wz.ownsRow ws.heap.size 2 1 (.slice At tl ct) tl (ints (gl ts k)) := by obtain ⟨q, rfl⟩ := hdz; exact own_dr ov q
              have hzT : w1.heap.size ≤ wz.heap.size := hbT.size
              have hvl : vs.length = m := hrT.1.trans HM.out.symm
              have hcl : (ctL ts k (shO ts k)).length = m := by rw [ctL_len, ← HM.out]
              have HM2 := Lib.hid (show m + 1 = (shO ts (k + 1)).length by
                rw [shO_new HNO.out]; simp only [List.length_append, List.length_take, List.length_drop, List.length_singleton, ← HM.out]; omega)
              have HFIN := Lib.hid (show ∀ A9 c9 w9, w9.ownsRow wz.heap.size 59 2 (.slice A9 (m + 1) c9) (m + 1) ((shC vs (ctL ts k (shO ts k))).take (t * 2) ++ [.slice At tl ct, .int .i64 1] ++ (shC vs (ctL ts k (shO ts k))).drop (t * 2)) → Below wz.heap.size wz w9 → w9.ownsRow w1.heap.size 59 2 (.slice A9 (m + 1) c9) (m + 1) (shC (vs.take t ++ [.slice At tl ct] ++ vs.drop t) (ctL ts (k + 1) (shO ts (k + 1)))) ∧ RowsO w9 w1.heap.size (vs.take t ++ [.slice At tl ct] ++ vs.drop t) (shO ts (k + 1)) ∧ Below w1.heap.size w1 w9 from fun A9 c9 w9 ho9 hb9 => by
                have e1 := ctL_new1 HNO.out
                have e2 := shO_new HNO.out
                rw [← HAT.out] at e1 e2
                rw [put1 (by omega) (by omega), ← e1] at ho9
                refine ⟨own_mono ho9 hzT, ?_, hbT.trans (hb9.mono hzT)⟩
                rw [e2]
                exact (rows_ins hrT (by unfold OwnI; rw [← HTL.out]; exact own_mono hvT hzb) (fresh_ne HRW.out (fun x hx => (hvT.lt x hx).1)) (by rw [← HM.out]; exact ht)).below hb9)
              have HONE := Lib.hid (shC_one (cs := ctL ts k (shO ts k)) (rows_one hrT))
              have hcap : m ≤ c3 := by
                obtain ⟨A', c', he, h⟩ := own_slice' hoT
                injection he with _ _ he
                omega
              have hxl : (shC vs (ctL ts k (shO ts k))).length = m * 2 := hoT.1
              generalize hX : shC vs (ctL ts k (shO ts k)) = xs at *
              have HTK := Lib.hid (show (xs.take (t * 2)).length = t * 2 by rw [List.length_take, hxl]; omega)
              have HDP := Lib.hid (show (xs.drop (t * 2)).length = (m - t) * 2 by rw [List.length_drop, hxl]; omega)
              have hsB : ∀ W : World, Below wz.heap.size wz W → ∀ j u, xs[j]? = some u → W.cell? ⟨g, j, none⟩ = some u := fun W hW j u hj => by
                have h9 := World.ownsRow.cells (own_below hoT hW) (g := g) rfl j u hj
                rw [Go.WideShapes.add_plain] at h9
                simpa using h9
              have hs1 : ∀ W : World, Below wz.heap.size wz W → ∀ j u, (xs.take (t * 2))[j]? = some u → W.cell? ((⟨g, 0, none⟩ : Addr).add j) = some u := fun W hW j u hj => by
                rw [Go.WideShapes.add_plain, Nat.zero_add]
                rw [List.getElem?_take] at hj
                split at hj
                · exact hsB W hW j u hj
                · cases hj
              have p1 : t ≤ c3 := by omega
              have p2 : (t : Int) ≤ (c3 : Int) := by omega
              have p3 : (t : Int) ≤ (m : Int) := by omega
              have hmx : m + 1 ≤ maxLen := by simp only [maxLen]; omega
              clear hvT hrT hX hxl hvl hcl ow2 rw2 hst ov
              by_cases hca : c3 = t
              · have hmt : m = t := by omega
                have hs3 : ∀ W : World, Below wz.heap.size wz W → ∀ j u, (xs.drop (t * 2))[j]? = some u → W.cell? ((⟨g, 0, none⟩ : Addr).add j) = some u := fun W hW j u hj => by
                  rw [List.getElem?_eq_none (by rw [HDP.out]; omega)] at hj; cases hj
                subst hca
                subst hmt
                clear hsB hoT
                go_region_law
                  (first
                    | ((refine step_append_own (by rfl) (.tmp 66) (.tmp 69) 47 (by rfl) wz.heap.size 59 i0 (.agg #[.slice none 0 0, .int .i64 0]) 2 32 Tryz.underlying47 hi hy0 hy1 hy2 rfl (by omega) v8 (m + 1) (xs.take (m * 2) ++ [.slice At tl ct, .int .i64 1]) (by rfl) hown8 ⟨g, 0, none⟩ 0 0 (xs.drop (m * 2)) (by rfl) (by rw [HDP.out]; omega) (hs3 _ hb8) (fun u hu => HONE.out u (List.mem_of_mem_drop hu)) (by have := hmx; omega) (by omega) hb8.size ?_; intro v9 w9 hown9 hg9 hat9; have hb9 := hb8.grown hg9 hb8.size (fun g' hg' => (hown8.lt g' hg').1)))
                    | ((refine step_append_own (by rfl) (.tmp 62) (.tmp 65) 47 (by rfl) wz.heap.size 59 i0 (.agg #[.slice none 0 0, .int .i64 0]) 2 32 Tryz.underlying47 hi hy0 hy1 hy2 rfl (by omega) v7 m (xs.take (m * 2)) (by rfl) (World.ownsRow.alloc hown7 _) ⟨w7.heap.size, 0, none⟩ 1 1 [.slice At tl ct, .int .i64 1] (by rfl) (by rfl) (fun j u hj => sh_one w7 (.slice At tl ct) 1 j u hj) (by intro u hu; simp at hu; rcases hu with rfl | rfl <;> rfl) (by have := hmx; omega) (by omega) (by have := hb7.size; simp; omega) ?_; intro v8 w8 hown8 hg8 hat8; have hb8 := (hb7.alloc hb7.size _).grown hg8 (by have := hb7.size; simp; omega) (fun g' hg' => (hown7.lt g' hg').1)))
                    | ((refine step_append_own (by rfl) (.tmp 62) (.tmp 65) 47 (by rfl) wz.heap.size 59 i0 (.agg #[.slice none 0 0, .int .i64 0]) 2 32 Tryz.underlying47 hi hy0 hy1 hy2 rfl (by omega) v7 m (xs.take (m * 2)) (by rfl) hown7 ⟨wz.heap.size + 1, 0, none⟩ 1 1 [.slice At tl ct, .int .i64 1] (by rfl) (by rfl) hX7 (by intro u hu; simp at hu; rcases hu with rfl | rfl <;> rfl) (by have := hmx; omega) (by omega) hb7.size ?_; intro v8 w8 hown8 hg8 hat8; have hb8 := hb7.grown hg8 hb7.size (fun g' hg' => (hown7.lt g' hg').1)))
                    | ((refine step_append_own (by rfl) (.tmp 62) (.tmp 65) 47 (by rfl) wz.heap.size 59 i0 (.agg #[.slice none 0 0, .int .i64 0]) 2 32 Tryz.underlying47 hi hy0 hy1 hy2 rfl (by omega) v7 m (xs.take (m * 2)) (by rfl) hown7 ⟨wz.heap.size, 0, none⟩ 1 1 [.slice At tl ct, .int .i64 1] (by rfl) (by rfl) hX7 (by intro u hu; simp at hu; rcases hu with rfl | rfl <;> rfl) (by have := hmx; omega) (by omega) hb7.size ?_; intro v8 w8 hown8 hg8 hat8; have hb8 := hb7.grown hg8 hb7.size (fun g' hg' => (hown7.lt g' hg').1)))
                    | ((refine step_append_own (by rfl) (.tmp 58) (.tmp 61) 47 (by rfl) wz.heap.size 59 i0 (.agg #[.slice none 0 0, .int .i64 0]) 2 32 Tryz.underlying47 hi hy0 hy1 hy2 rfl (by omega) (.slice (some ⟨wz.heap.size, 0, none⟩) 0 0) 0 [] (by rfl) (sh_nilT wz.drew wz.heap.size (Nat.le_refl _)) ⟨g, 0, none⟩ m m (xs.take (m * 2)) (by rfl) HTK.out (hs1 _ ((Below.refl _ _).drew.alloc (Nat.le_refl _) _)) (fun u hu => HONE.out u (List.mem_of_mem_take hu)) (by have := hmx; omega) (by omega) (by simp; try omega) ?_; intro v7 w7 hown7 hg7 hat7; have hb7 := ((Below.refl wz.heap.size wz).drew.alloc (Nat.le_refl _) _).grown hg7 (by simp; try omega) (fun g' hg' => (by simp [Value.ownBlock] at hg'; omega)); rw [Nat.zero_add, List.nil_append] at hown7))
                    | ((refine step_append_own (by rfl) (.tmp 58) (.tmp 61) 47 (by rfl) wz.heap.size 59 i0 (.agg #[.slice none 0 0, .int .i64 0]) 2 32 Tryz.underlying47 hi hy0 hy1 hy2 rfl (by omega) (.slice (some ⟨wz.heap.size, 0, none⟩) 0 0) 0 [] (by rfl) (World.ownsRow.alloc (sh_nilT wz.drew wz.heap.size (Nat.le_refl _)) _) ⟨g, 0, none⟩ m m (xs.take (m * 2)) (by rfl) HTK.out (hs1 _ (((Below.refl _ _).drew.alloc (Nat.le_refl _) _).alloc (by simp) _)) (fun u hu => HONE.out u (List.mem_of_mem_take hu)) (by have := hmx; omega) (by omega) (by simp; try omega) ?_; intro v7 w7 hown7 hg7 hat7; have hb7 := (((Below.refl wz.heap.size wz).drew.alloc (Nat.le_refl _) _).alloc (by simp) _).grown hg7 (by simp; try omega) (fun g' hg' => (by simp [Value.ownBlock] at hg'; omega)); have hX7 := sh_keep2 hg7; rw [Nat.zero_add, List.nil_append] at hown7))
                    | ((refine step_append_own (by rfl) (.tmp 58) (.tmp 61) 47 (by rfl) wz.heap.size 59 i0 (.agg #[.slice none 0 0, .int .i64 0]) 2 32 Tryz.underlying47 hi hy0 hy1 hy2 rfl (by omega) (.slice (some ⟨wz.heap.size + 1, 0, none⟩) 0 0) 0 [] (by rfl) (sh_nil1 wz #[.slice At tl ct, .int .i64 1]) ⟨g, 0, none⟩ m m (xs.take (m * 2)) (by rfl) HTK.out (hs1 _ (((Below.refl _ _).drew.alloc (Nat.le_refl _) _).alloc (by simp) _)) (fun u hu => HONE.out u (List.mem_of_mem_take hu)) (by have := hmx; omega) (by omega) (by simp; try omega) ?_; intro v7 w7 hown7 hg7 hat7; have hb7 := (((Below.refl wz.heap.size wz).drew.alloc (Nat.le_refl _) _).alloc (by simp) _).grown hg7 (by simp; try omega) (fun g' hg' => (by simp [Value.ownBlock] at hg'; omega)); have hX7 := sh_keep1 hg7; rw [Nat.zero_add, List.nil_append] at hown7)))
                all_goals
                  have hlen : m + 1 + 0 = m + 1 := by omega
                  rw [hlen] at hown9
                  obtain ⟨A9, c9, rfl, _⟩ := own_slice' hown9
                  obtain ⟨g9, rfl, _, _, _⟩ := own_src hown9 (by omega)
                  obtain ⟨ho99, hr99, hb99⟩ := HFIN.out _ _ _ hown9 hb9
                  have HO99 := Lib.hid ho99
                  have HR99 := Lib.hid hr99
                  clear hown9 hown8 hown7 hb9 hb8 hb7 hlen hs1 hs3 ho99 hr99
                  go_wp2_with (fail)
                  go_roundw
                  case rel => exact ⟨k + 1, m + 1, g9, c9, _, by omega, by go_num, rfl, HM2.out, HO99.out, HR99.out, hb99⟩
                  case measure => simp [intOf]; omega
              · have hs3 : ∀ W : World, Below wz.heap.size wz W → ∀ j u, (xs.drop (t * 2))[j]? = some u → W.cell? ((⟨g, t * 2, none⟩ : Addr).add j) = some u := fun W hW j u hj => by
                  rw [Go.WideShapes.add_plain]
                  rw [List.getElem?_drop] at hj
                  exact hsB W hW (t * 2 + j) u hj
                clear hsB hoT
                go_region_law
                  (first
                    | ((refine step_append_own (by rfl) (.tmp 66) (.tmp 69) 47 (by rfl) wz.heap.size 59 i0 (.agg #[.slice none 0 0, .int .i64 0]) 2 32 Tryz.underlying47 hi hy0 hy1 hy2 rfl (by omega) v8 (t + 1) (xs.take (t * 2) ++ [.slice At tl ct, .int .i64 1]) (by rfl) hown8 ⟨g, t * 2, none⟩ (m - t) (c3 - t) (xs.drop (t * 2)) (by rfl) HDP.out (hs3 _ hb8) (fun u hu => HONE.out u (List.mem_of_mem_drop hu)) (by have := hmx; omega) (by omega) hb8.size ?_; intro v9 w9 hown9 hg9 hat9; have hb9 := hb8.grown hg9 hb8.size (fun g' hg' => (hown8.lt g' hg').1)))
                    | ((refine step_append_own (by rfl) (.tmp 62) (.tmp 65) 47 (by rfl) wz.heap.size 59 i0 (.agg #[.slice none 0 0, .int .i64 0]) 2 32 Tryz.underlying47 hi hy0 hy1 hy2 rfl (by omega) v7 t (xs.take (t * 2)) (by rfl) (World.ownsRow.alloc hown7 _) ⟨w7.heap.size, 0, none⟩ 1 1 [.slice At tl ct, .int .i64 1] (by rfl) (by rfl) (fun j u hj => sh_one w7 (.slice At tl ct) 1 j u hj) (by intro u hu; simp at hu; rcases hu with rfl | rfl <;> rfl) (by have := hmx; omega) (by omega) (by have := hb7.size; simp; omega) ?_; intro v8 w8 hown8 hg8 hat8; have hb8 := (hb7.alloc hb7.size _).grown hg8 (by have := hb7.size; simp; omega) (fun g' hg' => (hown7.lt g' hg').1)))
                    | ((refine step_append_own (by rfl) (.tmp 62) (.tmp 65) 47 (by rfl) wz.heap.size 59 i0 (.agg #[.slice none 0 0, .int .i64 0]) 2 32 Tryz.underlying47 hi hy0 hy1 hy2 rfl (by omega) v7 t (xs.take (t * 2)) (by rfl) hown7 ⟨wz.heap.size + 1, 0, none⟩ 1 1 [.slice At tl ct, .int .i64 1] (by rfl) (by rfl) hX7 (by intro u hu; simp at hu; rcases hu with rfl | rfl <;> rfl) (by have := hmx; omega) (by omega) hb7.size ?_; intro v8 w8 hown8 hg8 hat8; have hb8 := hb7.grown hg8 hb7.size (fun g' hg' => (hown7.lt g' hg').1)))
                    | ((refine step_append_own (by rfl) (.tmp 62) (.tmp 65) 47 (by rfl) wz.heap.size 59 i0 (.agg #[.slice none 0 0, .int .i64 0]) 2 32 Tryz.underlying47 hi hy0 hy1 hy2 rfl (by omega) v7 t (xs.take (t * 2)) (by rfl) hown7 ⟨wz.heap.size, 0, none⟩ 1 1 [.slice At tl ct, .int .i64 1] (by rfl) (by rfl) hX7 (by intro u hu; simp at hu; rcases hu with rfl | rfl <;> rfl) (by have := hmx; omega) (by omega) hb7.size ?_; intro v8 w8 hown8 hg8 hat8; have hb8 := hb7.grown hg8 hb7.size (fun g' hg' => (hown7.lt g' hg').1)))
                    | ((refine step_append_own (by rfl) (.tmp 58) (.tmp 61) 47 (by rfl) wz.heap.size 59 i0 (.agg #[.slice none 0 0, .int .i64 0]) 2 32 Tryz.underlying47 hi hy0 hy1 hy2 rfl (by omega) (.slice (some ⟨wz.heap.size, 0, none⟩) 0 0) 0 [] (by rfl) (sh_nilT wz.drew wz.heap.size (Nat.le_refl _)) ⟨g, 0, none⟩ t c3 (xs.take (t * 2)) (by rfl) HTK.out (hs1 _ ((Below.refl _ _).drew.alloc (Nat.le_refl _) _)) (fun u hu => HONE.out u (List.mem_of_mem_take hu)) (by have := hmx; omega) (by omega) (by simp; try omega) ?_; intro v7 w7 hown7 hg7 hat7; have hb7 := ((Below.refl wz.heap.size wz).drew.alloc (Nat.le_refl _) _).grown hg7 (by simp; try omega) (fun g' hg' => (by simp [Value.ownBlock] at hg'; omega)); rw [Nat.zero_add, List.nil_append] at hown7))
                    | ((refine step_append_own (by rfl) (.tmp 58) (.tmp 61) 47 (by rfl) wz.heap.size 59 i0 (.agg #[.slice none 0 0, .int .i64 0]) 2 32 Tryz.underlying47 hi hy0 hy1 hy2 rfl (by omega) (.slice (some ⟨wz.heap.size, 0, none⟩) 0 0) 0 [] (by rfl) (World.ownsRow.alloc (sh_nilT wz.drew wz.heap.size (Nat.le_refl _)) _) ⟨g, 0, none⟩ t c3 (xs.take (t * 2)) (by rfl) HTK.out (hs1 _ (((Below.refl _ _).drew.alloc (Nat.le_refl _) _).alloc (by simp) _)) (fun u hu => HONE.out u (List.mem_of_mem_take hu)) (by have := hmx; omega) (by omega) (by simp; try omega) ?_; intro v7 w7 hown7 hg7 hat7; have hb7 := (((Below.refl wz.heap.size wz).drew.alloc (Nat.le_refl _) _).alloc (by simp) _).grown hg7 (by simp; try omega) (fun g' hg' => (by simp [Value.ownBlock] at hg'; omega)); have hX7 := sh_keep2 hg7; rw [Nat.zero_add, List.nil_append] at hown7))
                    | ((refine step_append_own (by rfl) (.tmp 58) (.tmp 61) 47 (by rfl) wz.heap.size 59 i0 (.agg #[.slice none 0 0, .int .i64 0]) 2 32 Tryz.underlying47 hi hy0 hy1 hy2 rfl (by omega) (.slice (some ⟨wz.heap.size + 1, 0, none⟩) 0 0) 0 [] (by rfl) (sh_nil1 wz #[.slice At tl ct, .int .i64 1]) ⟨g, 0, none⟩ t c3 (xs.take (t * 2)) (by rfl) HTK.out (hs1 _ (((Below.refl _ _).drew.alloc (Nat.le_refl _) _).alloc (by simp) _)) (fun u hu => HONE.out u (List.mem_of_mem_take hu)) (by have := hmx; omega) (by omega) (by simp; try omega) ?_; intro v7 w7 hown7 hg7 hat7; have hb7 := (((Below.refl wz.heap.size wz).drew.alloc (Nat.le_refl _) _).alloc (by simp) _).grown hg7 (by simp; try omega) (fun g' hg' => (by simp [Value.ownBlock] at hg'; omega)); have hX7 := sh_keep1 hg7; rw [Nat.zero_add, List.nil_append] at hown7)))
                all_goals
                  have hlen : t + 1 + (m - t) = m + 1 := by omega
                  rw [hlen] at hown9
                  obtain ⟨A9, c9, rfl, _⟩ := own_slice' hown9
                  obtain ⟨g9, rfl, _, _, _⟩ := own_src hown9 (by omega)
                  obtain ⟨ho99, hr99, hb99⟩ := HFIN.out _ _ _ hown9 hb9
                  have HO99 := Lib.hid ho99
                  have HR99 := Lib.hid hr99
                  clear hown9 hown8 hown7 hb9 hb8 hb7 hlen hs1 hs3 ho99 hr99
                  go_wp2_with (fail)
                  go_roundw
                  case rel => exact ⟨k + 1, m + 1, g9, c9, _, by omega, by go_num, rfl, HM2.out, HO99.out, HR99.out, hb99⟩
                  case measure => simp [intOf]; omega
            · rw [hf] at hsm
              have e1' := shO_has hf
              rw [← e1'] at otw rtw
              have HM2 := Lib.hid (show m = (shO ts (k + 1)).length by rw [e1']; exact HM.out)
              have hff := fun q => sh_fin HM2.out (own_dr otw q) (rtw.drewN q) (below_drewN bt q) (by have := bt.size; exact this)
              rw [← HAT.out] at hff
              generalize hG : (gl (shO ts k) t).length = gh at *
              have HFF := Lib.hid hff
              obtain ⟨_, f2, f3, _⟩ := hff 0
              clear hG hff hf e1'
              generalize cntT ts k (gl ts k) = y at *
              go_wp2_with (first
                | (go_at_call 85; refine hbw.mono ?_; rintro e w4 ⟨rfl, q4, rfl⟩)
                | (go_at_call 99; refine (hsm _).mono ?_; rintro e w5 ⟨rfl, q5, rfl⟩; obtain ⟨_, k2, k3, k4, k5, k6⟩ := HFF.out (q4 + q5); have K4 := Lib.hid k4; have K5 := Lib.hid k5; clear k4 k5))
              go_roundw
              case rel => exact ⟨k + 1, m, g, c3, _, by omega, by go_num, rfl, HM2.out, K4.out, K5.out, k6⟩
              case measure => simp [intOf]; omega
          · rw [hbe] at hbw
            have HLT2 := Lib.hid (show ∀ j, j < t + 1 → cmpT (gl (shO ts k) j) (gl ts k) < 0 from fun j hj => by
              by_cases e : j = t
              · subst e; exact bef_cmp.1 hbe
              · exact HLT.out j (by omega))
            generalize hG : (gl (shO ts k) t).length = gh at *
            clear hbf hbe hsm hG
            go_wp2_with (go_at_call 85; refine hbw.mono ?_; rintro e w4 ⟨rfl, q4, rfl⟩)
            go_roundw
            case rel => exact ⟨t + 1, by omega, by go_num, HLT2.out, by repeat (first | exact hdr | refine DR.step ?_ _)⟩
            case measure => simp [intOf]; omega
        · have HAT := Lib.hid (show t = atS (gl ts k) (shO ts k) from atS_unique (by rw [← HM.out]; exact ht) HLT.out (fun h => absurd h (by rw [← HM.out]; exact htm)))
          have HNO := Lib.hid (show hasS (gl ts k) (shO ts k) = false by
            unfold hasS
            rw [decide_eq_false_iff_not]
            rintro ⟨h, _⟩
            rw [← HAT.out, ← HM.out] at h
            exact htm h)
          go_upto_region 12 with (fail)
          clear otw rtw hstw bt
          have hdz : DR w2 (wt) := by repeat (first | exact hdr | refine DR.step ?_ _)
          generalize hwz : wt = wz at *
          clear hwz
          have hoT : wz.ownsRow w1.heap.size 59 2 (.slice (some ⟨g, 0, none⟩) m c3) m (shC vs (ctL ts k (shO ts k))) := by obtain ⟨q, rfl⟩ := hdz; exact ow2
          have hrT : RowsO wz w1.heap.size vs (shO ts k) := by obtain ⟨q, rfl⟩ := hdz; exact rw2.drewN q
          have hbT : Below w1.heap.size w1 wz := by obtain ⟨q, rfl⟩ := hdz; exact below_drewN b2 q
          have hvT : wz.ownsRow ws.heap.size 2 1 (.slice At tl ct) tl (ints (gl ts k)) := by obtain ⟨q, rfl⟩ := hdz; exact own_dr ov q
          have hzT : w1.heap.size ≤ wz.heap.size := hbT.size
          have hvl : vs.length = m := hrT.1.trans HM.out.symm
          have hcl : (ctL ts k (shO ts k)).length = m := by rw [ctL_len, ← HM.out]
          have HM2 := Lib.hid (show m + 1 = (shO ts (k + 1)).length by
            rw [shO_new HNO.out]; simp only [List.length_append, List.length_take, List.length_drop, List.length_singleton, ← HM.out]; omega)
          have HFIN := Lib.hid (show ∀ A9 c9 w9, w9.ownsRow wz.heap.size 59 2 (.slice A9 (m + 1) c9) (m + 1) ((shC vs (ctL ts k (shO ts k))).take (t * 2) ++ [.slice At tl ct, .int .i64 1] ++ (shC vs (ctL ts k (shO ts k))).drop (t * 2)) → Below wz.heap.size wz w9 → w9.ownsRow w1.heap.size 59 2 (.slice A9 (m + 1) c9) (m + 1) (shC (vs.take t ++ [.slice At tl ct] ++ vs.drop t) (ctL ts (k + 1) (shO ts (k + 1)))) ∧ RowsO w9 w1.heap.size (vs.take t ++ [.slice At tl ct] ++ vs.drop t) (shO ts (k + 1)) ∧ Below w1.heap.size w1 w9 from fun A9 c9 w9 ho9 hb9 => by
            have e1 := ctL_new1 HNO.out
            have e2 := shO_new HNO.out
            rw [← HAT.out] at e1 e2
            rw [put1 (by omega) (by omega), ← e1] at ho9
            refine ⟨own_mono ho9 hzT, ?_, hbT.trans (hb9.mono hzT)⟩
            rw [e2]
            exact (rows_ins hrT (by unfold OwnI; rw [← HTL.out]; exact own_mono hvT hzb) (fresh_ne HRW.out (fun x hx => (hvT.lt x hx).1)) (by rw [← HM.out]; exact ht)).below hb9)
          have HONE := Lib.hid (shC_one (cs := ctL ts k (shO ts k)) (rows_one hrT))
          have hcap : m ≤ c3 := by
            obtain ⟨A', c', he, h⟩ := own_slice' hoT
            injection he with _ _ he
            omega
          have hxl : (shC vs (ctL ts k (shO ts k))).length = m * 2 := hoT.1
          generalize hX : shC vs (ctL ts k (shO ts k)) = xs at *
          have HTK := Lib.hid (show (xs.take (t * 2)).length = t * 2 by rw [List.length_take, hxl]; omega)
          have HDP := Lib.hid (show (xs.drop (t * 2)).length = (m - t) * 2 by rw [List.length_drop, hxl]; omega)
          have hsB : ∀ W : World, Below wz.heap.size wz W → ∀ j u, xs[j]? = some u → W.cell? ⟨g, j, none⟩ = some u := fun W hW j u hj => by
            have h9 := World.ownsRow.cells (own_below hoT hW) (g := g) rfl j u hj
            rw [Go.WideShapes.add_plain] at h9
            simpa using h9
          have hs1 : ∀ W : World, Below wz.heap.size wz W → ∀ j u, (xs.take (t * 2))[j]? = some u → W.cell? ((⟨g, 0, none⟩ : Addr).add j) = some u := fun W hW j u hj => by
            rw [Go.WideShapes.add_plain, Nat.zero_add]
            rw [List.getElem?_take] at hj
            split at hj
            · exact hsB W hW j u hj
            · cases hj
          have p1 : t ≤ c3 := by omega
          have p2 : (t : Int) ≤ (c3 : Int) := by omega
          have p3 : (t : Int) ≤ (m : Int) := by omega
          have hmx : m + 1 ≤ maxLen := by simp only [maxLen]; omega
          clear hvT hrT hX hxl hvl hcl ow2 rw2 hst ov
          by_cases hca : c3 = t
          · have hmt : m = t := by omega
            have hs3 : ∀ W : World, Below wz.heap.size wz W → ∀ j u, (xs.drop (t * 2))[j]? = some u → W.cell? ((⟨g, 0, none⟩ : Addr).add j) = some u := fun W hW j u hj => by
              rw [List.getElem?_eq_none (by rw [HDP.out]; omega)] at hj; cases hj
            subst hca
            subst hmt
            clear hsB hoT
            go_region_law
              (first
                | ((refine step_append_own (by rfl) (.tmp 66) (.tmp 69) 47 (by rfl) wz.heap.size 59 i0 (.agg #[.slice none 0 0, .int .i64 0]) 2 32 Tryz.underlying47 hi hy0 hy1 hy2 rfl (by omega) v8 (m + 1) (xs.take (m * 2) ++ [.slice At tl ct, .int .i64 1]) (by rfl) hown8 ⟨g, 0, none⟩ 0 0 (xs.drop (m * 2)) (by rfl) (by rw [HDP.out]; omega) (hs3 _ hb8) (fun u hu => HONE.out u (List.mem_of_mem_drop hu)) (by have := hmx; omega) (by omega) hb8.size ?_; intro v9 w9 hown9 hg9 hat9; have hb9 := hb8.grown hg9 hb8.size (fun g' hg' => (hown8.lt g' hg').1)))
                | ((refine step_append_own (by rfl) (.tmp 62) (.tmp 65) 47 (by rfl) wz.heap.size 59 i0 (.agg #[.slice none 0 0, .int .i64 0]) 2 32 Tryz.underlying47 hi hy0 hy1 hy2 rfl (by omega) v7 m (xs.take (m * 2)) (by rfl) (World.ownsRow.alloc hown7 _) ⟨w7.heap.size, 0, none⟩ 1 1 [.slice At tl ct, .int .i64 1] (by rfl) (by rfl) (fun j u hj => sh_one w7 (.slice At tl ct) 1 j u hj) (by intro u hu; simp at hu; rcases hu with rfl | rfl <;> rfl) (by have := hmx; omega) (by omega) (by have := hb7.size; simp; omega) ?_; intro v8 w8 hown8 hg8 hat8; have hb8 := (hb7.alloc hb7.size _).grown hg8 (by have := hb7.size; simp; omega) (fun g' hg' => (hown7.lt g' hg').1)))
                | ((refine step_append_own (by rfl) (.tmp 62) (.tmp 65) 47 (by rfl) wz.heap.size 59 i0 (.agg #[.slice none 0 0, .int .i64 0]) 2 32 Tryz.underlying47 hi hy0 hy1 hy2 rfl (by omega) v7 m (xs.take (m * 2)) (by rfl) hown7 ⟨wz.heap.size + 1, 0, none⟩ 1 1 [.slice At tl ct, .int .i64 1] (by rfl) (by rfl) hX7 (by intro u hu; simp at hu; rcases hu with rfl | rfl <;> rfl) (by have := hmx; omega) (by omega) hb7.size ?_; intro v8 w8 hown8 hg8 hat8; have hb8 := hb7.grown hg8 hb7.size (fun g' hg' => (hown7.lt g' hg').1)))
                | ((refine step_append_own (by rfl) (.tmp 62) (.tmp 65) 47 (by rfl) wz.heap.size 59 i0 (.agg #[.slice none 0 0, .int .i64 0]) 2 32 Tryz.underlying47 hi hy0 hy1 hy2 rfl (by omega) v7 m (xs.take (m * 2)) (by rfl) hown7 ⟨wz.heap.size, 0, none⟩ 1 1 [.slice At tl ct, .int .i64 1] (by rfl) (by rfl) hX7 (by intro u hu; simp at hu; rcases hu with rfl | rfl <;> rfl) (by have := hmx; omega) (by omega) hb7.size ?_; intro v8 w8 hown8 hg8 hat8; have hb8 := hb7.grown hg8 hb7.size (fun g' hg' => (hown7.lt g' hg').1)))
                | ((refine step_append_own (by rfl) (.tmp 58) (.tmp 61) 47 (by rfl) wz.heap.size 59 i0 (.agg #[.slice none 0 0, .int .i64 0]) 2 32 Tryz.underlying47 hi hy0 hy1 hy2 rfl (by omega) (.slice (some ⟨wz.heap.size, 0, none⟩) 0 0) 0 [] (by rfl) (sh_nilT wz.drew wz.heap.size (Nat.le_refl _)) ⟨g, 0, none⟩ m m (xs.take (m * 2)) (by rfl) HTK.out (hs1 _ ((Below.refl _ _).drew.alloc (Nat.le_refl _) _)) (fun u hu => HONE.out u (List.mem_of_mem_take hu)) (by have := hmx; omega) (by omega) (by simp; try omega) ?_; intro v7 w7 hown7 hg7 hat7; have hb7 := ((Below.refl wz.heap.size wz).drew.alloc (Nat.le_refl _) _).grown hg7 (by simp; try omega) (fun g' hg' => (by simp [Value.ownBlock] at hg'; omega)); rw [Nat.zero_add, List.nil_append] at hown7))
                | ((refine step_append_own (by rfl) (.tmp 58) (.tmp 61) 47 (by rfl) wz.heap.size 59 i0 (.agg #[.slice none 0 0, .int .i64 0]) 2 32 Tryz.underlying47 hi hy0 hy1 hy2 rfl (by omega) (.slice (some ⟨wz.heap.size, 0, none⟩) 0 0) 0 [] (by rfl) (World.ownsRow.alloc (sh_nilT wz.drew wz.heap.size (Nat.le_refl _)) _) ⟨g, 0, none⟩ m m (xs.take (m * 2)) (by rfl) HTK.out (hs1 _ (((Below.refl _ _).drew.alloc (Nat.le_refl _) _).alloc (by simp) _)) (fun u hu => HONE.out u (List.mem_of_mem_take hu)) (by have := hmx; omega) (by omega) (by simp; try omega) ?_; intro v7 w7 hown7 hg7 hat7; have hb7 := (((Below.refl wz.heap.size wz).drew.alloc (Nat.le_refl _) _).alloc (by simp) _).grown hg7 (by simp; try omega) (fun g' hg' => (by simp [Value.ownBlock] at hg'; omega)); have hX7 := sh_keep2 hg7; rw [Nat.zero_add, List.nil_append] at hown7))
                | ((refine step_append_own (by rfl) (.tmp 58) (.tmp 61) 47 (by rfl) wz.heap.size 59 i0 (.agg #[.slice none 0 0, .int .i64 0]) 2 32 Tryz.underlying47 hi hy0 hy1 hy2 rfl (by omega) (.slice (some ⟨wz.heap.size + 1, 0, none⟩) 0 0) 0 [] (by rfl) (sh_nil1 wz #[.slice At tl ct, .int .i64 1]) ⟨g, 0, none⟩ m m (xs.take (m * 2)) (by rfl) HTK.out (hs1 _ (((Below.refl _ _).drew.alloc (Nat.le_refl _) _).alloc (by simp) _)) (fun u hu => HONE.out u (List.mem_of_mem_take hu)) (by have := hmx; omega) (by omega) (by simp; try omega) ?_; intro v7 w7 hown7 hg7 hat7; have hb7 := (((Below.refl wz.heap.size wz).drew.alloc (Nat.le_refl _) _).alloc (by simp) _).grown hg7 (by simp; try omega) (fun g' hg' => (by simp [Value.ownBlock] at hg'; omega)); have hX7 := sh_keep1 hg7; rw [Nat.zero_add, List.nil_append] at hown7)))
            all_goals
              have hlen : m + 1 + 0 = m + 1 := by omega
              rw [hlen] at hown9
              obtain ⟨A9, c9, rfl, _⟩ := own_slice' hown9
              obtain ⟨g9, rfl, _, _, _⟩ := own_src hown9 (by omega)
              obtain ⟨ho99, hr99, hb99⟩ := HFIN.out _ _ _ hown9 hb9
              have HO99 := Lib.hid ho99
              have HR99 := Lib.hid hr99
              clear hown9 hown8 hown7 hb9 hb8 hb7 hlen hs1 hs3 ho99 hr99
              go_wp2_with (fail)
              go_roundw
              case rel => exact ⟨k + 1, m + 1, g9, c9, _, by omega, by go_num, rfl, HM2.out, HO99.out, HR99.out, hb99⟩
              case measure => simp [intOf]; omega
          · have hs3 : ∀ W : World, Below wz.heap.size wz W → ∀ j u, (xs.drop (t * 2))[j]? = some u → W.cell? ((⟨g, t * 2, none⟩ : Addr).add j) = some u := fun W hW j u hj => by
              rw [Go.WideShapes.add_plain]
              rw [List.getElem?_drop] at hj
              exact hsB W hW (t * 2 + j) u hj
            clear hsB hoT
            go_region_law
              (first
                | ((refine step_append_own (by rfl) (.tmp 66) (.tmp 69) 47 (by rfl) wz.heap.size 59 i0 (.agg #[.slice none 0 0, .int .i64 0]) 2 32 Tryz.underlying47 hi hy0 hy1 hy2 rfl (by omega) v8 (t + 1) (xs.take (t * 2) ++ [.slice At tl ct, .int .i64 1]) (by rfl) hown8 ⟨g, t * 2, none⟩ (m - t) (c3 - t) (xs.drop (t * 2)) (by rfl) HDP.out (hs3 _ hb8) (fun u hu => HONE.out u (List.mem_of_mem_drop hu)) (by have := hmx; omega) (by omega) hb8.size ?_; intro v9 w9 hown9 hg9 hat9; have hb9 := hb8.grown hg9 hb8.size (fun g' hg' => (hown8.lt g' hg').1)))
                | ((refine step_append_own (by rfl) (.tmp 62) (.tmp 65) 47 (by rfl) wz.heap.size 59 i0 (.agg #[.slice none 0 0, .int .i64 0]) 2 32 Tryz.underlying47 hi hy0 hy1 hy2 rfl (by omega) v7 t (xs.take (t * 2)) (by rfl) (World.ownsRow.alloc hown7 _) ⟨w7.heap.size, 0, none⟩ 1 1 [.slice At tl ct, .int .i64 1] (by rfl) (by rfl) (fun j u hj => sh_one w7 (.slice At tl ct) 1 j u hj) (by intro u hu; simp at hu; rcases hu with rfl | rfl <;> rfl) (by have := hmx; omega) (by omega) (by have := hb7.size; simp; omega) ?_; intro v8 w8 hown8 hg8 hat8; have hb8 := (hb7.alloc hb7.size _).grown hg8 (by have := hb7.size; simp; omega) (fun g' hg' => (hown7.lt g' hg').1)))
                | ((refine step_append_own (by rfl) (.tmp 62) (.tmp 65) 47 (by rfl) wz.heap.size 59 i0 (.agg #[.slice none 0 0, .int .i64 0]) 2 32 Tryz.underlying47 hi hy0 hy1 hy2 rfl (by omega) v7 t (xs.take (t * 2)) (by rfl) hown7 ⟨wz.heap.size + 1, 0, none⟩ 1 1 [.slice At tl ct, .int .i64 1] (by rfl) (by rfl) hX7 (by intro u hu; simp at hu; rcases hu with rfl | rfl <;> rfl) (by have := hmx; omega) (by omega) hb7.size ?_; intro v8 w8 hown8 hg8 hat8; have hb8 := hb7.grown hg8 hb7.size (fun g' hg' => (hown7.lt g' hg').1)))
                | ((refine step_append_own (by rfl) (.tmp 62) (.tmp 65) 47 (by rfl) wz.heap.size 59 i0 (.agg #[.slice none 0 0, .int .i64 0]) 2 32 Tryz.underlying47 hi hy0 hy1 hy2 rfl (by omega) v7 t (xs.take (t * 2)) (by rfl) hown7 ⟨wz.heap.size, 0, none⟩ 1 1 [.slice At tl ct, .int .i64 1] (by rfl) (by rfl) hX7 (by intro u hu; simp at hu; rcases hu with rfl | rfl <;> rfl) (by have := hmx; omega) (by omega) hb7.size ?_; intro v8 w8 hown8 hg8 hat8; have hb8 := hb7.grown hg8 hb7.size (fun g' hg' => (hown7.lt g' hg').1)))
                | ((refine step_append_own (by rfl) (.tmp 58) (.tmp 61) 47 (by rfl) wz.heap.size 59 i0 (.agg #[.slice none 0 0, .int .i64 0]) 2 32 Tryz.underlying47 hi hy0 hy1 hy2 rfl (by omega) (.slice (some ⟨wz.heap.size, 0, none⟩) 0 0) 0 [] (by rfl) (sh_nilT wz.drew wz.heap.size (Nat.le_refl _)) ⟨g, 0, none⟩ t c3 (xs.take (t * 2)) (by rfl) HTK.out (hs1 _ ((Below.refl _ _).drew.alloc (Nat.le_refl _) _)) (fun u hu => HONE.out u (List.mem_of_mem_take hu)) (by have := hmx; omega) (by omega) (by simp; try omega) ?_; intro v7 w7 hown7 hg7 hat7; have hb7 := ((Below.refl wz.heap.size wz).drew.alloc (Nat.le_refl _) _).grown hg7 (by simp; try omega) (fun g' hg' => (by simp [Value.ownBlock] at hg'; omega)); rw [Nat.zero_add, List.nil_append] at hown7))
                | ((refine step_append_own (by rfl) (.tmp 58) (.tmp 61) 47 (by rfl) wz.heap.size 59 i0 (.agg #[.slice none 0 0, .int .i64 0]) 2 32 Tryz.underlying47 hi hy0 hy1 hy2 rfl (by omega) (.slice (some ⟨wz.heap.size, 0, none⟩) 0 0) 0 [] (by rfl) (World.ownsRow.alloc (sh_nilT wz.drew wz.heap.size (Nat.le_refl _)) _) ⟨g, 0, none⟩ t c3 (xs.take (t * 2)) (by rfl) HTK.out (hs1 _ (((Below.refl _ _).drew.alloc (Nat.le_refl _) _).alloc (by simp) _)) (fun u hu => HONE.out u (List.mem_of_mem_take hu)) (by have := hmx; omega) (by omega) (by simp; try omega) ?_; intro v7 w7 hown7 hg7 hat7; have hb7 := (((Below.refl wz.heap.size wz).drew.alloc (Nat.le_refl _) _).alloc (by simp) _).grown hg7 (by simp; try omega) (fun g' hg' => (by simp [Value.ownBlock] at hg'; omega)); have hX7 := sh_keep2 hg7; rw [Nat.zero_add, List.nil_append] at hown7))
                | ((refine step_append_own (by rfl) (.tmp 58) (.tmp 61) 47 (by rfl) wz.heap.size 59 i0 (.agg #[.slice none 0 0, .int .i64 0]) 2 32 Tryz.underlying47 hi hy0 hy1 hy2 rfl (by omega) (.slice (some ⟨wz.heap.size + 1, 0, none⟩) 0 0) 0 [] (by rfl) (sh_nil1 wz #[.slice At tl ct, .int .i64 1]) ⟨g, 0, none⟩ t c3 (xs.take (t * 2)) (by rfl) HTK.out (hs1 _ (((Below.refl _ _).drew.alloc (Nat.le_refl _) _).alloc (by simp) _)) (fun u hu => HONE.out u (List.mem_of_mem_take hu)) (by have := hmx; omega) (by omega) (by simp; try omega) ?_; intro v7 w7 hown7 hg7 hat7; have hb7 := (((Below.refl wz.heap.size wz).drew.alloc (Nat.le_refl _) _).alloc (by simp) _).grown hg7 (by simp; try omega) (fun g' hg' => (by simp [Value.ownBlock] at hg'; omega)); have hX7 := sh_keep1 hg7; rw [Nat.zero_add, List.nil_append] at hown7)))
            all_goals
              have hlen : t + 1 + (m - t) = m + 1 := by omega
              rw [hlen] at hown9
              obtain ⟨A9, c9, rfl, _⟩ := own_slice' hown9
              obtain ⟨g9, rfl, _, _, _⟩ := own_src hown9 (by omega)
              obtain ⟨ho99, hr99, hb99⟩ := HFIN.out _ _ _ hown9 hb9
              have HO99 := Lib.hid ho99
              have HR99 := Lib.hid hr99
              clear hown9 hown8 hown7 hb9 hb8 hb7 hlen hs1 hs3 ho99 hr99
              go_wp2_with (fail)
              go_roundw
              case rel => exact ⟨k + 1, m + 1, g9, c9, _, by omega, by go_num, rfl, HM2.out, HO99.out, HR99.out, hb99⟩
              case measure => simp [intOf]; omega
    · obtain rfl : k = L := by omega
      go_wp2_with (fail)
      go_ret
      exact ⟨_, m, c3, vs, HM.out, rfl, own_mono HOW.out (by omega), HRW.out.mono (by omega), b1.trans (hb.mono (by omega))⟩
end Go.Proofs.YtglijcdnnaekkaaGreat
/- SharesOf, both sides. -/
namespace Go.Proofs.YtglijcdnnaekkaaGreat
set_option linter.unusedVariables false
set_option linter.unusedSimpArgs false
open Go.RowKit

/-- The types of a group and how often each occurs. -/
def shT (p : Int) (l : List Int) : List (List Int) := if grpB p l then shO (tyM p.toNat l) l.length else []
def shKs (p : Int) (l : List Int) : List Int := if grpB p l then ctL (tyM p.toNat l) l.length (shO (tyM p.toNat l) l.length) else []
def SHS (p : Int) (l : List Int) (w : World) (e : Ending) (w' : World) : Prop :=
  ∃ (A : Option Addr) (c : Nat) (vs : List Value), e = .returned (.tuple #[.slice A (shT p l).length c, .int .i64 (mvC p l)]) ∧ w'.ownsRow w.heap.size 59 2 (.slice A (shT p l).length c) (shT p l).length (shC vs (shKs p l)) ∧ RowsO w' w.heap.size vs (shT p l) ∧ Below w.heap.size w w'
theorem shT_no {p : Int} {l : List Int} (h : grpB p l = false) : shT p l = [] ∧ shKs p l = [] ∧ mvC p l = 1 := by
  unfold shT shKs mvC
  rw [h]
  exact ⟨rfl, rfl, rfl⟩
theorem shT_yes {n : Nat} {l : List Int} (h : grpB n l = true) : shT n l = shO (tyM n l) l.length ∧ shKs n l = ctL (tyM n l) l.length (shO (tyM n l) l.length) ∧ mvC n l = 0 := by
  unfold shT shKs mvC
  rw [h, Int.toNat_natCast]
  exact ⟨rfl, rfl, rfl⟩
theorem shKs_len (p : Int) (l : List Int) : (shKs p l).length = (shT p l).length := by
  unfold shT shKs
  split
  · rw [ctL_len]
  · rfl
theorem shT_small (p : Int) (l : List Int) : (shT p l).length ≤ 720 ∧ ∀ k, k < (shT p l).length → (gl (shT p l) k).length ≤ 6 := by
  cases h : grpB p l
  · rw [(shT_no h).1]
    exact ⟨by simp, fun k hk => by simp at hk⟩
  · obtain ⟨n, rfl, h1, h2, h3, h4, hk⟩ := grpB_t h
    rw [(shT_yes h).1]
    refine ⟨Nat.le_trans (shO_len _ _) h4, fun k hk' => ?_⟩
    obtain ⟨q, hq, e⟩ := shO_mem.1 (gl_mem hk')
    rw [← e, gl_tyM hq, tyS_len]
    have := cycL_len (gl (memL n l) q)
    rw [(gl_memR hk hq).1] at this
    omega
set_option maxHeartbeats 1000000 in
theorem i_SharesOf (p : Int) (A : Option Addr) (L c : Nat) (l : List Int) (w : World) (hL : L = l.length) (hl : L ≤ 1048576) (hs : IS w w.heap.size A l) :
    Calls Tryz.prog 25 #[.agg #[.int .i64 p, .slice A L c]] w (SHS p l w) := by
  have B0 := BK.new w 26 #[.int .i64 p, .slice A L c]
  obtain ⟨c0, c1, _, _⟩ := B0.two
  have hb0 := (Below.refl w.heap.size w).alloc (Nat.le_refl _) (.cells #[.int .i64 p, .slice A L c] 26)
  have hs0 := hs.call hb0
  have hB0 := fun W (h : Below (w.alloc (.cells #[.int .i64 p, .slice A L c] 26)).heap.size (w.alloc (.cells #[.int .i64 p, .slice A L c] 26)) W) => (B0.below h (by simp)).two
  have hmv := i_IsGroup p A L c l _ hL hl hs0
  cases hg : grpB p l
  · rw [hg] at hmv
    obtain ⟨v1, v2, v3⟩ := shT_no hg
    unfold SHS
    rw [v1, v2, v3]
    clear hg v1 v2 v3 hL hs hs0 B0 hB0
    go_enter Tryz.func25, Tryz.ntmps25
    go_wp2_with (go_at_call 60; refine hmv.mono ?_; rintro e w2 ⟨rfl, hb2⟩)
    go_ret2
    exact ⟨none, 0, [], rfl, World.ownsRow_nil _ _ _ _, ⟨rfl, fun i hi => by simp at hi, fun i j _ hj => by simp at hj⟩, bel_call hb0 hb2⟩
  · rw [hg] at hmv
    obtain ⟨n, rfl, h1, h2, h3, h4, hk⟩ := grpB_t hg
    obtain ⟨v1, v2, v3⟩ := shT_yes hg
    unfold SHS
    rw [v1, v2, v3]
    have hsh := fun W h => i_shares n A L c l W h1 h2 hL (by omega) hk h
    unfold SHR at hsh
    generalize shO (tyM n l) l.length = out at *
    generalize ctL (tyM n l) l.length out = cs at *
    clear hg v1 v2 v3 hL hs B0 hk h3 h4
    go_enter Tryz.func25, Tryz.ntmps25
    go_wp2_with (first
      | (go_at_call 60; refine hmv.mono ?_; rintro e w2 ⟨rfl, hb2⟩; obtain ⟨d0, d1, _, _⟩ := hB0 _ hb2)
      | (go_at_call 79; refine (hsh _ (hs0.call hb2)).mono ?_; rintro e w3 ⟨A3, m3, c3, vs3, rfl, rfl, o3, r3, hb3⟩))
    have hz : w.heap.size ≤ w2.heap.size := (bel_call hb0 hb2).size
    go_ret2
    exact ⟨A3, c3, vs3, rfl, own_mono o3 hz, r3.mono hz, bel_call (bel_call hb0 hb2) hb3⟩
set_option maxHeartbeats 1000000 in
theorem s_SharesOf (p : Int) (A : Option Addr) (L c : Nat) (l : List Int) (w : World) (hL : L = l.length) (hl : L ≤ 1048576) (hs : IS w w.heap.size A l) :
    Calls Tryz.prog 26 #[.agg #[.int .i64 p, .slice A L c]] w (SHS p l w) := by
  have B0 := BK.new w 26 #[.int .i64 p, .slice A L c]
  obtain ⟨c0, c1, _, _⟩ := B0.two
  have hb0 := (Below.refl w.heap.size w).alloc (Nat.le_refl _) (.cells #[.int .i64 p, .slice A L c] 26)
  have hs0 := hs.call hb0
  have hB0 := fun W (h : Below (w.alloc (.cells #[.int .i64 p, .slice A L c] 26)).heap.size (w.alloc (.cells #[.int .i64 p, .slice A L c] 26)) W) => (B0.below h (by simp)).two
  have hmv := s_IsGroup p A L c l _ hL hl hs0
  cases hg : grpB p l
  · rw [hg] at hmv
    obtain ⟨v1, v2, v3⟩ := shT_no hg
    unfold SHS
    rw [v1, v2, v3]
    clear hg v1 v2 v3 hL hs hs0 B0 hB0
    go_enter Tryz.func26, Tryz.ntmps26
    go_wp2_with (go_at_call 63; refine hmv.mono ?_; rintro e w2 ⟨rfl, hb2⟩)
    go_ret2
    exact ⟨none, 0, [], rfl, World.ownsRow_nil _ _ _ _, ⟨rfl, fun i hi => by simp at hi, fun i j _ hj => by simp at hj⟩, bel_call hb0 hb2⟩
  · rw [hg] at hmv
    obtain ⟨n, rfl, h1, h2, h3, h4, hk⟩ := grpB_t hg
    obtain ⟨v1, v2, v3⟩ := shT_yes hg
    unfold SHS
    rw [v1, v2, v3]
    have hsh := fun W h => s_shares n A L c l W h1 h2 hL (by omega) hk h
    unfold SHR at hsh
    generalize shO (tyM n l) l.length = out at *
    generalize ctL (tyM n l) l.length out = cs at *
    clear hg v1 v2 v3 hL hs B0 hk h3 h4
    go_enter Tryz.func26, Tryz.ntmps26
    go_wp2_with (first
      | (go_at_call 63; refine hmv.mono ?_; rintro e w2 ⟨rfl, hb2⟩; obtain ⟨d0, d1, _, _⟩ := hB0 _ hb2)
      | (go_at_call 80; refine (hsh _ (hs0.call hb2)).mono ?_; rintro e w3 ⟨A3, m3, c3, vs3, rfl, rfl, o3, r3, hb3⟩))
    have hz : w.heap.size ≤ w2.heap.size := (bel_call hb0 hb2).size
    go_ret2
    exact ⟨A3, c3, vs3, rfl, own_mono o3 hz, r3.mono hz, bel_call (bel_call hb0 hb2) hb3⟩
end Go.Proofs.YtglijcdnnaekkaaGreat
