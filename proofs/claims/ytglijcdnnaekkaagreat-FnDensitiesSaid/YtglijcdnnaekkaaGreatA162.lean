/- TypesOf: the reference's side. -/
import Derived.Test.YtglijcdnnaekkaaGreatA161
import Derived.Test.YtglijcdnnaekkaaGreatA92
import Derived.Test.YtglijcdnnaekkaaGreatA16
import Derived.Deep.RegionLaw
namespace Go.Proofs.YtglijcdnnaekkaaGreat
set_option linter.unusedVariables false
set_option linter.unusedSimpArgs false
open Go.RowKit

theorem below_undrew' {B : Nat} {w w' : World} {n : Nat} (h : Below B (w.drewN n) w') : Below B w w' := ⟨h.os, h.tape, h.output, h.size, h.block⟩
/-- The values read as the rows. -/
def RR (w : World) (base : Nat) (vs : List Value) (ll : List (List Int)) : Prop := vs.length = ll.length ∧ ∀ k, k < vs.length → OwnI w base (gv vs k) (gl ll k) ∧ (gl ll k).length ≤ 6
theorem gv_app {a b : List Value} (k : Nat) : gv (a ++ b) k = if k < a.length then gv a k else gv b (k - a.length) := by
  unfold gv
  rw [List.getD_eq_getElem?_getD]
  by_cases h : k < a.length
  · rw [if_pos h, List.getElem?_append_left h, List.getD_eq_getElem?_getD]
  · rw [if_neg h, List.getElem?_append_right (by omega), List.getD_eq_getElem?_getD]
theorem gv_take {a : List Value} {j k : Nat} (h : k < j) : gv (a.take j) k = gv a k := by simp [gv, List.getElem?_take, h]
theorem gv_drop (a : List Value) (j k : Nat) : gv (a.drop j) k = gv a (j + k) := by simp [gv]
theorem RR.app {w : World} {base : Nat} {vs vs' : List Value} {ll ll' : List (List Int)} (h : RR w base vs ll) (h' : RR w base vs' ll') : RR w base (vs ++ vs') (ll ++ ll') := by
  refine ⟨by rw [List.length_append, List.length_append, h.1, h'.1], fun k hk => ?_⟩
  rw [List.length_append] at hk
  rw [gv_app, gl_app, h.1]
  by_cases hlt : k < ll.length
  · rw [if_pos hlt, if_pos hlt]; exact h.2 k (by rw [h.1]; exact hlt)
  · rw [if_neg hlt, if_neg hlt]
    exact h'.2 _ (by have := h.1; omega)
theorem RR.take {w : World} {base : Nat} {vs : List Value} {ll : List (List Int)} (h : RR w base vs ll) (n : Nat) : RR w base (vs.take n) (ll.take n) := by
  refine ⟨by rw [List.length_take, List.length_take, h.1], fun k hk => ?_⟩
  rw [List.length_take] at hk
  rw [gv_take (by omega), gl_take (by omega)]
  exact h.2 k (by omega)
theorem RR.drop {w : World} {base : Nat} {vs : List Value} {ll : List (List Int)} (h : RR w base vs ll) (n : Nat) : RR w base (vs.drop n) (ll.drop n) := by
  refine ⟨by rw [List.length_drop, List.length_drop, h.1], fun k hk => ?_⟩
  rw [List.length_drop] at hk
  rw [gv_drop, gl_drop]
  exact h.2 _ (by omega)
theorem RR.one {w : World} {base : Nat} {v : Value} {l : List Int} (h : OwnI w base v l) (hl : l.length ≤ 6) : RR w base [v] [l] := by
  refine ⟨rfl, fun k hk => ?_⟩
  obtain rfl : k = 0 := by simpa using hk
  exact ⟨h, hl⟩
theorem RR.srt {w : World} {base i : Nat} {vs : List Value} {ll : List (List Int)} {v : Value} (h : RR w base vs (srt ll i)) (hv : OwnI w base v (gl ll i)) (hl : (gl ll i).length ≤ 6) : RR w base (vs.take (atF (gl ll i) (srt ll i) i) ++ [v] ++ vs.drop (atF (gl ll i) (srt ll i) i)) (srt ll (i + 1)) :=
  ((h.take _).app (RR.one hv hl)).app (h.drop _)
def bfQ (ll : List (List Int)) (i j : Nat) : Bool := bef (gl ll i) (gl (srt ll i) j)
theorem ob_nilT (w : World) (e : TypeId) (base : Nat) (h : base ≤ w.heap.size) : (w.alloc (.cells #[] e)).ownsRow base e 1 (.slice (some ⟨w.heap.size, 0, none⟩) 0 0) 0 [] :=
  World.ownsRow_lit (base := base) (e := e) (size := 1) w #[] 0 h (by simp [maxLen]) rfl
theorem ob_nil1 (w : World) (x : Value) : ((w.drew.alloc (.cells #[x] 24)).alloc (.cells #[] 24)).ownsRow w.heap.size 24 1 (.slice (some ⟨w.heap.size + 1, 0, none⟩) 0 0) 0 [] := by
  have h := ob_nilT (w.drew.alloc (.cells #[x] 24)) 24 w.heap.size (by simp; try omega)
  have e : (w.drew.alloc (.cells #[x] 24)).heap.size = w.heap.size + 1 := by simp
  rw [e] at h
  exact h
theorem xkeep2 {w w7 : World} {x : Value} (hg : ((w.drew.alloc (.cells #[] 24)).alloc (.cells #[x] 24)).grownBy w7 (Value.slice (some ⟨w.heap.size, 0, none⟩) 0 0).ownBlock) : ∀ j u, [x][j]? = some u → w7.cell? ((⟨w.heap.size + 1, 0, none⟩ : Addr).add j) = some u := fun j u hj => by
  have h := (BK.new (w.drew.alloc (.cells #[] 24)) 24 #[x]).kept hg (by simp [Value.ownBlock])
  have e : (w.drew.alloc (.cells #[] 24)).heap.size = w.heap.size + 1 := by simp
  rw [e] at h
  rw [Go.WideShapes.add_plain, Nat.zero_add, h.cell j]
  simpa using hj
theorem xkeep1 {w w7 : World} {x : Value} (hg : ((w.drew.alloc (.cells #[x] 24)).alloc (.cells #[] 24)).grownBy w7 (Value.slice (some ⟨w.heap.size + 1, 0, none⟩) 0 0).ownBlock) : ∀ j u, [x][j]? = some u → w7.cell? ((⟨w.heap.size, 0, none⟩ : Addr).add j) = some u := fun j u hj => by
  have h := ((BK.new w.drew 24 #[x]).alloc (.cells #[] 24)).kept hg (by simp [Value.ownBlock])
  have e : w.drew.heap.size = w.heap.size := rfl
  rw [e] at h
  rw [Go.WideShapes.add_plain, Nat.zero_add, h.cell j]
  simpa using hj
set_option maxRecDepth 10000 in
set_option maxHeartbeats 4000000 in
theorem s_sortTypes (ll : List (List Int)) (L : Nat) (n : Nat) (w : World) (hL : L = ll.length) (h0 : 0 < L) (hl : L ≤ 64) (h1 : 1 ≤ n) (h6 : n ≤ 6)
    (hty : ∀ W : World, Calls Tryz.prog 84 #[.int .i64 n, .int .i64 1] W (fun e w' => ∃ v, e = .returned v ∧ OwnII w' W.heap.size v ll ∧ Below W.heap.size W w')) (hrow : ∀ k, k < L → (gl ll k).length ≤ 6) :
    Calls Tryz.prog 29 #[.int .i64 n] w (fun e w' => ∃ A c, e = .returned (.tuple #[.slice A L c, .int .i64 0]) ∧ II w' w'.heap.size A (srt ll L) ∧ Below w.heap.size w w') := by
  have hin : inB (n : Int) 1 6 = true := by unfold inB; simp; omega
  have hlin := fun W => s_l01In (n : Int) 1 6 W
  rw [hin] at hlin
  obtain ⟨i0, hi, hy0, hy1, hy2⟩ := info_parts infoSl
  have HL := Lib.hid hL
  have HR := Lib.hid hrow
  clear hin hL hrow
  go_enter Tryz.func29, Tryz.ntmps29
  go_wp2_with (first | (go_at_call 64; refine (hlin _).mono ?_; rintro e w' ⟨rfl, nq, rfl⟩) | (go_at_call 84; refine (hty _).mono ?_; rintro e w2 ⟨v, rfl, ⟨vs, ho, hr⟩, hb2⟩; rw [← HL.out] at ho; obtain ⟨Av, cv, rfl, _⟩ := own_slice' ho))
  have hvl : vs.length = L := by have := hr.1; rw [this, HL.out]
  obtain ⟨gv0, rfl, _, hgl, hcv⟩ := own_src ho h0
  have HV := Lib.hid hvl
  have HRW := Lib.hid hr
  have HCV := Lib.hid hcv
  have hb2' : Below w.heap.size w w2 := below_undrew' hb2
  have hz2 := hb2'.size
  clear hvl hr ho hcv hb2
  go_wp2_with (fail)
  go_loopw [5, 6] (fun u5 u6 wr => ∃ (i g co : Nat) (vo : List Value), i ≤ L ∧ u6 = .int .i64 i ∧ u5 = .slice (some ⟨g, 0, none⟩) i co ∧ wr.ownsRow w2.heap.size 24 1 (.slice (some ⟨g, 0, none⟩) i co) i vo ∧ RR w2 w.heap.size vo (srt ll i) ∧ Below w2.heap.size w2 wr) (fun _ u6 _ => L - (intOf u6).toNat)
  case atStart => exact ⟨0, w2.heap.size, 0, [], Nat.zero_le _, rfl, rfl, World.ownsRow_lit w2 #[] 0 (Nat.le_refl _) (by simp [maxLen]) rfl, ⟨rfl, fun k hk => by simp at hk⟩, (Below.refl _ _).alloc (Nat.le_refl _) _⟩
  case round =>
    obtain ⟨ws, rfl⟩ : ∃ ws : World, ws = wr := ⟨_, rfl⟩
    obtain ⟨i, g, co, vo, hi', rfl, rfl, hown, hrr, hb⟩ := hrel
    have hsz := hb.size
    by_cases hlt : i < L
    · have hvo : vo.length = i := by have := hrr.1; rw [srt_len] at this; exact this
      have hcx : ws.cell? ⟨gv0, i, none⟩ = some (gv vs i) := by
        refine (hb.cell (p := ⟨gv0, i, none⟩) hgl).trans ?_
        exact HCV.out i _ (gv_at (by rw [HV.out]; exact hlt))
      have hco := fun j (hj : j < i) => own_hsrc hown ⟨g, 0, none⟩ rfl j _ (gv_at (vs := vo) (i := j) (by omega))
      have hx := HRW.out.2.1 i (by rw [HV.out]; exact hlt)
      have hxl := HR.out i hlt
      obtain ⟨Ax, cx, hvx, _⟩ := own_slice' hx
      rw [hvx] at hcx hx
      have hrr' := Lib.hid hrr
      have hvr := fun t (ht : t < i) => hrr.2 t (by omega)
      have HRX := fun (h : OwnI w2 w.heap.size (.slice Ax (gl ll i).length cx) (gl ll i)) => hrr.srt h hxl
      have HRX := Lib.hid (HRX hx)
      have hisx := hx.is rfl
      have hsl := srt_len ll i
      have hatl := atF_le (gl ll i) (srt ll i) i
      have hdef : atF (gl ll i) (srt ll i) i = atF (gl ll i) (srt ll i) i := rfl
      have hyes := fun t h => atF_yes (x := gl ll i) (l := srt ll i) (k := t) h
      have hno := fun t h => atF_no (x := gl ll i) (l := srt ll i) (k := t) h
      generalize hAT : atF (gl ll i) (srt ll i) i = at' at *
      have HAT := Lib.hid hAT
      have HYES := Lib.hid hyes
      have HNO := Lib.hid hno
      have HVR := Lib.hid hvr
      have HCO := Lib.hid hco
      have HVO := Lib.hid hvo
      clear hAT hyes hno hvr hco hvo hx hrr hdef
      go_wp2_with (fail)
      go_loopw [7] (fun u7 wr => ∃ t : Nat, t ≤ i ∧ u7 = .int .i64 t ∧ Hid (at' = atF (gl ll i) (srt ll i) t) ∧ DR ws wr) (fun u7 _ => (intOf u7).toNat)
      case atStart => exact ⟨i, Nat.le_refl _, rfl, hidP HAT.out.symm, DR.refl _⟩
      case round =>
        obtain ⟨t, ht, rfl, HT, hdr⟩ := hrel
        have hcR := (hdr.cell ⟨gv0, i, none⟩).trans hcx
        by_cases ht0 : 0 < t
        · have hvt := HVR.out (t - 1) (by omega)
          obtain ⟨Ay, cy, hvy, _⟩ := own_slice' hvt.1
          have e2 := (hdr.cell _).trans (HCO.out (t - 1) (by omega))
          rw [Go.WideShapes.add_plain, Nat.zero_add, hvy] at e2
          have hisy := (show OwnI w2 w.heap.size (.slice Ay (gl (srt ll i) (t - 1)).length cy) (gl (srt ll i) (t - 1)) by rw [← hvy]; exact hvt.1).is rfl
          have hbR : Below w2.heap.size w2 wr := by obtain ⟨d, rfl⟩ := hdr; exact below_drewN hb d
          have hbf := fun m => s_before Ax Ay (gl ll i).length cx (gl (srt ll i) (t - 1)).length cy (gl ll i) (gl (srt ll i) (t - 1)) (wr.drewN m) wr.heap.size wr.heap.size rfl rfl (by omega) (by omega) ((hisx.call hbR).drewN m) ((hisy.call hbR).drewN m)
          have hyes := HYES.out (t - 1)
          have hno := HNO.out (t - 1)
          rw [Nat.sub_add_cancel ht0] at hyes hno
          have hs1' : IntKind.i64.wrap ((t : Int) - 1) = (t : Int) - 1 := IntWalk.i64_in _ (by omega)
          have hs2' : ((t : Int) - 1).toNat = t - 1 := by omega
          have hs3' : 1 ≤ (t : Int) := by omega
          have hs4' : 0 ≤ (t : Int) - 1 := by omega
          have hs5' : (t : Int) - 1 < i := by omega
          have hlx := hvt.2
          clear hvt hvy hisy hbR
          cases hbe : bef (gl ll i) (gl (srt ll i) (t - 1))
          · rw [hbe] at hbf
            have HAT2 := Lib.hid (hno hbe)
            clear hno hyes hbe
            go_wp2_with (go_quiet ((go_at_call 85; first | exact Calls.quiet_of (hbf _) | exact qadd (hbf _))))
            have HA : Hid (t = at') := hidP (by rw [HT.out, HAT2.out])
            have hdrT : DR ws (wr.drewN nq) := hdr.step _
            generalize wr.drewN nq = wt at *
            obtain ⟨a, rfl⟩ : ∃ a : Nat, a = t := ⟨_, rfl⟩
            have hai : a ≤ i := ht
            clear hdr ht HT
            have hoT : wt.ownsRow w2.heap.size 24 1 (.slice (some ⟨g, 0, none⟩) i co) i vo := by obtain ⟨d, rfl⟩ := hdrT; exact own_dr hown d
            have hbT : Below w2.heap.size w2 wt := by obtain ⟨d, rfl⟩ := hdrT; exact below_drewN hb d
            have hcT := (hdrT.cell ⟨gv0, i, none⟩).trans hcx
            have hico := (own_cap hown).1
            have hcoM := (own_cap hown).2
            have hzT := hbT.size
            have hgT := (hoT.lt g rfl).2
            have hg0T : gv0 < wt.heap.size := by omega
            have hvoL : vo.length = i := HVO.out
            have htk : (vo.take a).length = a := by rw [List.length_take]; omega
            have hdp : (vo.drop a).length = i - a := by rw [List.length_drop]; omega
            have HTK := Lib.hid htk
            have HDP := Lib.hid hdp
            clear htk hdp
            generalize hxv : (gl ll i).length = nx at *
            have hxone : (Value.slice Ax nx cx).oneCell' = true := rfl
            have hvone : ∀ u ∈ vo, u.oneCell' = true := fun u hu => by
              obtain ⟨j, hj, e⟩ := List.mem_iff_getElem.1 hu
              obtain ⟨Aj, cj, ej, _⟩ := own_slice' (HVR.out j (by omega)).1
              have e2 : gv vo j = u := by simp [gv, List.getElem?_eq_getElem hj, e]
              rw [← e2, ej]; rfl
            have HONE := Lib.hid hvone
            have HVL := Lib.hid hvoL
            have HXV := Lib.hid hxv
            clear hvone hvoL hxv hown hb
            have hcB : ∀ W : World, Below wt.heap.size wt W → W.cell? ⟨gv0, i, none⟩ = some (.slice Ax nx cx) := fun W hW => (hW.cell (p := ⟨gv0, i, none⟩) hg0T).trans hcT
            have hsB : ∀ W : World, Below wt.heap.size wt W → ∀ j u, vo[j]? = some u → W.cell? ⟨g, j, none⟩ = some u := fun W hW j u hj => by
              have h9 := World.ownsRow.cells (own_below hoT hW) (g := g) rfl j u hj
              rw [Go.WideShapes.add_plain] at h9
              simpa using h9
            have hs1 : ∀ W : World, Below wt.heap.size wt W → ∀ j u, (vo.take a)[j]? = some u → W.cell? ((⟨g, 0, none⟩ : Addr).add j) = some u := fun W hW j u hj => by
              rw [Go.WideShapes.add_plain, Nat.zero_add]
              rw [List.getElem?_take] at hj
              split at hj
              · exact hsB W hW j u hj
              · cases hj
            have p1 : a ≤ co := by omega
            have p2 : (a : Int) ≤ (co : Int) := by omega
            have p3 : (a : Int) ≤ (i : Int) := by omega
            have hmx : i + 1 ≤ maxLen := by simp only [maxLen]; omega
            by_cases hca : co = a
            · have hia : i = a := by omega
              subst hca
              have hs3 : ∀ W : World, Below wt.heap.size wt W → ∀ j u, (vo.drop co)[j]? = some u → W.cell? ((⟨g, 0, none⟩ : Addr).add j) = some u := fun W hW j u hj => by
                rw [List.getElem?_eq_none (by rw [HDP.out]; omega)] at hj; cases hj
              subst hia
              have hz4x : wt.heap.size ≤ wt.heap.size := Nat.le_refl _
              go_wp2_with (fail)
              go_region_law
                (first
                  | ((refine step_append_own (by rfl) (.tmp 48) (.tmp 51) 29 (by rfl) wt.heap.size 24 i0 (.slice none 0 0) 1 24 Tryz.underlying29 hi hy0 hy1 hy2 rfl (by omega) v8 (i + 1) (vo.take i ++ [.slice Ax nx cx]) (by rfl) hown8 ⟨g, 0, none⟩ 0 0 (vo.drop i) (by rfl) (by rw [Nat.mul_one]; exact (by rw [HDP.out]; omega)) (hs3 _ hb8) (fun u hu => HONE.out u (List.mem_of_mem_drop hu)) (by have := hmx; omega) (by omega) hb8.size ?_; intro v9 w9 hown9 hg9 hat9; have hb9 := hb8.grown hg9 hb8.size (fun g' hg' => (hown8.lt g' hg').1)))
                  | ((refine step_append_own (by rfl) (.tmp 42) (.tmp 47) 29 (by rfl) wt.heap.size 24 i0 (.slice none 0 0) 1 24 Tryz.underlying29 hi hy0 hy1 hy2 rfl (by omega) v7 i (vo.take i) (by rfl) (World.ownsRow.alloc hown7 _) ⟨w7.heap.size, 0, none⟩ 1 1 [.slice Ax nx cx] (by rfl) (by rfl) (fun j u hj => one_src w7 (.slice Ax nx cx) 24 _ rfl j u hj) (by intro u hu; simp at hu; subst hu; exact hxone) (by have := hmx; omega) (by omega) (by have := hb7.size; simp; omega) ?_; intro v8 w8 hown8 hg8 hat8; have hb8 := (hb7.alloc hb7.size _).grown hg8 (by have := hb7.size; simp; omega) (fun g' hg' => (hown7.lt g' hg').1)))
                  | ((refine step_append_own (by rfl) (.tmp 42) (.tmp 47) 29 (by rfl) wt.heap.size 24 i0 (.slice none 0 0) 1 24 Tryz.underlying29 hi hy0 hy1 hy2 rfl (by omega) v7 i (vo.take i) (by rfl) hown7 ⟨wt.heap.size + 1, 0, none⟩ 1 1 [.slice Ax nx cx] (by rfl) (by rfl) hX7 (by intro u hu; simp at hu; subst hu; exact hxone) (by have := hmx; omega) (by omega) hb7.size ?_; intro v8 w8 hown8 hg8 hat8; have hb8 := hb7.grown hg8 hb7.size (fun g' hg' => (hown7.lt g' hg').1)))
                  | ((refine step_append_own (by rfl) (.tmp 42) (.tmp 47) 29 (by rfl) wt.heap.size 24 i0 (.slice none 0 0) 1 24 Tryz.underlying29 hi hy0 hy1 hy2 rfl (by omega) v7 i (vo.take i) (by rfl) hown7 ⟨wt.heap.size, 0, none⟩ 1 1 [.slice Ax nx cx] (by rfl) (by rfl) hX7 (by intro u hu; simp at hu; subst hu; exact hxone) (by have := hmx; omega) (by omega) hb7.size ?_; intro v8 w8 hown8 hg8 hat8; have hb8 := hb7.grown hg8 hb7.size (fun g' hg' => (hown7.lt g' hg').1)))
                  | ((refine step_append_own (by rfl) (.tmp 38) (.tmp 41) 29 (by rfl) wt.heap.size 24 i0 (.slice none 0 0) 1 24 Tryz.underlying29 hi hy0 hy1 hy2 rfl (by omega) (.slice (some ⟨wt.heap.size, 0, none⟩) 0 0) 0 [] (by rfl) (ob_nilT wt.drew 24 wt.heap.size (Nat.le_refl _)) ⟨g, 0, none⟩ i i (vo.take i) (by rfl) (by rw [Nat.mul_one]; exact HTK.out) (hs1 _ ((Below.refl _ _).drew.alloc (Nat.le_refl _) _)) (fun u hu => HONE.out u (List.mem_of_mem_take hu)) (by have := hmx; omega) (by omega) (by simp; try omega) ?_; intro v7 w7 hown7 hg7 hat7; have hb7 := ((Below.refl wt.heap.size wt).drew.alloc (Nat.le_refl _) _).grown hg7 (by simp; try omega) (fun g' hg' => (by simp [Value.ownBlock] at hg'; omega)); have hc7 := hcB _ hb7; rw [Nat.zero_add, List.nil_append] at hown7))
                  | ((refine step_append_own (by rfl) (.tmp 38) (.tmp 41) 29 (by rfl) wt.heap.size 24 i0 (.slice none 0 0) 1 24 Tryz.underlying29 hi hy0 hy1 hy2 rfl (by omega) (.slice (some ⟨wt.heap.size, 0, none⟩) 0 0) 0 [] (by rfl) (World.ownsRow.alloc (ob_nilT wt.drew 24 wt.heap.size (Nat.le_refl _)) _) ⟨g, 0, none⟩ i i (vo.take i) (by rfl) (by rw [Nat.mul_one]; exact HTK.out) (hs1 _ (((Below.refl _ _).drew.alloc (Nat.le_refl _) _).alloc (by simp) _)) (fun u hu => HONE.out u (List.mem_of_mem_take hu)) (by have := hmx; omega) (by omega) (by simp; try omega) ?_; intro v7 w7 hown7 hg7 hat7; have hb7 := (((Below.refl wt.heap.size wt).drew.alloc (Nat.le_refl _) _).alloc (by simp) _).grown hg7 (by simp; try omega) (fun g' hg' => (by simp [Value.ownBlock] at hg'; omega)); have hX7 := xkeep2 hg7; rw [Nat.zero_add, List.nil_append] at hown7))
                  | ((refine step_append_own (by rfl) (.tmp 38) (.tmp 41) 29 (by rfl) wt.heap.size 24 i0 (.slice none 0 0) 1 24 Tryz.underlying29 hi hy0 hy1 hy2 rfl (by omega) (.slice (some ⟨wt.heap.size + 1, 0, none⟩) 0 0) 0 [] (by rfl) (ob_nil1 wt (.slice Ax nx cx)) ⟨g, 0, none⟩ i i (vo.take i) (by rfl) (by rw [Nat.mul_one]; exact HTK.out) (hs1 _ (((Below.refl _ _).drew.alloc (Nat.le_refl _) _).alloc (by simp) _)) (fun u hu => HONE.out u (List.mem_of_mem_take hu)) (by have := hmx; omega) (by omega) (by simp; try omega) ?_; intro v7 w7 hown7 hg7 hat7; have hb7 := (((Below.refl wt.heap.size wt).drew.alloc (Nat.le_refl _) _).alloc (by simp) _).grown hg7 (by simp; try omega) (fun g' hg' => (by simp [Value.ownBlock] at hg'; omega)); have hX7 := xkeep1 hg7; rw [Nat.zero_add, List.nil_append] at hown7)))
              all_goals
                have hlen : i + 1 + 0 = i + 1 := by omega
                rw [hlen] at hown9
                obtain ⟨A9, c9, rfl, _⟩ := own_slice' hown9
                obtain ⟨g9, rfl, _, _, _⟩ := own_src hown9 (by omega)
                have hrr9 := Lib.hid (show RR w2 w.heap.size (vo.take i ++ [.slice Ax nx cx] ++ vo.drop i) (srt ll (i + 1)) by have h := HRX.out; rw [← HA.out] at h; exact h)
                have hb99 := hbT.trans (hb9.mono hzT)
                have ho99 := own_mono hown9 hzT
                clear hown9 hown8 hown7 hb9 hb8 hb7 hlen hcT hs1 hs3 hcB hsB hoT hbT
                go_wp2_with (fail)
                go_roundw
                case rel => exact ⟨i + 1, g9, c9, _, by omega, by go_num, rfl, ho99, hrr9.out, hb99⟩
                case measure => simp [intOf]; omega
            · have hs3 : ∀ W : World, Below wt.heap.size wt W → ∀ j u, (vo.drop a)[j]? = some u → W.cell? ((⟨g, a, none⟩ : Addr).add j) = some u := fun W hW j u hj => by
                rw [Go.WideShapes.add_plain]
                rw [List.getElem?_drop] at hj
                exact hsB W hW (a + j) u hj
              have hz4x : wt.heap.size ≤ wt.heap.size := Nat.le_refl _
              go_wp2_with (fail)
              go_region_law
                (first
                  | ((refine step_append_own (by rfl) (.tmp 48) (.tmp 51) 29 (by rfl) wt.heap.size 24 i0 (.slice none 0 0) 1 24 Tryz.underlying29 hi hy0 hy1 hy2 rfl (by omega) v8 (a + 1) (vo.take a ++ [.slice Ax nx cx]) (by rfl) hown8 ⟨g, a, none⟩ (i - a) (co - a) (vo.drop a) (by rfl) (by rw [Nat.mul_one]; exact HDP.out) (hs3 _ hb8) (fun u hu => HONE.out u (List.mem_of_mem_drop hu)) (by have := hmx; omega) (by omega) hb8.size ?_; intro v9 w9 hown9 hg9 hat9; have hb9 := hb8.grown hg9 hb8.size (fun g' hg' => (hown8.lt g' hg').1)))
                  | ((refine step_append_own (by rfl) (.tmp 42) (.tmp 47) 29 (by rfl) wt.heap.size 24 i0 (.slice none 0 0) 1 24 Tryz.underlying29 hi hy0 hy1 hy2 rfl (by omega) v7 a (vo.take a) (by rfl) (World.ownsRow.alloc hown7 _) ⟨w7.heap.size, 0, none⟩ 1 1 [.slice Ax nx cx] (by rfl) (by rfl) (fun j u hj => one_src w7 (.slice Ax nx cx) 24 _ rfl j u hj) (by intro u hu; simp at hu; subst hu; exact hxone) (by have := hmx; omega) (by omega) (by have := hb7.size; simp; omega) ?_; intro v8 w8 hown8 hg8 hat8; have hb8 := (hb7.alloc hb7.size _).grown hg8 (by have := hb7.size; simp; omega) (fun g' hg' => (hown7.lt g' hg').1)))
                  | ((refine step_append_own (by rfl) (.tmp 42) (.tmp 47) 29 (by rfl) wt.heap.size 24 i0 (.slice none 0 0) 1 24 Tryz.underlying29 hi hy0 hy1 hy2 rfl (by omega) v7 a (vo.take a) (by rfl) hown7 ⟨wt.heap.size + 1, 0, none⟩ 1 1 [.slice Ax nx cx] (by rfl) (by rfl) hX7 (by intro u hu; simp at hu; subst hu; exact hxone) (by have := hmx; omega) (by omega) hb7.size ?_; intro v8 w8 hown8 hg8 hat8; have hb8 := hb7.grown hg8 hb7.size (fun g' hg' => (hown7.lt g' hg').1)))
                  | ((refine step_append_own (by rfl) (.tmp 42) (.tmp 47) 29 (by rfl) wt.heap.size 24 i0 (.slice none 0 0) 1 24 Tryz.underlying29 hi hy0 hy1 hy2 rfl (by omega) v7 a (vo.take a) (by rfl) hown7 ⟨wt.heap.size, 0, none⟩ 1 1 [.slice Ax nx cx] (by rfl) (by rfl) hX7 (by intro u hu; simp at hu; subst hu; exact hxone) (by have := hmx; omega) (by omega) hb7.size ?_; intro v8 w8 hown8 hg8 hat8; have hb8 := hb7.grown hg8 hb7.size (fun g' hg' => (hown7.lt g' hg').1)))
                  | ((refine step_append_own (by rfl) (.tmp 38) (.tmp 41) 29 (by rfl) wt.heap.size 24 i0 (.slice none 0 0) 1 24 Tryz.underlying29 hi hy0 hy1 hy2 rfl (by omega) (.slice (some ⟨wt.heap.size, 0, none⟩) 0 0) 0 [] (by rfl) (ob_nilT wt.drew 24 wt.heap.size (Nat.le_refl _)) ⟨g, 0, none⟩ a co (vo.take a) (by rfl) (by rw [Nat.mul_one]; exact HTK.out) (hs1 _ ((Below.refl _ _).drew.alloc (Nat.le_refl _) _)) (fun u hu => HONE.out u (List.mem_of_mem_take hu)) (by have := hmx; omega) (by omega) (by simp; try omega) ?_; intro v7 w7 hown7 hg7 hat7; have hb7 := ((Below.refl wt.heap.size wt).drew.alloc (Nat.le_refl _) _).grown hg7 (by simp; try omega) (fun g' hg' => (by simp [Value.ownBlock] at hg'; omega)); have hc7 := hcB _ hb7; rw [Nat.zero_add, List.nil_append] at hown7))
                  | ((refine step_append_own (by rfl) (.tmp 38) (.tmp 41) 29 (by rfl) wt.heap.size 24 i0 (.slice none 0 0) 1 24 Tryz.underlying29 hi hy0 hy1 hy2 rfl (by omega) (.slice (some ⟨wt.heap.size, 0, none⟩) 0 0) 0 [] (by rfl) (World.ownsRow.alloc (ob_nilT wt.drew 24 wt.heap.size (Nat.le_refl _)) _) ⟨g, 0, none⟩ a co (vo.take a) (by rfl) (by rw [Nat.mul_one]; exact HTK.out) (hs1 _ (((Below.refl _ _).drew.alloc (Nat.le_refl _) _).alloc (by simp) _)) (fun u hu => HONE.out u (List.mem_of_mem_take hu)) (by have := hmx; omega) (by omega) (by simp; try omega) ?_; intro v7 w7 hown7 hg7 hat7; have hb7 := (((Below.refl wt.heap.size wt).drew.alloc (Nat.le_refl _) _).alloc (by simp) _).grown hg7 (by simp; try omega) (fun g' hg' => (by simp [Value.ownBlock] at hg'; omega)); have hX7 := xkeep2 hg7; rw [Nat.zero_add, List.nil_append] at hown7))
                  | ((refine step_append_own (by rfl) (.tmp 38) (.tmp 41) 29 (by rfl) wt.heap.size 24 i0 (.slice none 0 0) 1 24 Tryz.underlying29 hi hy0 hy1 hy2 rfl (by omega) (.slice (some ⟨wt.heap.size + 1, 0, none⟩) 0 0) 0 [] (by rfl) (ob_nil1 wt (.slice Ax nx cx)) ⟨g, 0, none⟩ a co (vo.take a) (by rfl) (by rw [Nat.mul_one]; exact HTK.out) (hs1 _ (((Below.refl _ _).drew.alloc (Nat.le_refl _) _).alloc (by simp) _)) (fun u hu => HONE.out u (List.mem_of_mem_take hu)) (by have := hmx; omega) (by omega) (by simp; try omega) ?_; intro v7 w7 hown7 hg7 hat7; have hb7 := (((Below.refl wt.heap.size wt).drew.alloc (Nat.le_refl _) _).alloc (by simp) _).grown hg7 (by simp; try omega) (fun g' hg' => (by simp [Value.ownBlock] at hg'; omega)); have hX7 := xkeep1 hg7; rw [Nat.zero_add, List.nil_append] at hown7)))
              all_goals
                have hlen : a + 1 + (i - a) = i + 1 := by omega
                rw [hlen] at hown9
                obtain ⟨A9, c9, rfl, _⟩ := own_slice' hown9
                obtain ⟨g9, rfl, _, _, _⟩ := own_src hown9 (by omega)
                have hrr9 := Lib.hid (show RR w2 w.heap.size (vo.take a ++ [.slice Ax nx cx] ++ vo.drop a) (srt ll (i + 1)) by have h := HRX.out; rw [← HA.out] at h; exact h)
                have hb99 := hbT.trans (hb9.mono hzT)
                have ho99 := own_mono hown9 hzT
                clear hown9 hown8 hown7 hb9 hb8 hb7 hlen hcT hs1 hs3 hcB hsB hoT hbT
                go_wp2_with (fail)
                go_roundw
                case rel => exact ⟨i + 1, g9, c9, _, by omega, by go_num, rfl, ho99, hrr9.out, hb99⟩
                case measure => simp [intOf]; omega
          · rw [hbe] at hbf
            have HT2 := Lib.hid (HT.out.trans (hyes hbe))
            clear hno hyes hbe
            go_wp2_with (go_quiet ((go_at_call 85; first | exact Calls.quiet_of (hbf _) | exact qadd (hbf _))))
            go_roundw
            case rel => exact ⟨t - 1, by omega, by go_num, HT2.out, hdr.step _⟩
            case measure => simp [intOf]; omega
        · have hng : ¬ (0 : Int) < (t : Int) := by omega
          go_wp2_with (go_quiet (fail))
          have HA : Hid (t = at') := hidP (by have h := HT.out; have e : t = 0 := (by omega); rw [e] at h; rw [e, h]; first | done | rfl)
          have hdrT : DR ws (wr.drewN nq) := hdr.step _
          generalize wr.drewN nq = wt at *
          obtain ⟨a, rfl⟩ : ∃ a : Nat, a = t := ⟨_, rfl⟩
          have hai : a ≤ i := ht
          clear hdr ht HT
          have hoT : wt.ownsRow w2.heap.size 24 1 (.slice (some ⟨g, 0, none⟩) i co) i vo := by obtain ⟨d, rfl⟩ := hdrT; exact own_dr hown d
          have hbT : Below w2.heap.size w2 wt := by obtain ⟨d, rfl⟩ := hdrT; exact below_drewN hb d
          have hcT := (hdrT.cell ⟨gv0, i, none⟩).trans hcx
          have hico := (own_cap hown).1
          have hcoM := (own_cap hown).2
          have hzT := hbT.size
          have hgT := (hoT.lt g rfl).2
          have hg0T : gv0 < wt.heap.size := by omega
          have hvoL : vo.length = i := HVO.out
          have htk : (vo.take a).length = a := by rw [List.length_take]; omega
          have hdp : (vo.drop a).length = i - a := by rw [List.length_drop]; omega
          have HTK := Lib.hid htk
          have HDP := Lib.hid hdp
          clear htk hdp
          generalize hxv : (gl ll i).length = nx at *
          have hxone : (Value.slice Ax nx cx).oneCell' = true := rfl
          have hvone : ∀ u ∈ vo, u.oneCell' = true := fun u hu => by
            obtain ⟨j, hj, e⟩ := List.mem_iff_getElem.1 hu
            obtain ⟨Aj, cj, ej, _⟩ := own_slice' (HVR.out j (by omega)).1
            have e2 : gv vo j = u := by simp [gv, List.getElem?_eq_getElem hj, e]
            rw [← e2, ej]; rfl
          have HONE := Lib.hid hvone
          have HVL := Lib.hid hvoL
          have HXV := Lib.hid hxv
          clear hvone hvoL hxv hown hb
          have hcB : ∀ W : World, Below wt.heap.size wt W → W.cell? ⟨gv0, i, none⟩ = some (.slice Ax nx cx) := fun W hW => (hW.cell (p := ⟨gv0, i, none⟩) hg0T).trans hcT
          have hsB : ∀ W : World, Below wt.heap.size wt W → ∀ j u, vo[j]? = some u → W.cell? ⟨g, j, none⟩ = some u := fun W hW j u hj => by
            have h9 := World.ownsRow.cells (own_below hoT hW) (g := g) rfl j u hj
            rw [Go.WideShapes.add_plain] at h9
            simpa using h9
          have hs1 : ∀ W : World, Below wt.heap.size wt W → ∀ j u, (vo.take a)[j]? = some u → W.cell? ((⟨g, 0, none⟩ : Addr).add j) = some u := fun W hW j u hj => by
            rw [Go.WideShapes.add_plain, Nat.zero_add]
            rw [List.getElem?_take] at hj
            split at hj
            · exact hsB W hW j u hj
            · cases hj
          have p1 : a ≤ co := by omega
          have p2 : (a : Int) ≤ (co : Int) := by omega
          have p3 : (a : Int) ≤ (i : Int) := by omega
          have hmx : i + 1 ≤ maxLen := by simp only [maxLen]; omega
          by_cases hca : co = a
          · have hia : i = a := by omega
            subst hca
            have hs3 : ∀ W : World, Below wt.heap.size wt W → ∀ j u, (vo.drop co)[j]? = some u → W.cell? ((⟨g, 0, none⟩ : Addr).add j) = some u := fun W hW j u hj => by
              rw [List.getElem?_eq_none (by rw [HDP.out]; omega)] at hj; cases hj
            subst hia
            have hz4x : wt.heap.size ≤ wt.heap.size := Nat.le_refl _
            go_wp2_with (fail)
            go_region_law
              (first
                | ((refine step_append_own (by rfl) (.tmp 48) (.tmp 51) 29 (by rfl) wt.heap.size 24 i0 (.slice none 0 0) 1 24 Tryz.underlying29 hi hy0 hy1 hy2 rfl (by omega) v8 (i + 1) (vo.take i ++ [.slice Ax nx cx]) (by rfl) hown8 ⟨g, 0, none⟩ 0 0 (vo.drop i) (by rfl) (by rw [Nat.mul_one]; exact (by rw [HDP.out]; omega)) (hs3 _ hb8) (fun u hu => HONE.out u (List.mem_of_mem_drop hu)) (by have := hmx; omega) (by omega) hb8.size ?_; intro v9 w9 hown9 hg9 hat9; have hb9 := hb8.grown hg9 hb8.size (fun g' hg' => (hown8.lt g' hg').1)))
                | ((refine step_append_own (by rfl) (.tmp 42) (.tmp 47) 29 (by rfl) wt.heap.size 24 i0 (.slice none 0 0) 1 24 Tryz.underlying29 hi hy0 hy1 hy2 rfl (by omega) v7 i (vo.take i) (by rfl) (World.ownsRow.alloc hown7 _) ⟨w7.heap.size, 0, none⟩ 1 1 [.slice Ax nx cx] (by rfl) (by rfl) (fun j u hj => one_src w7 (.slice Ax nx cx) 24 _ rfl j u hj) (by intro u hu; simp at hu; subst hu; exact hxone) (by have := hmx; omega) (by omega) (by have := hb7.size; simp; omega) ?_; intro v8 w8 hown8 hg8 hat8; have hb8 := (hb7.alloc hb7.size _).grown hg8 (by have := hb7.size; simp; omega) (fun g' hg' => (hown7.lt g' hg').1)))
                | ((refine step_append_own (by rfl) (.tmp 42) (.tmp 47) 29 (by rfl) wt.heap.size 24 i0 (.slice none 0 0) 1 24 Tryz.underlying29 hi hy0 hy1 hy2 rfl (by omega) v7 i (vo.take i) (by rfl) hown7 ⟨wt.heap.size + 1, 0, none⟩ 1 1 [.slice Ax nx cx] (by rfl) (by rfl) hX7 (by intro u hu; simp at hu; subst hu; exact hxone) (by have := hmx; omega) (by omega) hb7.size ?_; intro v8 w8 hown8 hg8 hat8; have hb8 := hb7.grown hg8 hb7.size (fun g' hg' => (hown7.lt g' hg').1)))
                | ((refine step_append_own (by rfl) (.tmp 42) (.tmp 47) 29 (by rfl) wt.heap.size 24 i0 (.slice none 0 0) 1 24 Tryz.underlying29 hi hy0 hy1 hy2 rfl (by omega) v7 i (vo.take i) (by rfl) hown7 ⟨wt.heap.size, 0, none⟩ 1 1 [.slice Ax nx cx] (by rfl) (by rfl) hX7 (by intro u hu; simp at hu; subst hu; exact hxone) (by have := hmx; omega) (by omega) hb7.size ?_; intro v8 w8 hown8 hg8 hat8; have hb8 := hb7.grown hg8 hb7.size (fun g' hg' => (hown7.lt g' hg').1)))
                | ((refine step_append_own (by rfl) (.tmp 38) (.tmp 41) 29 (by rfl) wt.heap.size 24 i0 (.slice none 0 0) 1 24 Tryz.underlying29 hi hy0 hy1 hy2 rfl (by omega) (.slice (some ⟨wt.heap.size, 0, none⟩) 0 0) 0 [] (by rfl) (ob_nilT wt.drew 24 wt.heap.size (Nat.le_refl _)) ⟨g, 0, none⟩ i i (vo.take i) (by rfl) (by rw [Nat.mul_one]; exact HTK.out) (hs1 _ ((Below.refl _ _).drew.alloc (Nat.le_refl _) _)) (fun u hu => HONE.out u (List.mem_of_mem_take hu)) (by have := hmx; omega) (by omega) (by simp; try omega) ?_; intro v7 w7 hown7 hg7 hat7; have hb7 := ((Below.refl wt.heap.size wt).drew.alloc (Nat.le_refl _) _).grown hg7 (by simp; try omega) (fun g' hg' => (by simp [Value.ownBlock] at hg'; omega)); have hc7 := hcB _ hb7; rw [Nat.zero_add, List.nil_append] at hown7))
                | ((refine step_append_own (by rfl) (.tmp 38) (.tmp 41) 29 (by rfl) wt.heap.size 24 i0 (.slice none 0 0) 1 24 Tryz.underlying29 hi hy0 hy1 hy2 rfl (by omega) (.slice (some ⟨wt.heap.size, 0, none⟩) 0 0) 0 [] (by rfl) (World.ownsRow.alloc (ob_nilT wt.drew 24 wt.heap.size (Nat.le_refl _)) _) ⟨g, 0, none⟩ i i (vo.take i) (by rfl) (by rw [Nat.mul_one]; exact HTK.out) (hs1 _ (((Below.refl _ _).drew.alloc (Nat.le_refl _) _).alloc (by simp) _)) (fun u hu => HONE.out u (List.mem_of_mem_take hu)) (by have := hmx; omega) (by omega) (by simp; try omega) ?_; intro v7 w7 hown7 hg7 hat7; have hb7 := (((Below.refl wt.heap.size wt).drew.alloc (Nat.le_refl _) _).alloc (by simp) _).grown hg7 (by simp; try omega) (fun g' hg' => (by simp [Value.ownBlock] at hg'; omega)); have hX7 := xkeep2 hg7; rw [Nat.zero_add, List.nil_append] at hown7))
                | ((refine step_append_own (by rfl) (.tmp 38) (.tmp 41) 29 (by rfl) wt.heap.size 24 i0 (.slice none 0 0) 1 24 Tryz.underlying29 hi hy0 hy1 hy2 rfl (by omega) (.slice (some ⟨wt.heap.size + 1, 0, none⟩) 0 0) 0 [] (by rfl) (ob_nil1 wt (.slice Ax nx cx)) ⟨g, 0, none⟩ i i (vo.take i) (by rfl) (by rw [Nat.mul_one]; exact HTK.out) (hs1 _ (((Below.refl _ _).drew.alloc (Nat.le_refl _) _).alloc (by simp) _)) (fun u hu => HONE.out u (List.mem_of_mem_take hu)) (by have := hmx; omega) (by omega) (by simp; try omega) ?_; intro v7 w7 hown7 hg7 hat7; have hb7 := (((Below.refl wt.heap.size wt).drew.alloc (Nat.le_refl _) _).alloc (by simp) _).grown hg7 (by simp; try omega) (fun g' hg' => (by simp [Value.ownBlock] at hg'; omega)); have hX7 := xkeep1 hg7; rw [Nat.zero_add, List.nil_append] at hown7)))
            all_goals
              have hlen : i + 1 + 0 = i + 1 := by omega
              rw [hlen] at hown9
              obtain ⟨A9, c9, rfl, _⟩ := own_slice' hown9
              obtain ⟨g9, rfl, _, _, _⟩ := own_src hown9 (by omega)
              have hrr9 := Lib.hid (show RR w2 w.heap.size (vo.take i ++ [.slice Ax nx cx] ++ vo.drop i) (srt ll (i + 1)) by have h := HRX.out; rw [← HA.out] at h; exact h)
              have hb99 := hbT.trans (hb9.mono hzT)
              have ho99 := own_mono hown9 hzT
              clear hown9 hown8 hown7 hb9 hb8 hb7 hlen hcT hs1 hs3 hcB hsB hoT hbT
              go_wp2_with (fail)
              go_roundw
              case rel => exact ⟨i + 1, g9, c9, _, by omega, by go_num, rfl, ho99, hrr9.out, hb99⟩
              case measure => simp [intOf]; omega
          · have hs3 : ∀ W : World, Below wt.heap.size wt W → ∀ j u, (vo.drop a)[j]? = some u → W.cell? ((⟨g, a, none⟩ : Addr).add j) = some u := fun W hW j u hj => by
              rw [Go.WideShapes.add_plain]
              rw [List.getElem?_drop] at hj
              exact hsB W hW (a + j) u hj
            have hz4x : wt.heap.size ≤ wt.heap.size := Nat.le_refl _
            go_wp2_with (fail)
            go_region_law
              (first
                | ((refine step_append_own (by rfl) (.tmp 48) (.tmp 51) 29 (by rfl) wt.heap.size 24 i0 (.slice none 0 0) 1 24 Tryz.underlying29 hi hy0 hy1 hy2 rfl (by omega) v8 (a + 1) (vo.take a ++ [.slice Ax nx cx]) (by rfl) hown8 ⟨g, a, none⟩ (i - a) (co - a) (vo.drop a) (by rfl) (by rw [Nat.mul_one]; exact HDP.out) (hs3 _ hb8) (fun u hu => HONE.out u (List.mem_of_mem_drop hu)) (by have := hmx; omega) (by omega) hb8.size ?_; intro v9 w9 hown9 hg9 hat9; have hb9 := hb8.grown hg9 hb8.size (fun g' hg' => (hown8.lt g' hg').1)))
                | ((refine step_append_own (by rfl) (.tmp 42) (.tmp 47) 29 (by rfl) wt.heap.size 24 i0 (.slice none 0 0) 1 24 Tryz.underlying29 hi hy0 hy1 hy2 rfl (by omega) v7 a (vo.take a) (by rfl) (World.ownsRow.alloc hown7 _) ⟨w7.heap.size, 0, none⟩ 1 1 [.slice Ax nx cx] (by rfl) (by rfl) (fun j u hj => one_src w7 (.slice Ax nx cx) 24 _ rfl j u hj) (by intro u hu; simp at hu; subst hu; exact hxone) (by have := hmx; omega) (by omega) (by have := hb7.size; simp; omega) ?_; intro v8 w8 hown8 hg8 hat8; have hb8 := (hb7.alloc hb7.size _).grown hg8 (by have := hb7.size; simp; omega) (fun g' hg' => (hown7.lt g' hg').1)))
                | ((refine step_append_own (by rfl) (.tmp 42) (.tmp 47) 29 (by rfl) wt.heap.size 24 i0 (.slice none 0 0) 1 24 Tryz.underlying29 hi hy0 hy1 hy2 rfl (by omega) v7 a (vo.take a) (by rfl) hown7 ⟨wt.heap.size + 1, 0, none⟩ 1 1 [.slice Ax nx cx] (by rfl) (by rfl) hX7 (by intro u hu; simp at hu; subst hu; exact hxone) (by have := hmx; omega) (by omega) hb7.size ?_; intro v8 w8 hown8 hg8 hat8; have hb8 := hb7.grown hg8 hb7.size (fun g' hg' => (hown7.lt g' hg').1)))
                | ((refine step_append_own (by rfl) (.tmp 42) (.tmp 47) 29 (by rfl) wt.heap.size 24 i0 (.slice none 0 0) 1 24 Tryz.underlying29 hi hy0 hy1 hy2 rfl (by omega) v7 a (vo.take a) (by rfl) hown7 ⟨wt.heap.size, 0, none⟩ 1 1 [.slice Ax nx cx] (by rfl) (by rfl) hX7 (by intro u hu; simp at hu; subst hu; exact hxone) (by have := hmx; omega) (by omega) hb7.size ?_; intro v8 w8 hown8 hg8 hat8; have hb8 := hb7.grown hg8 hb7.size (fun g' hg' => (hown7.lt g' hg').1)))
                | ((refine step_append_own (by rfl) (.tmp 38) (.tmp 41) 29 (by rfl) wt.heap.size 24 i0 (.slice none 0 0) 1 24 Tryz.underlying29 hi hy0 hy1 hy2 rfl (by omega) (.slice (some ⟨wt.heap.size, 0, none⟩) 0 0) 0 [] (by rfl) (ob_nilT wt.drew 24 wt.heap.size (Nat.le_refl _)) ⟨g, 0, none⟩ a co (vo.take a) (by rfl) (by rw [Nat.mul_one]; exact HTK.out) (hs1 _ ((Below.refl _ _).drew.alloc (Nat.le_refl _) _)) (fun u hu => HONE.out u (List.mem_of_mem_take hu)) (by have := hmx; omega) (by omega) (by simp; try omega) ?_; intro v7 w7 hown7 hg7 hat7; have hb7 := ((Below.refl wt.heap.size wt).drew.alloc (Nat.le_refl _) _).grown hg7 (by simp; try omega) (fun g' hg' => (by simp [Value.ownBlock] at hg'; omega)); have hc7 := hcB _ hb7; rw [Nat.zero_add, List.nil_append] at hown7))
                | ((refine step_append_own (by rfl) (.tmp 38) (.tmp 41) 29 (by rfl) wt.heap.size 24 i0 (.slice none 0 0) 1 24 Tryz.underlying29 hi hy0 hy1 hy2 rfl (by omega) (.slice (some ⟨wt.heap.size, 0, none⟩) 0 0) 0 [] (by rfl) (World.ownsRow.alloc (ob_nilT wt.drew 24 wt.heap.size (Nat.le_refl _)) _) ⟨g, 0, none⟩ a co (vo.take a) (by rfl) (by rw [Nat.mul_one]; exact HTK.out) (hs1 _ (((Below.refl _ _).drew.alloc (Nat.le_refl _) _).alloc (by simp) _)) (fun u hu => HONE.out u (List.mem_of_mem_take hu)) (by have := hmx; omega) (by omega) (by simp; try omega) ?_; intro v7 w7 hown7 hg7 hat7; have hb7 := (((Below.refl wt.heap.size wt).drew.alloc (Nat.le_refl _) _).alloc (by simp) _).grown hg7 (by simp; try omega) (fun g' hg' => (by simp [Value.ownBlock] at hg'; omega)); have hX7 := xkeep2 hg7; rw [Nat.zero_add, List.nil_append] at hown7))
                | ((refine step_append_own (by rfl) (.tmp 38) (.tmp 41) 29 (by rfl) wt.heap.size 24 i0 (.slice none 0 0) 1 24 Tryz.underlying29 hi hy0 hy1 hy2 rfl (by omega) (.slice (some ⟨wt.heap.size + 1, 0, none⟩) 0 0) 0 [] (by rfl) (ob_nil1 wt (.slice Ax nx cx)) ⟨g, 0, none⟩ a co (vo.take a) (by rfl) (by rw [Nat.mul_one]; exact HTK.out) (hs1 _ (((Below.refl _ _).drew.alloc (Nat.le_refl _) _).alloc (by simp) _)) (fun u hu => HONE.out u (List.mem_of_mem_take hu)) (by have := hmx; omega) (by omega) (by simp; try omega) ?_; intro v7 w7 hown7 hg7 hat7; have hb7 := (((Below.refl wt.heap.size wt).drew.alloc (Nat.le_refl _) _).alloc (by simp) _).grown hg7 (by simp; try omega) (fun g' hg' => (by simp [Value.ownBlock] at hg'; omega)); have hX7 := xkeep1 hg7; rw [Nat.zero_add, List.nil_append] at hown7)))
            all_goals
              have hlen : a + 1 + (i - a) = i + 1 := by omega
              rw [hlen] at hown9
              obtain ⟨A9, c9, rfl, _⟩ := own_slice' hown9
              obtain ⟨g9, rfl, _, _, _⟩ := own_src hown9 (by omega)
              have hrr9 := Lib.hid (show RR w2 w.heap.size (vo.take a ++ [.slice Ax nx cx] ++ vo.drop a) (srt ll (i + 1)) by have h := HRX.out; rw [← HA.out] at h; exact h)
              have hb99 := hbT.trans (hb9.mono hzT)
              have ho99 := own_mono hown9 hzT
              clear hown9 hown8 hown7 hb9 hb8 hb7 hlen hcT hs1 hs3 hcB hsB hoT hbT
              go_wp2_with (fail)
              go_roundw
              case rel => exact ⟨i + 1, g9, c9, _, by omega, by go_num, rfl, ho99, hrr9.out, hb99⟩
              case measure => simp [intOf]; omega
    · obtain rfl : i = L := by omega
      have hfin : II ws ws.heap.size (some ⟨g, 0, none⟩) (srt ll i) := fun _ => ⟨g, 0, rfl, (hown.lt g rfl).2, fun k hk => by
        rw [srt_len] at hk
        have hvo : vo.length = i := by have := hrr.1; rw [srt_len] at this; exact this
        have h1 := hrr.2 k (by omega)
        obtain ⟨Ak, ck, hvk, _⟩ := own_slice' h1.1
        have h2 := own_hsrc hown ⟨g, 0, none⟩ rfl k _ (gv_at (vs := vo) (i := k) (by omega))
        rw [Go.WideShapes.add_plain] at h2
        have h3 := h1.1
        rw [hvk] at h2 h3
        exact ⟨Ak, ck, h2, (own_cap h3).1, (own_cap h3).2, (h3.is rfl).call hb⟩⟩
      have HF := Lib.hid hfin
      clear hfin hrr hown
      go_wp2_with (fail)
      go_ret2
      exact ⟨_, _, rfl, HF.out, hb2'.trans (hb.mono hz2)⟩
end Go.Proofs.YtglijcdnnaekkaaGreat
