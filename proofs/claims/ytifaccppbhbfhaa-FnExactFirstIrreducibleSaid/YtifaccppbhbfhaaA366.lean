/- Contract: the reference's split. -/
import Derived.Test.YtifaccppbhbfhaaA365
namespace Go.Proofs.Ytifaccppbhbfhaa
set_option linter.unusedVariables false
set_option linter.unusedSimpArgs false
open Go.RowKit

theorem gl_app_lt {ll mm : List (List Int)} {i : Nat} (h : i < ll.length) : gl (ll ++ mm) i = gl ll i := by
  unfold gl
  rw [List.getD_eq_getElem?_getD, List.getD_eq_getElem?_getD, List.getElem?_append_left h]
theorem gl_app_ge {ll mm : List (List Int)} {i : Nat} (h : ll.length ≤ i) : gl (ll ++ mm) i = gl mm (i - ll.length) := by
  unfold gl
  rw [List.getD_eq_getElem?_getD, List.getD_eq_getElem?_getD, List.getElem?_append_right h]
/-- More lists behind an append. -/
theorem OLL.append {w w' : World} {B : Nat} {A A' : Option Addr} {c c' : Nat} {ll mm : List (List Int)} {vs us : List Value} (ho : w.ownsRow B 22 1 (.slice A ll.length c) ll.length vs) (hr : RR w vs ll) (hm : RR w us mm)
    (ho' : w'.ownsRow B 22 1 (.slice A' (ll.length + mm.length) c') (ll.length + mm.length) (vs ++ us)) (hg : w.grownBy w' (Value.slice A ll.length c).ownBlock) : OLL w' B A' c' (ll ++ mm) := by
  have hne : ∀ {A2 : Option Addr} {c2 : Nat} {l2 : List Int}, OA w A2 c2 l2 → OA w' A2 c2 l2 := fun {A2 c2 l2} h => own_keep_own h ho hg (by decide)
  refine ⟨vs ++ us, ?_, ?_, fun i hi => ?_⟩
  · rw [List.length_append]; exact ho'
  · rw [List.length_append, List.length_append, hr.1, hm.1]
  · rw [List.length_append] at hi
    by_cases e : i < ll.length
    · obtain ⟨A2, c2, h1, h2⟩ := hr.2 i e
      rw [gl_app_lt e]
      exact ⟨A2, c2, by rw [List.getElem?_append_left (by rw [hr.1]; omega)]; exact h1, hne h2⟩
    · obtain ⟨A2, c2, h1, h2⟩ := hm.2 (i - ll.length) (by omega)
      rw [gl_app_ge (by omega)]
      exact ⟨A2, c2, by rw [List.getElem?_append_right (by rw [hr.1]; omega), hr.1]; exact h1, hne h2⟩
theorem RR.one {w : World} {vs : List Value} {ll : List (List Int)} (h : RR w vs ll) : ∀ u ∈ vs, u.oneCell' = true := fun u hu => by
  obtain ⟨k, hk, rfl⟩ := List.getElem_of_mem hu
  obtain ⟨A, c, h1, _⟩ := h.2 k (by rw [← h.1]; exact hk)
  rw [List.getElem?_eq_getElem hk] at h1
  injection h1 with h1
  rw [h1]; rfl
theorem OLL.lit0 (w : World) : OLL (w.alloc (.cells #[] 22)) w.heap.size (some ⟨w.heap.size, 0, none⟩) 0 [] := ⟨[], World.ownsRow_lit (base := w.heap.size) (e := 22) (size := 1) w #[] 0 (Nat.le_refl _) (by simp [maxLen]) rfl, rfl, fun i hi => by simp at hi⟩
theorem SO.len (P : Nat) [NeZero P] (hp : FX.Prm P) {f : List Int} {v : FX.Pol (Fin P)} {s n : Nat} {L : List (List Int)} (hf : FX.Dg (FX.toP P f) n) (h : SO P f v s L) : L.length ≤ n := spq_len P hp hf (fun g hg => ⟨((h.1 g).1 hg).1, ((h.1 g).1 hg).2.1⟩) h.2
theorem SPQ.len (P : Nat) [NeZero P] (hp : FX.Prm P) {f : List Int} {n : Nat} {L : List (List Int)} (hf : FX.Dg (FX.toP P f) n) (h : SPQ P f L) : L.length ≤ n := spq_len P hp hf (fun g hg => (h.1 g).1 hg) h.2
set_option maxRecDepth 20000 in
set_option maxHeartbeats 4000000 in
theorem s_split (P : Nat) [NeZero P] (hP : P ≤ 97) (hp : FX.Prm P) : ∀ (N : Nat) (A : Option Addr) (c : Nat) (f : List Int) (w : World), f.length ≤ N → 2 ≤ f.length → f.length ≤ 9 → FX.Can P f → gt f (f.length - 1) = 1 → FX.SqF (FX.toP P f) → OA w A c f → Calls Try.prog 70 #[.int .i64 (P : Int), .slice A f.length c] w (SPR P f w) := by
  intro N
  induction N with
  | zero => intro A c f w h0 h2; omega
  | succ N ih =>
  intro A c f w hfN h2 hl hf hm hsq hs
  have hp2 : 2 ≤ P := hp.1
  have h1 : 0 < P := by omega
  have hFp := FX.fin_fp (p := P) hp
  obtain ⟨i1, hi1, hy0, hy1, hy2⟩ := info_parts infoSl
  obtain ⟨n, hn⟩ : ∃ n, f.length = n + 1 := ⟨f.length - 1, by omega⟩
  have hdg := hf.dg P (by omega)
  rw [show f.length - 1 = n by omega] at hdg
  have hk := s_l09Kernel P hP hp A n f.length c f w rfl hn (by omega) (by omega) hf hs.is
  have hcom := fun A A' c c' f g W a b x y z t => s_common P hP hp A A' c c' f g W a b x y z t
  have hred := fun A n c l W => s_red (P : Int) A n c l W (by omega) (by omega)
  have hone := fun a => spq_one P hp hf hm hn (by omega) hsq a
  have HONE := Lib.hid hone
  have HDG := Lib.hid hdg
  have HIH := Lib.hid ih
  have HF := Lib.hid hf
  have HSQ := Lib.hid hsq
  have HS := Lib.hid hs
  have HFN := Lib.hid hfN
  have hn8 : n ≤ 8 := by omega
  have HNN := Lib.hid hn
  clear hone hdg ih hf hsq hs hm hn hfN
  obtain ⟨nf, hnf⟩ : ∃ nf, nf = f.length := ⟨_, rfl⟩
  rw [← hnf] at hk h2 hl ⊢
  have HNF := Lib.hid hnf
  clear hnf
  go_enter Try.func70, Try.ntmps70
  go_wp2_with (fail)
  refine hk.mono ?_
  clear hk
  rintro e w1 ⟨v, Av, cv, hkv, rfl, hov, hb1⟩
  rcases hkv with ⟨rfl, hkn⟩ | ⟨hvc, hv2, hvn, hvd⟩
  · have hq := HONE.out hkn
    have HQ := Lib.hid hq
    have hol := OLL.lit (HS.out.call hb1)
    rw [← HNF.out] at hol
    have HOL := Lib.hid hol
    clear hq hkn hol hov
    go_wp2_with (fail)
    go_ret
    exact ⟨[f], _, 1, HQ.out, rfl, HOL.out.mono hb1.size, hb1.alloc hb1.size _⟩
  · obtain ⟨nv, hnv⟩ : ∃ nv, nv = v.length := ⟨_, rfl⟩
    unfold OA at hov
    rw [← hnv] at hov hv2 hvn ⊢
    have HNV := Lib.hid hnv
    have HVC := Lib.hid hvc
    have HVD := Lib.hid hvd
    have hvz : ((nv : Int) == 0) = false := by rw [beq_eq_false_iff_ne]; omega
    have HO0 := Lib.hid ((OLL.lit0 w1).mono hb1.size)
    have HS0 := Lib.hid (SO.start P f (FX.toP P v))
    have hb2 := hb1.alloc hb1.size (.cells #[] 22)
    have hov2 := own_below hov ((Below.refl w1.heap.size w1).alloc (Nat.le_refl _) (.cells #[] 22))
    clear hnv hvc hvd hov
    go_wp2_with (fail)
    go_loopw [6, 7] (fun u6 u7 wr => ∃ (s L co : Nat) (Ao : Option Addr) (out : List (List Int)), s ≤ P ∧ u7 = .int .i64 (s : Int) ∧ Hid (L = out.length) ∧ u6 = .slice Ao L co ∧ Hid (SO P f (FX.toP P v) s out) ∧ Hid (OLL wr w.heap.size Ao co out) ∧ wr.ownsRow 0 2 1 (.slice Av nv cv) nv (ints v) ∧ Below w.heap.size w wr) (fun _ u7 _ => P - (intOf u7).toNat)
    case atStart => exact ⟨0, 0, 0, _, [], Nat.zero_le _, rfl, rfl, rfl, HS0, HO0, hov2, hb2⟩
    case round =>
    clear HS0 HO0 hov2 hb2 hb1
    obtain ⟨wt, rfl⟩ : ∃ wt : World, wt = wr := ⟨_, rfl⟩
    obtain ⟨s, L, co, Ao, out, hsP, rfl, HL, rfl, HSO, HOO, hov, hb⟩ := hrel
    by_cases hlt : s < P
    · have hba := (Below.refl wt.heap.size wt).alloc (Nat.le_refl _) (.cells #[.int .i64 (s : Int)] 2)
      have his : IS (wt.alloc (.cells #[.int .i64 (s : Int)] 2)) (wt.alloc (.cells #[.int .i64 (s : Int)] 2)).heap.size (some ⟨wt.heap.size, 0, none⟩) [(s : Int)] := own_isn (l := [(s : Int)]) (own_one wt (.int .i64 (s : Int)) 2) rfl
      have hadd := s_add1 Av (some ⟨wt.heap.size, 0, none⟩) nv cv 1 v (s : Int) _ HNV.out hv2 (by omega) (fun j => by have := HVC.out.1 j; omega) (by omega) ((own_isn hov HNV.out).call hba) his
      have HR : Hid (∀ l, LSQ v (s : Int) l → FX.toP P (trimL (l.map (· % (P : Int)))) = FX.toP P v - FX.Pol.const (FX.ci P (s : Int)) ∧ FX.Can P (trimL (l.map (· % (P : Int)))) ∧ (trimL (l.map (· % (P : Int)))).length ≤ 10 ∧ l.length ≤ 1000) := fun l hll => ⟨by rw [toP_red]; exact toP_lsq P hll, can_red P l, by have := red_len (P : Int) l; have := hll.1; have := HNV.out; omega, by have := hll.1; have := HNV.out; omega⟩
      have hsf := HS.out.call hb
      have hfl : f.length ≤ 10 := by have := HNF.out; omega
      clear his
      go_wp2_with (first
        | (go_at_call 85; refine hadd.mono ?_; clear hadd; rintro e w5 ⟨sl, hsl, A5, c5, rfl, ho5, hb5⟩; have hrl := Lib.hid (HR.out sl hsl); have hr6 := hred A5 sl.length c5 sl w5 rfl hrl.out.2.2.2 (own_isn ho5 rfl); clear hsl; generalize trimL (sl.map (· % (P : Int))) = rl at *)
        | (go_at_call 21; refine hr6.mono ?_; clear hr6; rintro e w6 ⟨A6, c6, rfl, ho6, hb6⟩; have hb56 := bel_call (bel_call hba hb5) hb6; have hc7 := hcom A A6 c c6 f rl w6 hfl hrl.out.2.2.1 HF.out hrl.out.2.1 (hsf.call hb56) (OA.of ho6 rfl); rw [← HNF.out] at hc7))
      refine hc7.mono ?_
      clear hc7
      rintro e w7 ⟨gg, hgg, A7, c7, rfl, ho7, hb7⟩
      have HGC := Lib.hid (gc_of P hgg hrl.out.1)
      have hb57 := bel_call hb56 hb7
      have HOF7 := Lib.hid (HOO.out.call hb57)
      have hb37 := bel_call hb hb57
      have hov7 := own_below hov hb57
      have hglen := gc_len P hp HVC.out (by rw [← HNV.out]; exact hv2) HGC.out
      have HO7 := Lib.hid (OA.of ho7 rfl)
      by_cases hg1 : 1 < gg.length
      · have hic := HIH.out A7 c7 gg w7 (by have := HNV.out; have := HNN.out; have := HFN.out; omega) (by omega) (by have := HNV.out; omega) HGC.out.1 (HGC.out.2.2 (by omega)) (FX.SqF.of_dv HSQ.out HGC.out.2.1.1) HO7.out
        have HADD : Hid (∀ M, SPQ P gg M → SO P f (FX.toP P v) (s + 1) (out ++ M)) := fun M hM => SO.add P hp HSO.out hlt HGC.out hM
        have HML : Hid (∀ M, SPQ P gg M → M.length ≤ 9) := fun M hM => by
          have := hM.len P hp (HGC.out.1.dg P (by omega)); have := HNV.out; omega
        have hLn : L ≤ 8 := by have := HSO.out.len P hp HDG.out; have := HL.out; omega
        obtain ⟨ng, hng⟩ : ∃ ng, ng = gg.length := ⟨_, rfl⟩
        rw [← hng] at hic hg1 ⊢
        clear hglen hng hgg ho7 hba hb5 hb6 hb56 hb7 hb57 hrl ho5 ho6 hov HOO hb hsf
        obtain ⟨vs, hvo, hrr⟩ := HOF7.out
        rw [← HL.out] at hvo
        have HRR := Lib.hid hrr
        have hw7 := hb37.size
        clear hrr
        go_wp2_with (first
          | (go_at_call 70; refine hic.mono ?_; clear hic; rintro e w8 ⟨M, A8, c8, hM, rfl, hom, hb8⟩; obtain ⟨us, huo, hru⟩ := hom; have HRU := Lib.hid hru; have HMM := Lib.hid hM; have hm9 := HML.out M hM; have hw8 := hb8.size; clear hM hru; have huo0 := own_mono (base' := 0) huo (Nat.zero_le _); obtain ⟨nm, hnm⟩ : ∃ nm, nm = M.length := ⟨_, rfl⟩; rw [← hnm] at hm9 huo huo0 ⊢; have HNM := Lib.hid hnm; clear hnm)
          | (at_builtin; go_loud (refine wpList_append_src rfl (.tmp 35) (.tmp 38) 50 rfl w.heap.size 22 i1 (.slice none 0 0) 1 24 Try.underlying50 hi1 hy0 hy1 hy2 rfl (by omega) (.slice Ao L co) L vs rfl (own_below hvo hb8) A8 nm c8 us rfl (by rw [Nat.mul_one, HRU.out.1]; exact HNM.out.symm) (own_hsrc huo) (by
              intro h
              rcases huo.2 with ⟨h3, h4⟩ | ⟨g', cap, cur, h3, _⟩
              · injection h3 with _ _ e3; exact ⟨h4, e3⟩
              · rw [h] at h3; injection h3 with e3; cases e3) HRU.out.one (by simp only [maxLen]; omega) (by omega) (by omega) ?_; intro v9 w9 o9 g9 ha; obtain ⟨A9, c9, rfl, _⟩ := own_slice' o9)))
        have hpush : OLL w9 w.heap.size A9 c9 (out ++ M) := OLL.append (by rw [← HL.out]; exact own_below hvo hb8) (HRR.out.call hb8) HRU.out (by rw [← HL.out, ← HNM.out]; exact o9) (by rw [← HL.out]; exact g9)
        have HPU := Lib.hid hpush
        have hbx := (bel_call hb37 hb8).grown g9 (by omega) (fun g' hg' => (hvo.lt g' hg').1)
        have hov9 := own_keep_own (own_below hov7 hb8) (own_below hvo hb8) g9 (by decide)
        have HSN := Lib.hid (HADD.out M HMM.out)
        have HL2 : Hid (L + nm = (out ++ M).length) := by unfold Hid; rw [List.length_append, ← HL.out, ← HNM.out]
        clear g9 ha o9 hvo hpush huo huo0
        go_roundw
        case rel => exact ⟨s + 1, L + nm, c9, A9, out ++ M, by omega, by go_num, HL2, rfl, HSN, HPU, hov9, hbx⟩
        case measure => simp [intOf]; omega
      · have HSN := Lib.hid (SO.none P hp HSO.out HDG.out.ne HGC.out (by omega))
        obtain ⟨ng, hng⟩ : ∃ ng, ng = gg.length := ⟨_, rfl⟩
        rw [← hng] at hg1 ⊢
        have hg2 : (ng : Int) ≤ 1 := by omega
        clear hglen hng hgg ho7 hba hb5 hb6 hb56 hb7 hb57 hrl ho5 ho6 hov HOO hb hsf
        go_wp2_with (fail)
        go_roundw
        case rel => exact ⟨s + 1, L, co, Ao, out, by omega, by go_num, HL, rfl, HSN, HOF7, hov7, hb37⟩
        case measure => simp [intOf]; omega
    · obtain ⟨P', rfl⟩ : ∃ P', P' = s := ⟨_, rfl⟩
      have htP : P' = P := by omega
      have HFIN := Lib.hid (SO.done P hp (by rw [htP] at HSO; exact HSO.out) HVD.out)
      clear htP
      go_wp2_with (fail)
      go_ret
      exact ⟨out, Ao, co, HFIN.out, by rw [HL.out]; rfl, HOO.out, hb⟩
end Go.Proofs.Ytifaccppbhbfhaa
