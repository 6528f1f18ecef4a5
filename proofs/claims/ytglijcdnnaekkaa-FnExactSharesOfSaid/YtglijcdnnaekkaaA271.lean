/- Shares: a type's place in a list of shares (slices.BinarySearchFunc). -/
import Derived.Test.YtglijcdnnaekkaaA270
import Derived.Test.YtglijcdnnaekkaaA163
namespace Go.Proofs.Ytglijcdnnaekkaa
set_option linter.unusedVariables false
set_option linter.unusedSimpArgs false
open Go.RowKit

set_option maxHeartbeats 1000000 in
theorem i_shCmp (A A' : Option Addr) (n c n' c' : Nat) (cnt : Int) (xs ys : List Int) (w : World) (hn : n = xs.length) (hn' : n' = ys.length) (hl : n ≤ 6) (hl' : n' ≤ 6) (hs : IS w w.heap.size A xs) (hs' : IS w w.heap.size A' ys) :
    Calls Try.prog 90 #[.agg #[.slice A n c, .int .i64 cnt], .slice A' n' c'] w (M (.int .i64 (cmpT xs ys)) w) := by
  have B0 := BK.new w 60 #[.slice A n c, .int .i64 cnt]
  obtain ⟨c0, c1, _, _⟩ := B0.two
  have hb0 := (Below.refl w.heap.size w).alloc (Nat.le_refl _) (.cells #[.slice A n c, .int .i64 cnt] 60)
  have hc := i_cmpB A A' n c n' c' xs ys _ hn hn' hl hl' (hs.call hb0) (hs'.call hb0)
  clear hn hn' hs hs' hl hl'
  go_enter Try.func90, Try.ntmps90
  go_wp2_with (go_at_call 91; refine hc.mono ?_; rintro e w2 ⟨rfl, hb2⟩)
  go_ret
  exact ⟨rfl, bel_call hb0 hb2⟩
theorem half_i64 {i j : Nat} (h : i + j ≤ 2000) : IntKind.i64.wrap ((i : Int) + (j : Int)) = ((i + j : Nat) : Int) := by
  have := IntWalk.i64_in ((i : Int) + (j : Int)) (by omega)
  rw [this]; omega
theorem sh_cell {w : World} {base g n c k : Nat} {vs : List Value} {cs : List Int} {ts : List (List Int)} (ho : w.ownsRow base 60 2 (.slice (some ⟨g, 0, none⟩) n c) n (shC vs cs)) (hr : RowsO w base vs ts) (hn : n = ts.length) (hcs : cs.length = n) (hk : k < n) :
    ∃ Ak ck, w.cell? ⟨g, k * 2, none⟩ = some (.slice Ak (gl ts k).length ck) ∧ w.cell? ⟨g, k * 2 + 1, none⟩ = some (.int .i64 (gt cs k)) ∧ gv vs k = .slice Ak (gl ts k).length ck ∧ IS w w.heap.size Ak (gl ts k) := by
  have hvl : vs.length = n := hr.1.trans hn.symm
  obtain ⟨g', hg, _, _, hc⟩ := own_src ho (by omega)
  have hg : g = g' := by injection hg with h; injection h
  subst hg
  obtain ⟨h1, h2⟩ := shC_at (vs := vs) (cs := cs) (k := k) (by omega) (by omega)
  have ho' := hr.2.1 k (by omega)
  obtain ⟨Ak, ck, hv, _⟩ := own_slice' ho'
  rw [hv] at h1 ho'
  exact ⟨Ak, ck, hc _ _ h1, hc _ _ h2, hv, own_isn ho' rfl⟩
set_option maxRecDepth 20000 in
set_option maxHeartbeats 2000000 in
theorem c_bsf (A A' : Option Addr) (n c base m c' : Nat) (vs : List Value) (cs : List Int) (ts : List (List Int)) (t : List Int) (w : World) (hn : n = ts.length) (hl : n ≤ 1000) (hsrt : ts.Pairwise fun a b => cmpT a b < 0) (hrow : ∀ k, k < n → (gl ts k).length ≤ 6) (hcs : cs.length = n)
    (ho : w.ownsRow base 60 2 (.slice A n c) n (shC vs cs)) (hr : RowsO w base vs ts) (hm : m = t.length) (hm6 : m ≤ 6) (hs : IS w w.heap.size A' t) :
    Calls Try.prog 89 #[.slice A n c, .slice A' m c', .func (.func 90) #[] #[]] w (M (.tuple #[.int .i64 ((atS t ts : Nat) : Int), .bool (hasS t ts)]) w) := by
  have HN := Lib.hid hn
  have HM := Lib.hid hm
  have HROW := Lib.hid hrow
  have HCS := Lib.hid hcs
  have hle := atS_le t ts
  rw [← hn] at hle
  have hU : ∀ k, k ≤ n → (∀ j, j < k → cmpT (gl ts j) t < 0) → (∀ q, k ≤ q → q < n → 0 ≤ cmpT (gl ts q) t) → k = atS t ts := fun k hk h1 h2 => atS_unique (by rw [← hn]; exact hk) h1 (fun h => by have := h2 k (Nat.le_refl _) (by rw [hn]; exact h); omega)
  have HU := Lib.hid hU
  have hdn : ∀ i j, j ≤ i → i < n → cmpT (gl ts i) t < 0 → cmpT (gl ts j) t < 0 := fun i j h1 h2 h3 => cmp_down hsrt h1 (by rw [← hn]; exact h2) h3
  have HDN := Lib.hid hdn
  have hhas : hasS t ts = decide (atS t ts < n ∧ gl ts (atS t ts) = t) := by unfold hasS; rw [hn]
  have HHAS := Lib.hid hhas
  clear hn hm hrow hcs hU hdn hhas hsrt
  go_enter Try.func89, Try.ntmps89
  go_wp2_with (fail)
  go_loopw [9, 10] (fun u9 u10 wr => ∃ i j : Nat, i ≤ j ∧ j ≤ n ∧ u9 = .int .i64 (i : Int) ∧ u10 = .int .i64 (j : Int) ∧ Hid (∀ q, q < i → cmpT (gl ts q) t < 0) ∧ Hid (∀ q, j ≤ q → q < n → 0 ≤ cmpT (gl ts q) t) ∧ Below w.heap.size w wr) (fun u9 u10 _ => (intOf u10).toNat - (intOf u9).toNat)
  case atStart => exact ⟨0, n, Nat.zero_le _, Nat.le_refl _, rfl, rfl, fun q hq => by omega, fun q h1 h2 => by omega, Below.refl _ _⟩
  case round =>
    obtain ⟨ws, rfl⟩ : ∃ ws : World, ws = wr := ⟨_, rfl⟩
    obtain ⟨i, j, hij, hj, rfl, rfl, HL, HG, hb⟩ := hrel
    have ow := own_below ho hb
    have rw' := hr.below hb
    have hsw := hs.call hb
    by_cases hlt : i < j
    · have hh1 : (i + j) / 2 < j := by omega
      have hh2 : i ≤ (i + j) / 2 := by omega
      have hhn : (i + j) / 2 < n := by omega
      obtain ⟨g, rfl, _, _, _⟩ := own_src ow (by omega)
      obtain ⟨Ah, ch, e1, e2, _, ih⟩ := sh_cell ow rw' HN.out HCS.out hhn
      have hrl := HROW.out _ hhn
      have hcall := i_shCmp Ah A' (gl ts ((i + j) / 2)).length ch m c' (gt cs ((i + j) / 2)) (gl ts ((i + j) / 2)) t ws rfl HM.out hrl hm6 ih hsw
      have HL2 := Lib.hid (show cmpT (gl ts ((i + j) / 2)) t < 0 → ∀ q, q < (i + j) / 2 + 1 → cmpT (gl ts q) t < 0 from fun h q hq => HDN.out _ q (by omega) hhn h)
      have HG2 := Lib.hid (show 0 ≤ cmpT (gl ts ((i + j) / 2)) t → ∀ q, (i + j) / 2 ≤ q → q < n → 0 ≤ cmpT (gl ts q) t from fun h q h1 h2 => by
        rcases Nat.lt_or_ge ((i + j) / 2) q with h3 | h3
        · refine Int.not_lt.1 fun h4 => ?_
          have := HDN.out q ((i + j) / 2) h1 h2 h4
          omega
        · obtain rfl : q = (i + j) / 2 := by omega
          exact h)
      generalize (gl ts ((i + j) / 2)).length = Lh at *
      generalize cmpT (gl ts ((i + j) / 2)) t = z at *
      generalize gt cs ((i + j) / 2) = cn at *
      clear ow rw' ih hsw hrl
      by_cases hz : z < 0
      · have H1 := Lib.hid (HL2.out hz)
        go_wp2_with (go_at_call 90; refine hcall.mono ?_; rintro e w2 ⟨rfl, hb2⟩)
        go_roundw
        case rel => exact ⟨(i + j) / 2 + 1, j, by omega, hj, by go_num, rfl, H1.out, HG.out, hb.trans (hb2.mono hb.size)⟩
        case measure => simp [intOf]; omega
      · have hz := Int.not_lt.1 hz
        have H1 := Lib.hid (HG2.out hz)
        go_wp2_with (go_at_call 90; refine hcall.mono ?_; rintro e w2 ⟨rfl, hb2⟩)
        go_roundw
        case rel => exact ⟨i, (i + j) / 2, by omega, by omega, rfl, by go_num, HL.out, H1.out, hb.trans (hb2.mono hb.size)⟩
        case measure => simp [intOf]; omega
    · obtain rfl : i = j := by omega
      have hat := HU.out i hj HL.out HG.out
      have hhs := HHAS.out
      rw [← hat] at hhs
      have HAT := Lib.hid hat
      rcases Nat.lt_or_ge i n with hin | hin
      · obtain ⟨g, rfl, _, _, _⟩ := own_src ow (by omega)
        obtain ⟨Ah, ch, e1, e2, _, ih⟩ := sh_cell ow rw' HN.out HCS.out hin
        have hrl := HROW.out _ hin
        have hcall := i_shCmp Ah A' (gl ts i).length ch m c' (gt cs i) (gl ts i) t ws rfl HM.out hrl hm6 ih hsw
        have hhz : hasS t ts = (cmpT (gl ts i) t == 0) := by
          rw [hhs]
          cases hb' : (cmpT (gl ts i) t == 0)
          · rw [decide_eq_false_iff_not]
            rintro ⟨_, h⟩
            rw [beq_eq_false_iff_ne] at hb'
            exact hb' (cmpT_eq0.2 h)
          · rw [decide_eq_true_eq]
            exact ⟨hin, cmpT_eq0.1 (by rwa [beq_iff_eq] at hb')⟩
        have HHZ := Lib.hid hhz
        generalize (gl ts i).length = Lh at *
        generalize cmpT (gl ts i) t = z at *
        generalize gt cs i = cn at *
        clear ow rw' ih hsw hrl hhs hhz hat
        go_wp2_with (go_at_call 90; refine hcall.mono ?_; rintro e w2 ⟨rfl, hb2⟩)
        go_ret2
        exact ⟨by rw [← HAT.out, HHZ.out]; rfl, hb.trans (hb2.mono hb.size)⟩
      · have hhz : hasS t ts = false := by rw [hhs, decide_eq_false_iff_not]; rintro ⟨h, _⟩; omega
        have HHZ := Lib.hid hhz
        clear ow rw' hsw hhs hhz hat
        go_wp2_with (fail)
        go_ret2
        exact ⟨by rw [← HAT.out, HHZ.out]; rfl, hb⟩
end Go.Proofs.Ytglijcdnnaekkaa
