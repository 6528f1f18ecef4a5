/- The reference's insertion sort. -/
import Derived.Test.YtkhadipfibllnaaA98
import Derived.Deep.RegionLaw
import Derived.Test.YtkhadipfibllnaaA19
namespace Go.Proofs.Ytkhadipfibllnaa
set_option linter.unusedVariables false
set_option linter.unusedSimpArgs false
open Go.RowKit

set_option maxRecDepth 10000 in
set_option maxHeartbeats 4000000 in
theorem s_l11Sorted (A : Option Addr) (n c : Nat) (l : List Int) (w : World) (hn : n = l.length) (hl : n ≤ 6) (hs : IS w w.heap.size A l) :
    Calls Try.prog 138 #[.slice A n c] w (MI w.heap.size n (insS l n) w) := by
  have HN := Lib.hid hn
  clear hn
  obtain ⟨i0, hi, hz0, hz1, hz2⟩ := info_parts infoI64
  go_enter Try.func138, Try.ntmps138
  go_wp2_with (fail)
  go_loopw [3, 4] (fun u3 u4 wr => ∃ (k g c3 : Nat), k ≤ n ∧ u4 = .int .i64 k ∧ u3 = .slice (some ⟨g, 0, none⟩) k c3 ∧ wr.ownsRow w.heap.size 2 1 u3 k (ints (insS l k)) ∧ Below w.heap.size w wr) (fun _ u4 _ => n - (intOf u4).toNat)
  case atStart => exact ⟨0, w.heap.size, 0, Nat.zero_le _, rfl, rfl, World.ownsRow_lit w #[] 0 (Nat.le_refl _) (by simp [maxLen]) rfl, (Below.refl _ _).alloc (Nat.le_refl _) _⟩
  case round =>
    obtain ⟨wo, rfl⟩ : ∃ wo : World, wo = wr := ⟨_, rfl⟩
    obtain ⟨k, g, c3, hk, rfl, rfl, hown, hb⟩ := hrel
    obtain ⟨hkc, hcm⟩ := own_cap hown
    have hgl := (hown.lt g rfl).2
    have hsz := hb.size
    by_cases hlt : k < n
    · have hkl : k < l.length := by rw [← HN.out]; exact hlt
      obtain ⟨b, off, rfl, hbb, hcell⟩ := hs.at hkl
      have e1 := (hb.cell (p := ⟨b, off + k, none⟩) hbb).trans (hcell k hkl)
      have hst : insS l (k + 1) = insL (insS l k) (gt l k) := rfl
      have hil := insS_len l k
      have hll := insS_len l (k + 1)
      generalize gt l k = x at *
      have hinsd : insL (insS l k) x = (insS l k).take (posL (insS l k) x (insS l k).length) ++ [x] ++ (insS l k).drop (posL (insS l k) x (insS l k).length) := rfl
      rw [hil] at hinsd
      rw [hst] at hll
      generalize insS l k = out at *
      have hcl : ∀ j, j < k → wo.cell? ⟨g, j, none⟩ = some (.int .i64 (gt out j)) := fun j hj => by
        have h9 := World.ownsRow.cells hown (g := g) rfl j _ (ints_at (by rw [hil]; exact hj))
        rw [Go.WideShapes.add_plain] at h9
        simpa using h9
      have HCL := Lib.hid hcl
      have HST := Lib.hid hst
      have HIL := Lib.hid hil
      have HLL := Lib.hid hll
      have HIN := Lib.hid hinsd
      have hple := pos_le out x k
      clear hcl hst hil hll hinsd hcell
      go_wp2_with (fail)
      go_loopw [5] (fun u5 wr => ∃ p : Nat, p ≤ k ∧ u5 = .int .i64 p ∧ Hid (posL out x p = posL out x k) ∧ DR wo wr) (fun u5 _ => (intOf u5).toNat)
      case atStart => exact ⟨k, Nat.le_refl _, rfl, rfl, DR.refl _⟩
      case round =>
        obtain ⟨p, hp, rfl, HP, hdr⟩ := hrel
        have e3 := (hdr.cell _).trans e1
        have hexit : ∀ wr' : World, True := fun _ => trivial
        rcases Nat.eq_zero_or_pos p with rfl | hp0
        · have hfin : Hid (posL out x k = 0) := HP.out.symm
          go_wp2_with (go_quiet (fail))
          have hd2 : ∀ (j : Nat) (u : Value), (ints (out.drop 0))[j]? = some u → (ints out)[j]? = some u := fun j u hj => by rw [List.drop_zero] at hj; exact hj
          have HFIN := hfin
          have hdr : DR wo (wr.drewN nq) := by repeat (first | exact hdr | refine DR.step ?_ _)
          generalize wr.drewN nq = wt at hdr ⊢
          clear e3
          have e3 := (hdr.cell ⟨b, off + k, none⟩).trans e1
          have hpk : 0 ≤ k := by have := HFIN.out; omega
          have hpl : (0 : Int) ≤ (k : Int) := by omega
          have hpc : 0 ≤ c3 := by omega
          have hpci : ((0 : Nat) : Int) ≤ (c3 : Int) := by omega
          have hoT : wt.ownsRow w.heap.size 2 1 (.slice (some ⟨g, 0, none⟩) k c3) k (ints out) := by obtain ⟨d, rfl⟩ := hdr; exact own_dr hown d
          have hbT : Below w.heap.size w wt := by obtain ⟨d, rfl⟩ := hdr; exact below_drewN hb d
          have hgT : g < wt.heap.size := (hoT.lt g rfl).2
          have hszT := hbT.size
          have hbwT : b < wt.heap.size := by omega
          have htk : (out.take (0)).length = 0 := by rw [List.length_take, HIL.out]; omega
          have hdp : (out.drop (0)).length = k - (0) := by rw [List.length_drop, HIL.out]
          have HTK := Lib.hid htk
          have HDP := Lib.hid hdp
          clear htk hdp
          have hownc : ∀ W : World, W.ownsRow w.heap.size 2 1 (.slice (some ⟨g, 0, none⟩) k c3) k (ints out) → Calls Try.prog 141 #[.slice (some ⟨g, 0, none⟩) (0) c3] W (MI W.heap.size (0) (out.take (0)) W) := fun W hl => by
            have hlt := (hl.lt g rfl).2
            refine s_l01Own ⟨g, 0, none⟩ (0) c3 (out.take (0)) W HTK.out.symm (by omega) (fun j u hj => World.ownsRow.cells hl (g := g) rfl j u ?_) (fun j => by rw [Go.WideShapes.add_plain]; exact hlt)
            unfold ints at hj ⊢
            rw [List.getElem?_map] at hj ⊢
            rw [List.getElem?_take] at hj
            split at hj
            · exact hj
            · simp at hj
          have hcell6 : ∀ W : World, Below wt.heap.size wt W → W.cell? ⟨b, off + k, none⟩ = some (.int .i64 x) := fun W hW => (hW.cell (p := ⟨b, off + k, none⟩) hbwT).trans e3
          have hoA : wt.drew.ownsRow w.heap.size 2 1 (.slice (some ⟨g, 0, none⟩) k c3) k (ints out) := hoT
          have hoB := World.ownsRow.alloc hoA (.cells #[.int .i64 x] 2)
          have hcA := hownc wt.drew hoA
          have hcB := hownc (wt.drew.alloc (.cells #[.int .i64 x] 2)) hoB
          have hsrc2 : ∀ W : World, W.ownsRow w.heap.size 2 1 (.slice (some ⟨g, 0, none⟩) k c3) k (ints out) → ∀ j u, (ints (out.drop (0)))[j]? = some u → W.cell? ((⟨g, 0, none⟩ : Addr).add j) = some u := fun W hl j u hj => by
            exact World.ownsRow.cells hl (g := g) rfl j u (hd2 j u hj)
          have hgl7 := fun (x7 : Nat) (h7 : wt.heap.size ≤ x7) => (show g ≠ x7 by omega)
          go_region_law
            (first
              | ((refine step_append_own (by rfl) (.tmp 40) (.tmp 43) 28 (by rfl) w.heap.size 2 i0 (.int .i64 0) 1 8 Try.underlying28 hi hz0 hz1 hz2 rfl (by omega) v7 (0 + 1) (ints (out.take (0)) ++ [.int .i64 x]) (by rfl) hown7 ⟨g, 0, none⟩ k c3 (ints (out.drop (0))) (by rfl) (by rw [ints_length, Nat.mul_one]; first | exact HDP.out | (rw [HDP.out]; omega)) (hsrc2 _ ho7) (ints_one _) (by simp only [maxLen]; omega) (by omega) (by have h1 := hbo.size; have h2 := hg7.size; simp at h1 h2; omega) ?_; intro v8 w8 hown8 hg8 hat8))
              | ((refine step_append_own (by rfl) (.tmp 34) (.tmp 39) 28 (by rfl) w.heap.size 2 i0 (.int .i64 0) 1 8 Try.underlying28 hi hz0 hz1 hz2 rfl (by omega) (.slice Ao (0) co) (0) (ints (out.take (0))) (by rfl) (World.ownsRow.alloc (own_mono hoo (by show w.heap.size ≤ wt.heap.size; omega)) _) ⟨w6.heap.size, 0, none⟩ 1 1 [.int .i64 x] (by rfl) (by rfl) (fun j u hj => one_src w6 _ _ _ rfl j u hj) (by intro u hu; simp at hu; subst hu; rfl) (by simp only [maxLen]; omega) (by omega) (by have := hbo.size; have : wt.heap.size ≤ w6.heap.size := this; simp; omega) ?_; intro v7 w7 hown7 hg7 hat7; have ho7 := World.ownsRow.kept (World.ownsRow.alloc (own_below (w := wt.drew) hoA hbo) _) hg7 (.inr (fun e => hgl7 g (hoo.lt g e.symm).1 rfl)); have hb7 := (Below.grown (((hbT.drew).trans (hbo.mono (by show w.heap.size ≤ wt.heap.size; omega))).alloc (by have := hbo.size; have : wt.heap.size ≤ w6.heap.size := this; omega) _) hg7 (by have := hbo.size; have : wt.heap.size ≤ w6.heap.size := this; simp; omega) (fun x7 hx7 => by have h3 : wt.heap.size ≤ x7 := (hoo.lt x7 hx7).1; omega))))
              | ((refine step_append_own (by rfl) (.tmp 34) (.tmp 39) 28 (by rfl) w.heap.size 2 i0 (.int .i64 0) 1 8 Try.underlying28 hi hz0 hz1 hz2 rfl (by omega) (.slice Ao (0) co) (0) (ints (out.take (0))) (by rfl) (own_mono hoo (by simp; omega)) ⟨wt.heap.size, 0, none⟩ 1 1 [.int .i64 x] (by rfl) (by rfl) (fun j u hj => (hbo.cell (p := (⟨wt.heap.size, 0, none⟩ : Addr).add j) (by rw [Go.WideShapes.add_plain]; simp)).trans (one_src wt.drew (.int .i64 x) 2 _ rfl j u hj)) (by intro u hu; simp at hu; subst hu; rfl) (by simp only [maxLen]; omega) (by omega) (by have := hbo.size; simp at this; omega) ?_; intro v7 w7 hown7 hg7 hat7; have ho7 := World.ownsRow.kept (own_below hoB hbo) hg7 (.inr (fun e => hgl7 g (by have h3 := (hoo.lt g e.symm).1; simp at h3; omega) rfl)); have hb7 := (Below.grown (((hbT.drew).alloc (by show w.heap.size ≤ wt.heap.size; omega) _).trans (hbo.mono (by simp; omega))) hg7 (by have := hbo.size; simp at this; omega) (fun x7 hx7 => by have h3 := (hoo.lt x7 hx7).1; simp at h3; omega))))
              | (go_simp; go_at_call 141; first | (refine hcA.mono ?_; rintro e w6 ⟨v6, rfl, hoo, hbo⟩; obtain ⟨Ao, co, rfl, _⟩ := own_slice' hoo; have e6 := hcell6 w6 (undrew (n := 1) hbo)) | (refine hcB.mono ?_; rintro e w6 ⟨v6, rfl, hoo, hbo⟩; obtain ⟨Ao, co, rfl, _⟩ := own_slice' hoo; have e6 := hcell6 w6 (((Below.refl wt.heap.size wt).drew.alloc (Nat.le_refl _) _).trans (hbo.mono (by simp))))))
          all_goals
            go_wp2_with (fail)
            have hlen8 : 0 + 1 + k = k + 1 := by omega
            rw [hlen8] at hown8
            have hins : ints (out.take (0)) ++ [Value.int .i64 x] ++ ints (out.drop (0)) = ints (insS l (k + 1)) := by
              rw [HST.out, HIN.out, HFIN.out]; simp [ints]
            rw [hins] at hown8
            have hb8 := hb7.grown hg8 (by have := hb7.size; omega) (fun x8 hx8 => (hown7.lt x8 hx8).1)
            obtain ⟨A8, c8, rfl, _⟩ := own_slice' hown8
            obtain ⟨g8, rfl, _, _, _⟩ := own_src hown8 (by omega)
            go_roundw
            case rel => exact ⟨k + 1, g8, c8, by omega, by go_num, rfl, hown8, hb8⟩
            case measure => simp [intOf]; omega
        · obtain ⟨q, rfl⟩ : ∃ q, p = q + 1 := ⟨p - 1, by omega⟩
          have e2 := (hdr.cell _).trans (HCL.out q (by omega))
          have hs1 : IntKind.i64.wrap (((q + 1 : Nat) : Int) - 1) = ((q + 1 : Nat) : Int) - 1 := IntWalk.i64_in _ (by omega)
          have hs2 : (((q + 1 : Nat) : Int) - 1).toNat = q := by omega
          have hs3 : (0 : Int) ≤ ((q + 1 : Nat) : Int) - 1 := by omega
          by_cases hx : x < gt out q
          · have HP' : Hid (posL out x q = posL out x k) := by unfold Hid; rw [← HP.out, pos_yes hx]
            go_wp2_with (go_quiet (fail))
            go_roundw
            case rel => exact ⟨q, by omega, by go_num, HP'.out, by repeat (first | exact hdr | refine DR.step ?_ _)⟩
            case measure => simp [intOf]
          · have hfin : Hid (posL out x k = q + 1) := by unfold Hid; rw [← HP.out, pos_no hx]
            go_wp2_with (go_quiet (fail))
            obtain ⟨p, hpp⟩ : ∃ p, p = q + 1 := ⟨_, rfl⟩
            have hpi : (q : Int) + 1 = (p : Int) := by omega
            rw [hpi]
            rw [← hpp] at hfin
            have hple0 : p ≤ k := by omega
            clear hpi hpp e2 hs1 hs2 hs3
            have hd2 : ∀ (j : Nat) (u : Value), (ints (out.drop p))[j]? = some u → (ints out)[p + j]? = some u := fun j u hj => by
              unfold ints at hj ⊢
              rw [List.getElem?_map] at hj ⊢
              rw [List.getElem?_drop] at hj
              exact hj
            have hkp0 : p ≤ k := hple0
            have hp3 : p ≤ c3 := by omega
            by_cases hcp : c3 = p
            · have hkp : k = p := by omega
              subst hcp
              subst hkp
              have hd3 : ∀ (j : Nat) (u : Value), (ints (out.drop k))[j]? = some u → False := fun j u hj => by
                have h8 : (ints (out.drop k)).length = 0 := by rw [ints_length, List.length_drop, HIL.out]; omega
                rw [List.getElem?_eq_none (by omega)] at hj; cases hj
              have HFIN := hfin
              have hdr : DR wo (wr.drewN nq) := by repeat (first | exact hdr | refine DR.step ?_ _)
              generalize wr.drewN nq = wt at hdr ⊢
              clear e3
              have e3 := (hdr.cell ⟨b, off + k, none⟩).trans e1
              have hpk : k ≤ k := by have := HFIN.out; omega
              have hpl : (k : Int) ≤ (k : Int) := by omega
              have hpc : k ≤ k := by omega
              have hpci : ((k : Nat) : Int) ≤ (k : Int) := by omega
              have hoT : wt.ownsRow w.heap.size 2 1 (.slice (some ⟨g, 0, none⟩) k k) k (ints out) := by obtain ⟨d, rfl⟩ := hdr; exact own_dr hown d
              have hbT : Below w.heap.size w wt := by obtain ⟨d, rfl⟩ := hdr; exact below_drewN hb d
              have hgT : g < wt.heap.size := (hoT.lt g rfl).2
              have hszT := hbT.size
              have hbwT : b < wt.heap.size := by omega
              have htk : (out.take (k)).length = k := by rw [List.length_take, HIL.out]; omega
              have hdp : (out.drop (k)).length = k - (k) := by rw [List.length_drop, HIL.out]
              have HTK := Lib.hid htk
              have HDP := Lib.hid hdp
              clear htk hdp
              have hownc : ∀ W : World, W.ownsRow w.heap.size 2 1 (.slice (some ⟨g, 0, none⟩) k k) k (ints out) → Calls Try.prog 141 #[.slice (some ⟨g, 0, none⟩) (k) k] W (MI W.heap.size (k) (out.take (k)) W) := fun W hl => by
                have hlt := (hl.lt g rfl).2
                refine s_l01Own ⟨g, 0, none⟩ (k) k (out.take (k)) W HTK.out.symm (by omega) (fun j u hj => World.ownsRow.cells hl (g := g) rfl j u ?_) (fun j => by rw [Go.WideShapes.add_plain]; exact hlt)
                unfold ints at hj ⊢
                rw [List.getElem?_map] at hj ⊢
                rw [List.getElem?_take] at hj
                split at hj
                · exact hj
                · simp at hj
              have hcell6 : ∀ W : World, Below wt.heap.size wt W → W.cell? ⟨b, off + k, none⟩ = some (.int .i64 x) := fun W hW => (hW.cell (p := ⟨b, off + k, none⟩) hbwT).trans e3
              have hoA : wt.drew.ownsRow w.heap.size 2 1 (.slice (some ⟨g, 0, none⟩) k k) k (ints out) := hoT
              have hoB := World.ownsRow.alloc hoA (.cells #[.int .i64 x] 2)
              have hcA := hownc wt.drew hoA
              have hcB := hownc (wt.drew.alloc (.cells #[.int .i64 x] 2)) hoB
              have hsrc2 : ∀ W : World, W.ownsRow w.heap.size 2 1 (.slice (some ⟨g, 0, none⟩) k k) k (ints out) → ∀ j u, (ints (out.drop (k)))[j]? = some u → W.cell? ((⟨g, 0, none⟩ : Addr).add j) = some u := fun W hl j u hj => by
                exact (hd3 j u hj).elim
              have hgl7 := fun (x7 : Nat) (h7 : wt.heap.size ≤ x7) => (show g ≠ x7 by omega)
              go_region_law
                (first
                  | ((refine step_append_own (by rfl) (.tmp 40) (.tmp 43) 28 (by rfl) w.heap.size 2 i0 (.int .i64 0) 1 8 Try.underlying28 hi hz0 hz1 hz2 rfl (by omega) v7 (k + 1) (ints (out.take (k)) ++ [.int .i64 x]) (by rfl) hown7 ⟨g, 0, none⟩ 0 0 (ints (out.drop (k))) (by rfl) (by rw [ints_length, Nat.mul_one]; first | exact HDP.out | (rw [HDP.out]; omega)) (hsrc2 _ ho7) (ints_one _) (by simp only [maxLen]; omega) (by omega) (by have h1 := hbo.size; have h2 := hg7.size; simp at h1 h2; omega) ?_; intro v8 w8 hown8 hg8 hat8))
                  | ((refine step_append_own (by rfl) (.tmp 34) (.tmp 39) 28 (by rfl) w.heap.size 2 i0 (.int .i64 0) 1 8 Try.underlying28 hi hz0 hz1 hz2 rfl (by omega) (.slice Ao (k) co) (k) (ints (out.take (k))) (by rfl) (World.ownsRow.alloc (own_mono hoo (by show w.heap.size ≤ wt.heap.size; omega)) _) ⟨w6.heap.size, 0, none⟩ 1 1 [.int .i64 x] (by rfl) (by rfl) (fun j u hj => one_src w6 _ _ _ rfl j u hj) (by intro u hu; simp at hu; subst hu; rfl) (by simp only [maxLen]; omega) (by omega) (by have := hbo.size; have : wt.heap.size ≤ w6.heap.size := this; simp; omega) ?_; intro v7 w7 hown7 hg7 hat7; have ho7 := World.ownsRow.kept (World.ownsRow.alloc (own_below (w := wt.drew) hoA hbo) _) hg7 (.inr (fun e => hgl7 g (hoo.lt g e.symm).1 rfl)); have hb7 := (Below.grown (((hbT.drew).trans (hbo.mono (by show w.heap.size ≤ wt.heap.size; omega))).alloc (by have := hbo.size; have : wt.heap.size ≤ w6.heap.size := this; omega) _) hg7 (by have := hbo.size; have : wt.heap.size ≤ w6.heap.size := this; simp; omega) (fun x7 hx7 => by have h3 : wt.heap.size ≤ x7 := (hoo.lt x7 hx7).1; omega))))
                  | ((refine step_append_own (by rfl) (.tmp 34) (.tmp 39) 28 (by rfl) w.heap.size 2 i0 (.int .i64 0) 1 8 Try.underlying28 hi hz0 hz1 hz2 rfl (by omega) (.slice Ao (k) co) (k) (ints (out.take (k))) (by rfl) (own_mono hoo (by simp; omega)) ⟨wt.heap.size, 0, none⟩ 1 1 [.int .i64 x] (by rfl) (by rfl) (fun j u hj => (hbo.cell (p := (⟨wt.heap.size, 0, none⟩ : Addr).add j) (by rw [Go.WideShapes.add_plain]; simp)).trans (one_src wt.drew (.int .i64 x) 2 _ rfl j u hj)) (by intro u hu; simp at hu; subst hu; rfl) (by simp only [maxLen]; omega) (by omega) (by have := hbo.size; simp at this; omega) ?_; intro v7 w7 hown7 hg7 hat7; have ho7 := World.ownsRow.kept (own_below hoB hbo) hg7 (.inr (fun e => hgl7 g (by have h3 := (hoo.lt g e.symm).1; simp at h3; omega) rfl)); have hb7 := (Below.grown (((hbT.drew).alloc (by show w.heap.size ≤ wt.heap.size; omega) _).trans (hbo.mono (by simp; omega))) hg7 (by have := hbo.size; simp at this; omega) (fun x7 hx7 => by have h3 := (hoo.lt x7 hx7).1; simp at h3; omega))))
                  | (go_simp; go_at_call 141; first | (refine hcA.mono ?_; rintro e w6 ⟨v6, rfl, hoo, hbo⟩; obtain ⟨Ao, co, rfl, _⟩ := own_slice' hoo; have e6 := hcell6 w6 (undrew (n := 1) hbo)) | (refine hcB.mono ?_; rintro e w6 ⟨v6, rfl, hoo, hbo⟩; obtain ⟨Ao, co, rfl, _⟩ := own_slice' hoo; have e6 := hcell6 w6 (((Below.refl wt.heap.size wt).drew.alloc (Nat.le_refl _) _).trans (hbo.mono (by simp))))))
              all_goals
                go_wp2_with (fail)
                have hlen8 : k + 1 + 0 = k + 1 := by omega
                rw [hlen8] at hown8
                have hins : ints (out.take (k)) ++ [Value.int .i64 x] ++ ints (out.drop (k)) = ints (insS l (k + 1)) := by
                  rw [HST.out, HIN.out, HFIN.out]; simp [ints]
                rw [hins] at hown8
                have hb8 := hb7.grown hg8 (by have := hb7.size; omega) (fun x8 hx8 => (hown7.lt x8 hx8).1)
                obtain ⟨A8, c8, rfl, _⟩ := own_slice' hown8
                obtain ⟨g8, rfl, _, _, _⟩ := own_src hown8 (by omega)
                go_roundw
                case rel => exact ⟨k + 1, g8, c8, by omega, by go_num, rfl, hown8, hb8⟩
                case measure => simp [intOf]; omega
            · skip
              have HFIN := hfin
              have hdr : DR wo (wr.drewN nq) := by repeat (first | exact hdr | refine DR.step ?_ _)
              generalize wr.drewN nq = wt at hdr ⊢
              clear e3
              have e3 := (hdr.cell ⟨b, off + k, none⟩).trans e1
              have hpk : p ≤ k := by have := HFIN.out; omega
              have hpl : (p : Int) ≤ (k : Int) := by omega
              have hpc : p ≤ c3 := by omega
              have hpci : ((p : Nat) : Int) ≤ (c3 : Int) := by omega
              have hoT : wt.ownsRow w.heap.size 2 1 (.slice (some ⟨g, 0, none⟩) k c3) k (ints out) := by obtain ⟨d, rfl⟩ := hdr; exact own_dr hown d
              have hbT : Below w.heap.size w wt := by obtain ⟨d, rfl⟩ := hdr; exact below_drewN hb d
              have hgT : g < wt.heap.size := (hoT.lt g rfl).2
              have hszT := hbT.size
              have hbwT : b < wt.heap.size := by omega
              have htk : (out.take (p)).length = p := by rw [List.length_take, HIL.out]; omega
              have hdp : (out.drop (p)).length = k - (p) := by rw [List.length_drop, HIL.out]
              have HTK := Lib.hid htk
              have HDP := Lib.hid hdp
              clear htk hdp
              have hownc : ∀ W : World, W.ownsRow w.heap.size 2 1 (.slice (some ⟨g, 0, none⟩) k c3) k (ints out) → Calls Try.prog 141 #[.slice (some ⟨g, 0, none⟩) (p) c3] W (MI W.heap.size (p) (out.take (p)) W) := fun W hl => by
                have hlt := (hl.lt g rfl).2
                refine s_l01Own ⟨g, 0, none⟩ (p) c3 (out.take (p)) W HTK.out.symm (by omega) (fun j u hj => World.ownsRow.cells hl (g := g) rfl j u ?_) (fun j => by rw [Go.WideShapes.add_plain]; exact hlt)
                unfold ints at hj ⊢
                rw [List.getElem?_map] at hj ⊢
                rw [List.getElem?_take] at hj
                split at hj
                · exact hj
                · simp at hj
              have hcell6 : ∀ W : World, Below wt.heap.size wt W → W.cell? ⟨b, off + k, none⟩ = some (.int .i64 x) := fun W hW => (hW.cell (p := ⟨b, off + k, none⟩) hbwT).trans e3
              have hoA : wt.drew.ownsRow w.heap.size 2 1 (.slice (some ⟨g, 0, none⟩) k c3) k (ints out) := hoT
              have hoB := World.ownsRow.alloc hoA (.cells #[.int .i64 x] 2)
              have hcA := hownc wt.drew hoA
              have hcB := hownc (wt.drew.alloc (.cells #[.int .i64 x] 2)) hoB
              have hsrc2 : ∀ W : World, W.ownsRow w.heap.size 2 1 (.slice (some ⟨g, 0, none⟩) k c3) k (ints out) → ∀ j u, (ints (out.drop (p)))[j]? = some u → W.cell? ((⟨g, p, none⟩ : Addr).add j) = some u := fun W hl j u hj => by
                (have h10 := World.ownsRow.cells hl (g := g) rfl _ u (hd2 j u hj); rw [Go.WideShapes.add_plain] at h10 ⊢; simpa using h10)
              have hgl7 := fun (x7 : Nat) (h7 : wt.heap.size ≤ x7) => (show g ≠ x7 by omega)
              go_region_law
                (first
                  | ((refine step_append_own (by rfl) (.tmp 40) (.tmp 43) 28 (by rfl) w.heap.size 2 i0 (.int .i64 0) 1 8 Try.underlying28 hi hz0 hz1 hz2 rfl (by omega) v7 (p + 1) (ints (out.take (p)) ++ [.int .i64 x]) (by rfl) hown7 ⟨g, p, none⟩ (k - p) (c3 - p) (ints (out.drop (p))) (by rfl) (by rw [ints_length, Nat.mul_one]; first | exact HDP.out | (rw [HDP.out]; omega)) (hsrc2 _ ho7) (ints_one _) (by simp only [maxLen]; omega) (by omega) (by have h1 := hbo.size; have h2 := hg7.size; simp at h1 h2; omega) ?_; intro v8 w8 hown8 hg8 hat8))
                  | ((refine step_append_own (by rfl) (.tmp 34) (.tmp 39) 28 (by rfl) w.heap.size 2 i0 (.int .i64 0) 1 8 Try.underlying28 hi hz0 hz1 hz2 rfl (by omega) (.slice Ao (p) co) (p) (ints (out.take (p))) (by rfl) (World.ownsRow.alloc (own_mono hoo (by show w.heap.size ≤ wt.heap.size; omega)) _) ⟨w6.heap.size, 0, none⟩ 1 1 [.int .i64 x] (by rfl) (by rfl) (fun j u hj => one_src w6 _ _ _ rfl j u hj) (by intro u hu; simp at hu; subst hu; rfl) (by simp only [maxLen]; omega) (by omega) (by have := hbo.size; have : wt.heap.size ≤ w6.heap.size := this; simp; omega) ?_; intro v7 w7 hown7 hg7 hat7; have ho7 := World.ownsRow.kept (World.ownsRow.alloc (own_below (w := wt.drew) hoA hbo) _) hg7 (.inr (fun e => hgl7 g (hoo.lt g e.symm).1 rfl)); have hb7 := (Below.grown (((hbT.drew).trans (hbo.mono (by show w.heap.size ≤ wt.heap.size; omega))).alloc (by have := hbo.size; have : wt.heap.size ≤ w6.heap.size := this; omega) _) hg7 (by have := hbo.size; have : wt.heap.size ≤ w6.heap.size := this; simp; omega) (fun x7 hx7 => by have h3 : wt.heap.size ≤ x7 := (hoo.lt x7 hx7).1; omega))))
                  | ((refine step_append_own (by rfl) (.tmp 34) (.tmp 39) 28 (by rfl) w.heap.size 2 i0 (.int .i64 0) 1 8 Try.underlying28 hi hz0 hz1 hz2 rfl (by omega) (.slice Ao (p) co) (p) (ints (out.take (p))) (by rfl) (own_mono hoo (by simp; omega)) ⟨wt.heap.size, 0, none⟩ 1 1 [.int .i64 x] (by rfl) (by rfl) (fun j u hj => (hbo.cell (p := (⟨wt.heap.size, 0, none⟩ : Addr).add j) (by rw [Go.WideShapes.add_plain]; simp)).trans (one_src wt.drew (.int .i64 x) 2 _ rfl j u hj)) (by intro u hu; simp at hu; subst hu; rfl) (by simp only [maxLen]; omega) (by omega) (by have := hbo.size; simp at this; omega) ?_; intro v7 w7 hown7 hg7 hat7; have ho7 := World.ownsRow.kept (own_below hoB hbo) hg7 (.inr (fun e => hgl7 g (by have h3 := (hoo.lt g e.symm).1; simp at h3; omega) rfl)); have hb7 := (Below.grown (((hbT.drew).alloc (by show w.heap.size ≤ wt.heap.size; omega) _).trans (hbo.mono (by simp; omega))) hg7 (by have := hbo.size; simp at this; omega) (fun x7 hx7 => by have h3 := (hoo.lt x7 hx7).1; simp at h3; omega))))
                  | (go_simp; go_at_call 141; first | (refine hcA.mono ?_; rintro e w6 ⟨v6, rfl, hoo, hbo⟩; obtain ⟨Ao, co, rfl, _⟩ := own_slice' hoo; have e6 := hcell6 w6 (undrew (n := 1) hbo)) | (refine hcB.mono ?_; rintro e w6 ⟨v6, rfl, hoo, hbo⟩; obtain ⟨Ao, co, rfl, _⟩ := own_slice' hoo; have e6 := hcell6 w6 (((Below.refl wt.heap.size wt).drew.alloc (Nat.le_refl _) _).trans (hbo.mono (by simp))))))
              all_goals
                go_wp2_with (fail)
                have hlen8 : p + 1 + (k - p) = k + 1 := by omega
                rw [hlen8] at hown8
                have hins : ints (out.take (p)) ++ [Value.int .i64 x] ++ ints (out.drop (p)) = ints (insS l (k + 1)) := by
                  rw [HST.out, HIN.out, HFIN.out]; simp [ints]
                rw [hins] at hown8
                have hb8 := hb7.grown hg8 (by have := hb7.size; omega) (fun x8 hx8 => (hown7.lt x8 hx8).1)
                obtain ⟨A8, c8, rfl, _⟩ := own_slice' hown8
                obtain ⟨g8, rfl, _, _, _⟩ := own_src hown8 (by omega)
                go_roundw
                case rel => exact ⟨k + 1, g8, c8, by omega, by go_num, rfl, hown8, hb8⟩
                case measure => simp [intOf]; omega
    · obtain rfl : k = n := by omega
      go_wp2_with (fail)
      go_ret
      exact ⟨_, rfl, hown, hb⟩
end Go.Proofs.Ytkhadipfibllnaa
