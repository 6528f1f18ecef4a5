/- Several parts of the proof in one text; each part says what it shows. Nothing is assumed. -/
import Derived.Test.YtjfinniebijgbaaDoorA92
import Derived.Test.YtjfinniebijgbaaDoorA83
/- The cycles of a permutation. -/
namespace Go.Proofs.YtjfinniebijgbaaDoor
set_option linter.unusedVariables false
set_option linter.unusedSimpArgs false
open Go.RowKit

/-- From k on, as far as nothing is seen. -/
def orb (a : List Int) : Nat → Nat → List Bool → List Int → List Bool × List Int
  | 0, _, sn, cy => (sn, cy)
  | f + 1, k, sn, cy => if sn.getD k false then (sn, cy) else orb a f (gt a k).toNat (sn.set k true) (cy ++ [(k : Int)])
theorem orb_seen {a : List Int} {f k : Nat} {sn : List Bool} {cy : List Int} (h : sn.getD k false = true) : orb a f k sn cy = (sn, cy) := by
  cases f with
  | zero => rfl
  | succ f => rw [orb, if_pos h]
theorem orb_go {a : List Int} {f k : Nat} {sn : List Bool} {cy : List Int} (h : sn.getD k false = false) : orb a (f + 1) k sn cy = orb a f (gt a k).toNat (sn.set k true) (cy ++ [(k : Int)]) := by
  rw [orb, if_neg (by rw [h]; simp)]
theorem orb_len (a : List Int) : ∀ (f k : Nat) (sn : List Bool) (cy : List Int), cy.length ≤ (orb a f k sn cy).2.length ∧ (orb a f k sn cy).1.length = sn.length
  | 0, _, _, _ => ⟨Nat.le_refl _, rfl⟩
  | f + 1, k, sn, cy => by
    unfold orb
    split
    · exact ⟨Nat.le_refl _, rfl⟩
    · have h := orb_len a f (gt a k).toNat (sn.set k true) (cy ++ [(k : Int)])
      simp only [List.length_append, List.length_singleton, List.length_set] at h
      exact ⟨by omega, h.2⟩
def cycS (a : List Int) : Nat → Nat → List Bool → List (List Int) → List (List Int)
  | 0, _, _, ll => ll
  | m + 1, i, sn, ll => if sn.getD i false then cycS a m (i + 1) sn ll else cycS a m (i + 1) (orb a (a.length + 1) i sn []).1 (ll ++ [(orb a (a.length + 1) i sn []).2])
def cycL (a : List Int) : List (List Int) := cycS a a.length 0 (List.replicate a.length false) []
theorem cyc_seen {a : List Int} {m i : Nat} {sn : List Bool} {ll : List (List Int)} (h : sn.getD i false = true) : cycS a (m + 1) i sn ll = cycS a m (i + 1) sn ll := by rw [cycS, if_pos h]
theorem cyc_new {a : List Int} {m i : Nat} {sn : List Bool} {ll : List (List Int)} (h : sn.getD i false = false) : cycS a (m + 1) i sn ll = cycS a m (i + 1) (orb a (a.length + 1) i sn []).1 (ll ++ [(orb a (a.length + 1) i sn []).2]) := by
  rw [cycS, if_neg (by rw [h]; simp)]
theorem cyc_len (a : List Int) : ∀ (m i : Nat) (sn : List Bool) (ll : List (List Int)), (cycS a m i sn ll).length ≤ ll.length + m
  | 0, _, _, _ => Nat.le_refl _
  | m + 1, i, sn, ll => by
    unfold cycS
    split
    · have := cyc_len a m (i + 1) sn ll; omega
    · have := cyc_len a m (i + 1) (orb a (a.length + 1) i sn []).1 (ll ++ [(orb a (a.length + 1) i sn []).2])
      simp only [List.length_append, List.length_singleton] at this
      omega
/-- A finished cycle joins the others: its row v1 was made behind wo. -/
theorem cyc_more {base N : Nat} {wo wr w4 : World} {vs : List Value} {ll : List (List Int)} {u3 v1 : Value} {b : List Int} {o : Obj}
    (hg4 : (wr.alloc o).grownBy w4 u3.ownBlock) (ho : wr.ownsRow base 22 1 u3 N vs) (hrows0 : RowsO wo base vs ll) (hrows : RowsO wr base vs ll) (hbase : base ≤ wo.heap.size)
    (ho1 : wr.ownsRow wo.heap.size 2 1 v1 b.length (ints b)) : RowsO w4 base (vs ++ [v1]) (ll ++ [b]) := by
  have hsn := hrows.snoc (own_mono ho1 hbase) (fresh_ne hrows0 (fun g hg => (ho1.lt g hg).1))
  have hsn2 := hsn.kept (World.grownBy_alloc _ o none) (fun i _ => by cases (gv (vs ++ [v1]) i).ownBlock <;> simp)
  have hou := World.ownsRow.alloc ho o
  exact hsn2.kept hg4 (fun i hi => own_ne (hsn2.2.1 i hi) hou (by decide))
theorem bel_mid {s1 : Nat} {w wr : World} (h : Below s1 w wr) : True := trivial
end Go.Proofs.YtjfinniebijgbaaDoor
/- The cycles of a permutation, on the side of the reference. -/
namespace Go.Proofs.YtjfinniebijgbaaDoor
set_option linter.unusedVariables false
set_option linter.unusedSimpArgs false
open Go.RowKit

set_option maxRecDepth 10000 in
set_option maxHeartbeats 4000000 in
theorem s_cycles (A : Option Addr) (n c : Nat) (a : List Int) (w : World) (hn1 : 1 ≤ n) (hn6 : n ≤ 6) (ha : InR n a) (hs : IS w w.heap.size A a) :
    Calls Tryd.prog 53 #[.slice A n c] w (MII (cycL a) w) := by
  have hmk := fun W => run_make_row' (P := Tryd.prog) 79 4 (.bool false) 1 Tryd.underlying79 infoBool rfl .i64 .i64 n (by omega) (by omega) W
  have hroot : cycS a n 0 (List.replicate n false) [] = cycL a := by unfold cycL; rw [ha.1]
  have hal := ha.1
  generalize hRES : cycL a = RES at *
  have HROOT := Lib.hid hroot
  have HA := Lib.hid ha
  clear hroot hRES ha
  obtain ⟨i0, hi, hz0, hz1, hz2⟩ := info_parts infoI64
  obtain ⟨i1, hi1, hy0, hy1, hy2⟩ := info_parts infoSl
  obtain ⟨b, off, rfl, hbb, hcell⟩ := hs.at (k := 0) (by omega)
  rw [hal] at hcell
  have hBB := BB.new w n
  have hb0 := ((Below.refl w.heap.size w).alloc (Nat.le_refl _) (.cells (madeCells (Value.bool false).cells n) 4)).alloc (by simp) (.cells #[] 22)
  have hBB := hBB.alloc (.cells #[] 22)
  have hlit := World.ownsRow_lit (base := w.heap.size + 1) (e := 22) (size := 1) (w.alloc (.cells (madeCells (Value.bool false).cells n) 4)) #[] 0 (by simp) (by simp [maxLen]) rfl
  rw [World.size_alloc] at hlit
  have HAL := Lib.hid hal
  clear hal
  have HC := Lib.hid hcell
  clear hcell
  go_enter Tryd.func53, Tryd.ntmps53
  go_wp2_with (fail)
  have hw0 : w.heap.size + 1 ≤ ((w.alloc (.cells (madeCells (Value.bool false).cells n) 4)).alloc (.cells #[] 22)).heap.size := by simp
  change Code.wp _ _ _ _ ((w.alloc (.cells (madeCells (Value.bool false).cells n) 4)).alloc (.cells #[] 22))
  generalize (w.alloc (.cells (madeCells (Value.bool false).cells n) 4)).alloc (.cells #[] 22) = w0 at *
  clear hmk
  go_loopw [4, 5] (fun u3 u13 wr => ∃ (i M : Nat) (ll : List (List Int)) (vs : List Value) (sn : List Bool), i ≤ n ∧ M ≤ i ∧ u13 = .int .i64 i ∧ wr.ownsRow (w.heap.size + 1) 22 1 u3 M vs ∧ RowsO wr (w.heap.size + 1) vs ll ∧ BB wr w.heap.size sn ∧ Below w.heap.size w wr ∧ Hid (sn.length = n ∧ M = ll.length ∧ cycS a (n - i) i sn ll = RES)) (fun _ u13 _ => n - (intOf u13).toNat)
  case atStart => exact ⟨0, 0, [], [], List.replicate n false, Nat.zero_le _, Nat.le_refl _, rfl, hlit, ⟨rfl, fun i hi => by simp at hi, fun i j _ hj => by simp at hj⟩, hBB, hb0, by simp, rfl, HROOT.out⟩
  case round =>
    clear hBB hb0 hlit
    obtain ⟨wo, rfl⟩ : ∃ wo : World, wo = wr := ⟨_, rfl⟩
    obtain ⟨i, M, ll, vs, sn, hin, hMi, rfl, hown, hrows, hbs, hb, HI⟩ := hrel
    obtain ⟨A3, c3, rfl, _⟩ := own_slice' hown
    by_cases hlt : i < n
    · obtain ⟨hsl, hml, hcy⟩ := HI.out
      rw [show n - i = (n - (i + 1)) + 1 by omega] at hcy
      have hseen := cyc_seen (a := a) (m := n - (i + 1)) (i := i) (sn := sn) (ll := ll)
      have hnew := cyc_new (a := a) (m := n - (i + 1)) (i := i) (sn := sn) (ll := ll)
      have hob := orb_len a (a.length + 1) i sn []
      have hos := orb_seen (a := a) (f := a.length + 1) (k := i) (sn := sn) (cy := [])
      have hogo := orb_go (a := a) (f := a.length) (k := i) (sn := sn) (cy := [])
      have hone : sn.getD i false = false → 1 ≤ (orb a (a.length + 1) i sn []).2.length := fun h => by
        rw [orb_go h]
        have := (orb_len a a.length (gt a i).toNat (sn.set i true) ([] ++ [(i : Int)])).1
        simpa using this
      clear hogo
      generalize hST : orb a (a.length + 1) i sn [] = ST at *
      rw [HAL.out] at hST
      have HSEEN := Lib.hid hseen
      have HNEW := Lib.hid hnew
      have HCY := Lib.hid hcy
      have HOS := Lib.hid hos
      have HONE := Lib.hid hone
      have HST := Lib.hid hST
      have HSL := Lib.hid hsl
      have HML := Lib.hid hml
      have hrows0 := hrows
      have hzo : w.heap.size + 1 ≤ wo.heap.size := by have := hbs.lt; omega
      clear hseen hnew hcy hos hone hob hST hsl hml HI
      obtain ⟨e0, _⟩ := hbs.cell (j := i) (by rw [HSL.out]; exact hlt)
      cases hsi0 : sn.getD i false with
      | true =>
        rw [hsi0] at e0
        have h9 := HCY.out
        rw [HSEEN.out hsi0] at h9
        have H9 := Lib.hid h9
        clear h9 hsi0
        go_wp2_with (fail)
        go_roundw
        case rel => exact ⟨i + 1, M, ll, vs, sn, by omega, by omega, by go_num, hown, hrows, hbs, hb, HSL.out, HML.out, H9.out⟩
        case measure => simp [intOf]; omega
      | false =>
        rw [hsi0] at e0
        go_wp2_with (fail)
        go_loopw [6, 7] (fun u6 u7 wr => ∃ (k f L : Nat) (sn' : List Bool) (cy : List Int), u7 = .int .i64 k ∧ k < n ∧ L ≤ n ∧ wr.ownsRow wo.heap.size 2 1 u6 L (ints cy) ∧ BB wr w.heap.size sn' ∧ wr.ownsRow (w.heap.size + 1) 22 1 (.slice A3 M c3) M vs ∧ RowsO wr (w.heap.size + 1) vs ll ∧ Below w.heap.size w wr ∧ wo.heap.size ≤ wr.heap.size ∧ Hid (sn'.length = n ∧ n + 1 ≤ f + trues sn' ∧ L = cy.length ∧ L ≤ trues sn' ∧ orb a f k sn' cy = ST)) (fun _ _ wr => n - cntW wr w.heap.size n)
        case atStart => exact ⟨i, n + 1, 0, sn, [], rfl, hlt, Nat.zero_le _, World.ownsRow_lit wo #[] 0 (Nat.le_refl _) (by simp [maxLen]) rfl, hbs.alloc _, World.ownsRow.alloc hown _, hrows.kept (World.grownBy_alloc _ _ none) (fun i' _ => by cases (gv vs i').ownBlock <;> simp), hb.alloc (by omega) _, by simp, HSL.out, by omega, rfl, Nat.zero_le _, HST.out⟩
        case round =>
          clear hown hrows hbs hb
          obtain ⟨wt, rfl⟩ : ∃ wt : World, wt = wr := ⟨_, rfl⟩
          obtain ⟨k, f, L, sn', cy, rfl, hkn, hLn, hcyc, hbs, hown, hrows, hb, hzt, HJ⟩ := hrel
          obtain ⟨A6, c6, rfl, _⟩ := own_slice' hcyc
          obtain ⟨j1, j2, j3, j4, j5⟩ := HJ.out
          have htl := trues_le sn'
          obtain ⟨e1, z1⟩ := hbs.cell (j := k) (by omega)
          have hcw := cntW_bb hbs
          rw [j1] at hcw
          have HCW := Lib.hid hcw
          clear hcw
          by_cases hsk : sn'.getD k false = true
          · rw [hsk] at e1
            have hfin : (sn', cy) = ST := by rw [← j5, orb_seen hsk]
            rcases Nat.eq_zero_or_pos L with hL0 | hL0
            · exfalso
              have := HONE.out hsi0
              rw [← hfin] at this
              simp only at this
              omega
            · have hsi := hsi0
              have h9 := HCY.out
              rw [HNEW.out hsi, ← hfin] at h9
              have H9 := Lib.hid h9
              have J1 := Lib.hid j1
              have J3 := Lib.hid j3
              clear h9 hfin j1 j2 j3 j4 j5 HJ
              go_wp2_with (at_builtin; refine wpList_append_src rfl (.tmp 40) (.tmp 42) 69 rfl (w.heap.size + 1) 22 i1 (.slice none 0 0) 1 24 Tryd.underlying69 hi1 hy0 hy1 hy2 rfl (by omega) (.slice A3 M c3) M vs rfl (World.ownsRow.alloc hown _) (some ⟨wt.heap.size, 0, none⟩) 1 1 [.slice A6 L c6] rfl rfl (one_src wt _ _) (by intro h; cases h) (by intro u hu; simp at hu; subst hu; rfl) (by simp only [maxLen]; omega) (by omega) (by simp; omega) ?_; intro v5 w5 hown5 hg5 hat5)
              have hr5 := cyc_more (v1 := .slice A6 L c6) (b := cy) hg5 hown hrows0 hrows hzo (by rw [← J3.out]; exact hcyc)
              have hbs5 := (hbs.alloc (.cells #[.slice A6 L c6] 22)).kept hg5 (Ne.symm (own_ne_bb hown hbs (by decide)))
              go_roundw
              case rel =>
                have hb5 : Below w.heap.size w w5 := (hb.alloc (by omega) _).grown hg5 (by simp; omega) (fun g hg => by have := (hown.lt g hg).1; omega)
                exact ⟨i + 1, M + 1, _, _, sn', by omega, by omega, by go_num, hown5, hr5, hbs5, hb5, J1.out, by rw [List.length_append, List.length_singleton, HML.out], H9.out⟩
              case measure => simp [intOf]; omega
          · have hsk : sn'.getD k false = false := by simpa using hsk
            rw [hsk] at e1
            have hfe : ∃ f', f = f' + 1 := ⟨f - 1, by omega⟩
            obtain ⟨f', rfl⟩ := hfe
            rw [orb_go hsk] at j5
            have htr := trues_set sn' k (by omega) hsk
            have htl2 := trues_le (sn'.set k true)
            rw [List.length_set] at htl2
            have hak := HA.out.2 k hkn
            have hcb := fun (W : World) (hW : Below w.heap.size w W) => (hW.cell (p := ⟨b, off + k, none⟩) hbb).trans (HC.out k hkn)
            obtain ⟨q, hq⟩ := Int.eq_ofNat_of_zero_le hak.1
            rw [hq] at hcb hak j5
            rw [Int.toNat_natCast] at j5
            have hqn : q < n := by omega
            have hne6 := own_ne_bb hcyc hbs (by decide)
            have hne3 := own_ne_bb hown hbs (by decide)
            have hrl : ∀ i', i' < vs.length → (gv vs i').ownBlock = none ∨ (gv vs i').ownBlock ≠ (Value.slice A6 L c6).ownBlock := fresh_ne hrows0 (fun g hg => (hcyc.lt g hg).1)
            have hw2 := hrows.kept (grownBy_setC wt ⟨w.heap.size, k, none⟩ (.bool true)) (fun i' hi' => .inr (own_ne_bb (hrows.2.1 i' hi') hbs (by decide)))
            have hrows2 := hw2.kept (World.grownBy_alloc _ (.cells #[.int .i64 (k : Int)] 2) none) (fun i' _ => by cases (gv vs i').ownBlock <;> simp)
            have hbs2 := (hbs.set (r := k) (by omega)).alloc (.cells #[.int .i64 (k : Int)] 2)
            have hown2 := World.ownsRow.alloc (ownsRow_setCell_other hown (a := ⟨w.heap.size, k, none⟩) hne3 (.bool true)) (.cells #[.int .i64 (k : Int)] 2)
            have hcyc2 := World.ownsRow.alloc (ownsRow_setCell_other hcyc (a := ⟨w.heap.size, k, none⟩) hne6 (.bool true)) (.cells #[.int .i64 (k : Int)] 2)
            have J : Hid ((sn'.set k true).length = n ∧ n + 1 ≤ f' + trues (sn'.set k true) ∧ L + 1 = (cy ++ [(k : Int)]).length ∧ L + 1 ≤ trues (sn'.set k true) ∧ orb a f' q (sn'.set k true) (cy ++ [(k : Int)]) = ST) := ⟨by simpa using j1, by omega, by simp; omega, by omega, j5⟩
            have hL1 : L + 1 ≤ n := by omega
            have hcm : trues (sn'.set k true) = trues sn' + 1 := htr
            have hcn : trues sn' < n := by omega
            have HCM := Lib.hid hcm
            clear htr hcm j1 j2 j3 j4 j5 HJ hw2 htl2 hq hak htl
            go_wp2_with (at_builtin; refine wpList_append_src rfl (.tmp 36) (.tmp 38) 22 rfl wo.heap.size 2 i0 (.int .i64 0) 1 8 Tryd.underlying22 hi hz0 hz1 hz2 rfl (by omega) (.slice A6 L c6) L (ints cy) rfl hcyc2 (some ⟨wt.heap.size, 0, none⟩) 1 1 [.int .i64 (k : Int)] rfl rfl (one_src_set wt 0 _ _ _ _) (by intro h; cases h) (by intro u hu; simp at hu; subst hu; rfl) (by simp only [maxLen]; omega) (by omega) (by simp; omega) ?_; intro v5 w5 hown5 hg5 hat5; have hb5 : Below w.heap.size w w5 := ((hb.setCell (p := ⟨w.heap.size, k, none⟩) (by simp) (.bool true)).alloc (by simp; omega) _).grown hg5 (by simp; omega) (fun g hg => by have := (hcyc.lt g hg).1; omega); have e2 := hcb w5 hb5)
            have hbs5 := hbs2.kept hg5 (Ne.symm (own_ne_bb hcyc2 hbs2 (by decide)))
            have hown5' := World.ownsRow.kept hown2 hg5 (own_ne hown2 hcyc2 (by decide))
            have hrows5 := hrows2.kept hg5 hrl
            have hz5 : wo.heap.size ≤ w5.heap.size := by have := hg5.size; simp at this; omega
            go_roundw
            case rel => exact ⟨q, f', L + 1, sn'.set k true, cy ++ [(k : Int)], by first | rfl | simp, hqn, hL1, by rw [ints_snoc]; exact hown5, hbs5, hown5', hrows5, hb5, hz5, J.out⟩
            case measure =>
              have h1 := cntW_bb hbs5
              have h2 := J.out.1
              have h3 := HCW.out
              have h4 := HCM.out
              rw [h2] at h1
              rw [h1, h3, h4]
              omega
    · obtain rfl : i = n := by omega
      have hfin : Hid (ll = RES) := by
        have h := HI.out.2.2
        rw [Nat.sub_self] at h
        exact h
      have hml := HI.out.2.1
      go_wp2_with (fail)
      go_ret
      unfold MII
      rw [← hfin.out, ← hml]
      exact ⟨_, _, vs, rfl, own_mono hown (by omega), ⟨hrows.1, fun j hj => own_mono (hrows.2.1 j hj) (by omega), hrows.2.2⟩, hb⟩
end Go.Proofs.YtjfinniebijgbaaDoor
/- Signs; IsEvenName. -/
namespace Go.Proofs.YtjfinniebijgbaaDoor
set_option linter.unusedVariables false
set_option linter.unusedSimpArgs false
open Go.RowKit

def parN (a : List Int) : Int := if (a.length - (cycL a).length) % 2 = 1 then -1 else 1
theorem cycL_len (a : List Int) : (cycL a).length ≤ a.length := by
  have := cyc_len a a.length 0 (List.replicate a.length false) []
  simpa [cycL] using this
theorem MII.len {ll : List (List Int)} {w : World} {e : Ending} {w' : World} {L : Nat} (hL : ll.length = L) (h : MII ll w e w') : ∃ A c, e = .returned (.slice A L c) ∧ Below w.heap.size w w' := by
  obtain ⟨A, c, vs, h1, _, _, h2⟩ := h
  subst hL
  exact ⟨A, c, h1, h2⟩
end Go.Proofs.YtjfinniebijgbaaDoor
/- IsEvenName. -/
namespace Go.Proofs.YtjfinniebijgbaaDoor
set_option linter.unusedVariables false
set_option linter.unusedSimpArgs false
open Go.RowKit

theorem lsL_in {n : Nat} {sn : List Bool} (h : sn.length = fact n) : InK n (lsL sn) := fun k hk => by
  obtain ⟨r, h1, h2, _⟩ := lsL_mem.1 (gt_mem hk)
  rw [h1]
  omega
theorem RK_in (i : Nat) (hi : i < 14) : InK (lbP i) (RK (lbP i) (lbG i)) := lsL_in (RG_gi (lb_in i hi).2.2.2.2).1
theorem mem_in {n : Nat} {l : List Int} (h : InK n l) : ∀ k, k < (memL n l).length → InR n (gl (memL n l) k) := fun k hk => by
  rw [memL_len] at hk
  have e : gl (memL n l) k = wrL n (gt l k).toNat := by simp [gl, memL, gt, hk]
  rw [e]
  obtain ⟨h1, h2⟩ := h k hk
  exact wrL_in (by omega)
def oddL (n : Nat) (l : List Int) : Bool := (memL n l).any fun a => decide (parN a < 0)
/-- How many of the ranks are of even permutations. -/
def evK (n : Nat) (l : List Int) (k : Nat) : Nat := ((l.take k).filter fun x => decide (parN (wrL n x.toNat) = 1)).length
theorem evK_yes {n : Nat} {l : List Int} {k : Nat} (hk : k < l.length) (h : parN (wrL n (gt l k).toNat) = 1) : evK n l (k + 1) = evK n l k + 1 := by
  unfold evK
  rw [List.take_succ_eq_append_getElem hk, List.filter_append]
  have : l[k] = gt l k := by simp [gt, List.getElem?_eq_getElem hk]
  rw [this]
  simp [h]
theorem evK_no {n : Nat} {l : List Int} {k : Nat} (hk : k < l.length) (h : ¬ parN (wrL n (gt l k).toNat) = 1) : evK n l (k + 1) = evK n l k := by
  unfold evK
  rw [List.take_succ_eq_append_getElem hk, List.filter_append]
  have : l[k] = gt l k := by simp [gt, List.getElem?_eq_getElem hk]
  rw [this]
  simp [h]
theorem evK_le (n : Nat) (l : List Int) (k : Nat) : evK n l k ≤ k := by
  unfold evK
  exact Nat.le_trans (List.length_filter_le _ _) (by simp; omega)
theorem even_law (n : Nat) (l : List Int) : decide (evK n l l.length = l.length) = !(oddL n l) := by
  unfold evK oddL memL
  rw [List.take_length, Bool.eq_iff_iff]
  simp only [decide_eq_true_eq, Bool.not_eq_true', List.any_eq_false, List.length_filter_eq_length_iff]
  constructor
  · intro h a ha
    obtain ⟨x, hx, rfl⟩ := List.mem_map.1 ha
    have h1 := h x hx
    rw [h1]; simp
  · intro h x hx
    have h1 := h _ (List.mem_map.2 ⟨x, hx, rfl⟩)
    unfold parN at h1 ⊢
    split at h1
    · simp at h1
    · rename_i hh; rw [if_neg hh]
end Go.Proofs.YtjfinniebijgbaaDoor
