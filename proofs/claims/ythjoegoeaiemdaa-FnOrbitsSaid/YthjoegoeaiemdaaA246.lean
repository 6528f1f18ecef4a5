/- Fixed points and numbers of orbits: both sides. -/
import Derived.Test.YthjoegoeaiemdaaA245
import Derived.Test.YthjoegoeaiemdaaA121
import Derived.Test.YthjoegoeaiemdaaA173
namespace Go.Proofs.Ythjoegoeaiemdaa
set_option linter.unusedVariables false
set_option linter.unusedSimpArgs false
open Go.RowKit

def fxP (a : List Int) (j : Nat) : Nat := ((List.range j).filter fun p => ap a p == p).length
theorem fxP_yes {a : List Int} {j : Nat} (h0 : 0 ≤ gt a j) (h : (gt a j == (j : Int)) = true) : fxP a (j + 1) = fxP a j + 1 := by
  have e : (ap a j == j) = true := by rw [beq_iff_eq] at h ⊢; unfold ap; omega
  simp [fxP, List.range_succ, e]
theorem fxP_no {a : List Int} {j : Nat} (h0 : 0 ≤ gt a j) (h : (gt a j == (j : Int)) = false) : fxP a (j + 1) = fxP a j := by
  have e : (ap a j == j) = false := by rw [beq_eq_false_iff_ne] at h ⊢; unfold ap; omega
  simp [fxP, List.range_succ, e]
theorem fxP_le (a : List Int) (j : Nat) : fxP a j ≤ j := by
  have := List.length_filter_le (fun p => ap a p == p) (List.range j)
  rwa [List.length_range] at this
theorem fxP_all (n : Nat) (a : List Int) : fxP a n = fxN n a := rfl
def fpA (p : Int) (l : List Int) : List Int := if grpB p l then fpS p.toNat (memL p.toNat l) else []
set_option maxRecDepth 20000 in
set_option maxHeartbeats 2000000 in
theorem i_FixedPoints (p : Int) (A : Option Addr) (L c : Nat) (l : List Int) (w : World) (hL : L = l.length) (hl : L ≤ 1048576) (hs : IS w w.heap.size A l) :
    Calls Try.prog 14 #[.agg #[.int .i64 p, .slice A L c]] w (RS (fpA p l) (mvC p l) w) := by
  have B0 := BK.new w 26 #[.int .i64 p, .slice A L c]
  obtain ⟨c0, c1, _, _⟩ := B0.two
  have hb0 := (Below.refl w.heap.size w).alloc (Nat.le_refl _) (.cells #[.int .i64 p, .slice A L c] 26)
  have hs0 := hs.call hb0
  have hmv := i_moved0 p A L c l _ hL hl hs0
  cases hg : grpB p l
  · have e1 : mvC p l = 1 := by unfold mvC; rw [hg]; rfl
    have e2 : fpA p l = [] := by unfold fpA; rw [hg]; rfl
    first | rw [e1] at hmv | rw [hg] at hmv
    rw [e1, e2]
    clear hg e1 e2 hL hs hs0 B0
    go_enter Try.func14, Try.ntmps14
    go_wp2_with (fail)
    refine hmv.mono ?_
    rintro e w2 ⟨rfl, hb2⟩
    go_wp2_with (fail)
    go_ret2
    exact RS.nil (bel_call hb0 hb2)
  · obtain ⟨n, rfl, h1, h2, h3, h4, hk⟩ := grpB_t hg
    have e1 : mvC n l = 0 := by unfold mvC; rw [hg]; rfl
    have e2 : fpA n l = fpS n (memL n l) := by unfold fpA; rw [hg, Int.toNat_natCast]; rfl
    first | rw [e1] at hmv | rw [hg] at hmv
    rw [e1, e2]
    have hel := fun W h => i_members n A L c l W h1 h2 hL hl hk h
    have hml := memL_len n l
    have hin := mem_in hk
    have hfl := fun ms => fpS_len n ms
    have hset := fun k hk => fpS_set (n := n) (k := k) (ms := memL n l) hk
    have hbd := fun k i hi => fpS_bd (n := n) (i := i) ((memL n l).take k) hi
    have hall : fpS n ((memL n l).take L) = fpS n (memL n l) := by rw [List.take_of_length_le (by rw [hml, hL]; exact Nat.le_refl _)]
    have hfx := fun a => fx_le n a
    have hmk := fun W => run_make_row' (P := Try.prog) 24 2 (.int .i64 0) 8 Try.underlying24 infoI64 rfl .i64 .i64 (n + 1) (by omega) (by omega) W
    rw [show ((n + 1 : Nat) : Int) = (n : Int) + 1 by omega] at hmk
    have hl7 : L ≤ 720 := by omega
    have hzero := fpS_nil n
    have HL := Lib.hid hL
    have HML := Lib.hid hml
    have HIN := Lib.hid hin
    have HFL := Lib.hid hfl
    have HSET := Lib.hid hset
    have HBD := Lib.hid hbd
    have HALL := Lib.hid hall
    have HFX := Lib.hid hfx
    have HZ := Lib.hid hzero
    clear hg e1 e2 hL hs hk h3 h4 hml hin hfl hset hbd hall hfx hzero
    go_enter Try.func14, Try.ntmps14
    go_wp2_with (fail)
    generalize w.alloc (.cells #[.int .i64 (n : Int), .slice A L c] 26) = w0 at *
    refine hmv.mono ?_
    rintro e w2 ⟨rfl, hb2⟩
    have b2 := bel_call hb0 hb2
    have B2 := B0.of_below hb2
    have hs2 := hs0.call hb2
    obtain ⟨d0, d1, _, _⟩ := B2.two
    have hbm := (Below.refl w2.heap.size w2).alloc (Nat.le_refl _) (.cells (madeCells #[.int .i64 0] (n + 1)) 2)
    have hns0 : NS (w2.alloc (.cells (madeCells #[.int .i64 0] (n + 1)) 2)) w2.heap.size w2.heap.size (List.replicate (n + 1) 0) := NS.zero w2 (n + 1) w2.heap.size (Nat.le_refl _)
    have hsm := hs2.call hbm
    have Bm := B2.of_below hbm
    obtain ⟨m0, m1, _, _⟩ := Bm.two
    clear hmv c0 c1 B0 hs0 hb0 hb2 B2 hs2
    go_wp2_with (fail)
    generalize hwm : w2.alloc (.cells (madeCells #[.int .i64 0] (n + 1)) 2) = wm at *
    clear hwm d0 d1
    refine (hel _ hsm).mono ?_
    rintro e w3 ⟨A3, c3, vs, rfl, ho3, hr3, hb3⟩
    have hns3 := hns0.below hb3 hns0.lt
    have hgm : w2.heap.size < wm.heap.size := hns0.lt
    have b3 := bel_call (bel_call b2 hbm) hb3
    rw [HML.out, ← HL.out] at ho3 ⊢
    have hne : ∀ i, i < vs.length → (gv vs i).ownBlock = none ∨ (gv vs i).ownBlock ≠ some w2.heap.size := fun i hi => by
      cases hv : (gv vs i).ownBlock with
      | none => exact .inl rfl
      | some y => right; intro e; injection e with e; have := ((hr3.2.1 i hi).lt y hv).1; omega
    have hno : (Value.slice A3 L c3).ownBlock = none ∨ (Value.slice A3 L c3).ownBlock ≠ some w2.heap.size := by
      cases hv : (Value.slice A3 L c3).ownBlock with
      | none => exact .inl rfl
      | some y => right; intro e; injection e with e; have := (ho3.lt y hv).1; omega
    have HNE := Lib.hid hne
    have HNO := Lib.hid hno
    have HR := Lib.hid hr3
    have HO := Lib.hid ho3
    clear hel hns0 hsm Bm m0 m1 hbm hb3 hne hno hr3 ho3
    go_wp2_with (fail)
    go_loopw [23] (fun u5 wr => ∃ k : Nat, k ≤ L ∧ u5 = .int .i64 k ∧ NS wr w2.heap.size w2.heap.size (fpS n ((memL n l).take k)) ∧ w3.grownBy wr (some w2.heap.size) ∧ Below w.heap.size w wr) (fun u5 _ => L - (intOf u5).toNat)
    case atStart => exact ⟨0, Nat.zero_le _, rfl, by rw [List.take_zero, HZ.out]; exact hns3, ⟨rfl, rfl, rfl, Nat.le_refl _, fun _ _ _ => rfl⟩, b3⟩
    case round =>
      clear hns3 b3
      obtain ⟨ws, rfl⟩ : ∃ ws : World, ws = wr := ⟨_, rfl⟩
      obtain ⟨k, hk, rfl, hns, hg, hb⟩ := hrel
      have hz2 := b2.size
      by_cases hlt : k < L
      · have hkm : k < (memL n l).length := by rw [HML.out, ← HL.out]; exact hlt
        have hii := OwnII.ii (HO.out.kept hg HNO.out) (HR.out.kept hg HNE.out)
        obtain ⟨tb, toff, rfl, htb, htc⟩ := hii.at hkm
        obtain ⟨Ar, cr, e1, _, _, his⟩ := htc k hkm
        have hrl := HIN.out k hkm
        rw [hrl.1] at e1
        obtain ⟨rb, roff, rfl, hrb, hrc⟩ := his.at (k := 0) (by rw [hrl.1]; omega)
        have hrow : ∀ j, j < n → ws.cell? ⟨rb, roff + j, none⟩ = some (.int .i64 (gt (gl (memL n l) k) j)) := fun j hj => hrc j (by rw [hrl.1]; exact hj)
        have hset := HSET.out k hkm
        have hpos := fun j hj => (hrl.2 j hj).1
        have hfxn := fxP_all n (gl (memL n l) k)
        generalize gl (memL n l) k = a at *
        have HSK := Lib.hid hset
        have HROW := Lib.hid hrow
        have HPOS := Lib.hid hpos
        have HFN := Lib.hid hfxn
        clear htc hrc his hrl hkm hii hset hrow hpos hfxn
        go_wp2_with (fail)
        go_loopw [8, 29] (fun u8 u29 wr => ∃ j : Nat, j ≤ n ∧ u29 = .int .i64 j ∧ u8 = .int .i64 ((fxP a j : Nat) : Int) ∧ wr = ws) (fun u8 u29 _ => n - (intOf u29).toNat)
        case atStart => exact ⟨0, Nat.zero_le _, rfl, rfl, rfl⟩
        case round =>
          obtain ⟨j, hj, rfl, rfl, rfl⟩ := hrel
          have hfj := fxP_le a j
          by_cases hjn : j < n
          · have e2 := HROW.out j hjn
            have hp0 := HPOS.out j hjn
            have hy := fxP_yes (a := a) (j := j) hp0
            have hn' := fxP_no (a := a) (j := j) hp0
            generalize gt a j = y at *
            cases hf : (y == (j : Int))
            · have HQ := Lib.hid (hn' hf)
              clear hy hn' hp0
              generalize fxP a j = fj at *
              go_wp2_with (fail)
              go_roundw
              case rel => exact ⟨j + 1, by omega, by go_num, by rw [HQ.out], by first | rfl | trivial⟩
              case measure => simp [intOf]; omega
            · have HQ := Lib.hid (hy hf)
              clear hy hn' hp0
              generalize fxP a j = fj at *
              go_wp2_with (fail)
              go_roundw
              case rel => exact ⟨j + 1, by omega, by go_num, by rw [HQ.out]; go_num, by first | rfl | trivial⟩
              case measure => simp [intOf]; omega
          · obtain rfl : j = n := by omega
            have hfl : fxP a j < (fpS j ((memL j l).take k)).length := by rw [HFL.out]; omega
            have hc := hns.cell hfl
            have hf := hns.fz (fxP a j)
            have hst := hns.set (gt (fpS j ((memL j l).take k)) (fxP a j) + 1) hfl
            have hbd := HBD.out k (fxP a j) (by omega)
            have hlk : (((memL j l).take k).length : Int) ≤ 720 := by rw [List.length_take]; omega
            rw [HFN.out] at hst
            rw [← HSK.out] at hst
            rw [HFN.out] at hc hf hbd hfj ⊢
            have hst' := Lib.hid hst
            clear hst hfl
            generalize gt (fpS j ((memL j l).take k)) (fxN j a) = y at *
            generalize fxN j a = fj at *
            go_wp2_with (fail)
            go_roundw
            case rel => exact ⟨k + 1, by omega, by go_num, hst'.out, ⟨hg.os, hg.tape, hg.output, by simpa using hg.size, fun i hi hne => (Below.heap_setCell _ _ _ i (fun e => hne (by rw [e]))).trans (hg.block i hi hne)⟩, hb.setCell (by show _ ≤ w2.heap.size; exact hz2) _⟩
            case measure => simp [intOf]; omega
      · obtain rfl : k = L := by omega
        rw [HALL.out] at hns
        have hl' := HFL.out (memL n l)
        go_wp2_with (fail)
        go_ret2
        have ho := NS.own' hns hl'.symm (by omega)
        refine ⟨some ⟨w2.heap.size, 0, none⟩, n + 1, ?_, ?_, hb⟩
        · rw [hl']; rfl
        · rw [hl']; exact own_mono ho (by omega)
set_option maxRecDepth 20000 in
set_option maxHeartbeats 2000000 in
theorem s_FixedPoints (p : Int) (A : Option Addr) (L c : Nat) (l : List Int) (w : World) (hL : L = l.length) (hl : L ≤ 1048576) (hs : IS w w.heap.size A l) :
    Calls Try.prog 15 #[.agg #[.int .i64 p, .slice A L c]] w (RS (fpA p l) (mvC p l) w) := by
  have B0 := BK.new w 26 #[.int .i64 p, .slice A L c]
  obtain ⟨c0, c1, _, _⟩ := B0.two
  have hb0 := (Below.refl w.heap.size w).alloc (Nat.le_refl _) (.cells #[.int .i64 p, .slice A L c] 26)
  have hs0 := hs.call hb0
  have hmv := s_IsGroup p A L c l _ hL hl hs0
  cases hg : grpB p l
  · have e1 : mvC p l = 1 := by unfold mvC; rw [hg]; rfl
    have e2 : fpA p l = [] := by unfold fpA; rw [hg]; rfl
    first | rw [e1] at hmv | rw [hg] at hmv
    rw [e1, e2]
    clear hg e1 e2 hL hs hs0 B0
    go_enter Try.func15, Try.ntmps15
    go_wp2_with (fail)
    refine hmv.mono ?_
    rintro e w2 ⟨rfl, hb2⟩
    go_wp2_with (fail)
    go_ret2
    exact RS.nil (bel_call hb0 hb2)
  · obtain ⟨n, rfl, h1, h2, h3, h4, hk⟩ := grpB_t hg
    have e1 : mvC n l = 0 := by unfold mvC; rw [hg]; rfl
    have e2 : fpA n l = fpS n (memL n l) := by unfold fpA; rw [hg, Int.toNat_natCast]; rfl
    first | rw [e1] at hmv | rw [hg] at hmv
    rw [e1, e2]
    have hel := fun W h => s_elements n A L c l W h1 h2 hL hl hk h
    have hml := memL_len n l
    have hin := mem_in hk
    have hfl := fun ms => fpS_len n ms
    have hset := fun k hk => fpS_set (n := n) (k := k) (ms := memL n l) hk
    have hbd := fun k i hi => fpS_bd (n := n) (i := i) ((memL n l).take k) hi
    have hall : fpS n ((memL n l).take L) = fpS n (memL n l) := by rw [List.take_of_length_le (by rw [hml, hL]; exact Nat.le_refl _)]
    have hfx := fun a => fx_le n a
    have hmk := fun W => run_make_row' (P := Try.prog) 24 2 (.int .i64 0) 8 Try.underlying24 infoI64 rfl .i64 .i64 (n + 1) (by omega) (by omega) W
    rw [show ((n + 1 : Nat) : Int) = (n : Int) + 1 by omega] at hmk
    have hl7 : L ≤ 720 := by omega
    have hzero := fpS_nil n
    have HL := Lib.hid hL
    have HML := Lib.hid hml
    have HIN := Lib.hid hin
    have HFL := Lib.hid hfl
    have HSET := Lib.hid hset
    have HBD := Lib.hid hbd
    have HALL := Lib.hid hall
    have HFX := Lib.hid hfx
    have HZ := Lib.hid hzero
    clear hg e1 e2 hL hs hk h3 h4 hml hin hfl hset hbd hall hfx hzero
    go_enter Try.func15, Try.ntmps15
    go_wp2_with (fail)
    generalize w.alloc (.cells #[.int .i64 (n : Int), .slice A L c] 26) = w0 at *
    refine hmv.mono ?_
    rintro e w2 ⟨rfl, hb2⟩
    have b2 := bel_call hb0 hb2
    have B2 := B0.of_below hb2
    have hs2 := hs0.call hb2
    obtain ⟨d0, d1, _, _⟩ := B2.two
    have hbm := (Below.refl w2.heap.size w2).alloc (Nat.le_refl _) (.cells (madeCells #[.int .i64 0] (n + 1)) 2)
    have hns0 : NS (w2.alloc (.cells (madeCells #[.int .i64 0] (n + 1)) 2)) w2.heap.size w2.heap.size (List.replicate (n + 1) 0) := NS.zero w2 (n + 1) w2.heap.size (Nat.le_refl _)
    have hsm := hs2.call hbm
    have Bm := B2.of_below hbm
    obtain ⟨m0, m1, _, _⟩ := Bm.two
    clear hmv c0 c1 B0 hs0 hb0 hb2 B2 hs2
    go_wp2_with (fail)
    generalize hwm : w2.alloc (.cells (madeCells #[.int .i64 0] (n + 1)) 2) = wm at *
    clear hwm d0 d1
    refine (hel _ hsm).mono ?_
    rintro e w3 ⟨A3, c3, vs, rfl, ho3, hr3, hb3⟩
    have hns3 := hns0.below hb3 hns0.lt
    have hgm : w2.heap.size < wm.heap.size := hns0.lt
    have b3 := bel_call (bel_call b2 hbm) hb3
    rw [HML.out, ← HL.out] at ho3 ⊢
    have hne : ∀ i, i < vs.length → (gv vs i).ownBlock = none ∨ (gv vs i).ownBlock ≠ some w2.heap.size := fun i hi => by
      cases hv : (gv vs i).ownBlock with
      | none => exact .inl rfl
      | some y => right; intro e; injection e with e; have := ((hr3.2.1 i hi).lt y hv).1; omega
    have hno : (Value.slice A3 L c3).ownBlock = none ∨ (Value.slice A3 L c3).ownBlock ≠ some w2.heap.size := by
      cases hv : (Value.slice A3 L c3).ownBlock with
      | none => exact .inl rfl
      | some y => right; intro e; injection e with e; have := (ho3.lt y hv).1; omega
    have HNE := Lib.hid hne
    have HNO := Lib.hid hno
    have HR := Lib.hid hr3
    have HO := Lib.hid ho3
    clear hel hns0 hsm Bm m0 m1 hbm hb3 hne hno hr3 ho3
    go_wp2_with (fail)
    go_loopw [6] (fun u5 wr => ∃ k : Nat, k ≤ L ∧ u5 = .int .i64 k ∧ NS wr w2.heap.size w2.heap.size (fpS n ((memL n l).take k)) ∧ w3.grownBy wr (some w2.heap.size) ∧ Below w.heap.size w wr) (fun u5 _ => L - (intOf u5).toNat)
    case atStart => exact ⟨0, Nat.zero_le _, rfl, by rw [List.take_zero, HZ.out]; exact hns3, ⟨rfl, rfl, rfl, Nat.le_refl _, fun _ _ _ => rfl⟩, b3⟩
    case round =>
      clear hns3 b3
      obtain ⟨ws, rfl⟩ : ∃ ws : World, ws = wr := ⟨_, rfl⟩
      obtain ⟨k, hk, rfl, hns, hg, hb⟩ := hrel
      have hz2 := b2.size
      by_cases hlt : k < L
      · have hkm : k < (memL n l).length := by rw [HML.out, ← HL.out]; exact hlt
        have hii := OwnII.ii (HO.out.kept hg HNO.out) (HR.out.kept hg HNE.out)
        obtain ⟨tb, toff, rfl, htb, htc⟩ := hii.at hkm
        obtain ⟨Ar, cr, e1, _, _, his⟩ := htc k hkm
        have hrl := HIN.out k hkm
        rw [hrl.1] at e1
        obtain ⟨rb, roff, rfl, hrb, hrc⟩ := his.at (k := 0) (by rw [hrl.1]; omega)
        have hrow : ∀ j, j < n → ws.cell? ⟨rb, roff + j, none⟩ = some (.int .i64 (gt (gl (memL n l) k) j)) := fun j hj => hrc j (by rw [hrl.1]; exact hj)
        have hset := HSET.out k hkm
        have hpos := fun j hj => (hrl.2 j hj).1
        have hfxn := fxP_all n (gl (memL n l) k)
        generalize gl (memL n l) k = a at *
        have HSK := Lib.hid hset
        have HROW := Lib.hid hrow
        have HPOS := Lib.hid hpos
        have HFN := Lib.hid hfxn
        clear htc hrc his hrl hkm hii hset hrow hpos hfxn
        go_wp2_with (fail)
        go_loopw [7, 8] (fun u7 u8 wr => ∃ j : Nat, j ≤ n ∧ u8 = .int .i64 j ∧ u7 = .int .i64 ((fxP a j : Nat) : Int) ∧ wr = ws) (fun u7 u8 _ => n - (intOf u8).toNat)
        case atStart => exact ⟨0, Nat.zero_le _, rfl, rfl, rfl⟩
        case round =>
          obtain ⟨j, hj, rfl, rfl, rfl⟩ := hrel
          have hfj := fxP_le a j
          by_cases hjn : j < n
          · have e2 := HROW.out j hjn
            have hp0 := HPOS.out j hjn
            have hy := fxP_yes (a := a) (j := j) hp0
            have hn' := fxP_no (a := a) (j := j) hp0
            generalize gt a j = y at *
            cases hf : (y == (j : Int))
            · have HQ := Lib.hid (hn' hf)
              clear hy hn' hp0
              generalize fxP a j = fj at *
              go_wp2_with (fail)
              go_roundw
              case rel => exact ⟨j + 1, by omega, by go_num, by rw [HQ.out], by first | rfl | trivial⟩
              case measure => simp [intOf]; omega
            · have HQ := Lib.hid (hy hf)
              clear hy hn' hp0
              generalize fxP a j = fj at *
              go_wp2_with (fail)
              go_roundw
              case rel => exact ⟨j + 1, by omega, by go_num, by rw [HQ.out]; go_num, by first | rfl | trivial⟩
              case measure => simp [intOf]; omega
          · obtain rfl : j = n := by omega
            have hfl : fxP a j < (fpS j ((memL j l).take k)).length := by rw [HFL.out]; omega
            have hc := hns.cell hfl
            have hf := hns.fz (fxP a j)
            have hst := hns.set (gt (fpS j ((memL j l).take k)) (fxP a j) + 1) hfl
            have hbd := HBD.out k (fxP a j) (by omega)
            have hlk : (((memL j l).take k).length : Int) ≤ 720 := by rw [List.length_take]; omega
            rw [HFN.out] at hst
            rw [← HSK.out] at hst
            rw [HFN.out] at hc hf hbd hfj ⊢
            have hst' := Lib.hid hst
            clear hst hfl
            generalize gt (fpS j ((memL j l).take k)) (fxN j a) = y at *
            generalize fxN j a = fj at *
            go_wp2_with (fail)
            go_roundw
            case rel => exact ⟨k + 1, by omega, by go_num, hst'.out, ⟨hg.os, hg.tape, hg.output, by simpa using hg.size, fun i hi hne => (Below.heap_setCell _ _ _ i (fun e => hne (by rw [e]))).trans (hg.block i hi hne)⟩, hb.setCell (by show _ ≤ w2.heap.size; exact hz2) _⟩
            case measure => simp [intOf]; omega
      · obtain rfl : k = L := by omega
        rw [HALL.out] at hns
        have hl' := HFL.out (memL n l)
        go_wp2_with (fail)
        go_ret2
        have ho := NS.own' hns hl'.symm (by omega)
        refine ⟨some ⟨w2.heap.size, 0, none⟩, n + 1, ?_, ?_, hb⟩
        · rw [hl']; rfl
        · rw [hl']; exact own_mono ho (by omega)
def coA (p : Int) (l : List Int) : Int := if grpB p l then ((obL p.toNat l p.toNat).length : Nat) else 0
set_option maxRecDepth 20000 in
set_option maxHeartbeats 1000000 in
theorem i_CountOrbits (p : Int) (A : Option Addr) (L c : Nat) (l : List Int) (w : World) (hL : L = l.length) (hl : L ≤ 1048576) (hs : IS w w.heap.size A l) :
    Calls Try.prog 16 #[.agg #[.int .i64 p, .slice A L c]] w (M2 (coA p l) (mvC p l) w) := by
  have B0 := BK.new w 26 #[.int .i64 p, .slice A L c]
  obtain ⟨c0, c1, _, _⟩ := B0.two
  have hb0 := (Below.refl w.heap.size w).alloc (Nat.le_refl _) (.cells #[.int .i64 p, .slice A L c] 26)
  have hs0 := hs.call hb0
  have hmv := i_moved0 p A L c l _ hL hl hs0
  cases hg : grpB p l
  · have e1 : mvC p l = 1 := by unfold mvC; rw [hg]; rfl
    have e2 : coA p l = 0 := by unfold coA; rw [hg]; rfl
    first | rw [e1] at hmv | rw [hg] at hmv
    rw [e1, e2]
    clear hg e1 e2 hL hs hs0 B0
    go_enter Try.func16, Try.ntmps16
    go_wp2_with (fail)
    refine hmv.mono ?_
    rintro e w2 ⟨rfl, hb2⟩
    go_wp2_with (fail)
    go_ret2
    exact ⟨rfl, bel_call hb0 hb2⟩
  · obtain ⟨n, rfl, h1, h2, h3, h4, h5⟩ := grpB_t hg
    have e1 : mvC n l = 0 := by unfold mvC; rw [hg]; rfl
    have e2 : coA n l = ((obL n l n).length : Nat) := by unfold coA; rw [hg, Int.toNat_natCast]; rfl
    first | rw [e1] at hmv | rw [hg] at hmv
    rw [e1, e2]
    have hob := fun W h => i_orbits n A L c l W h1 h2 hL (by omega) (by omega) h5 h
    have hle := obL_le n l n
    generalize obL n l n = ll at *
    clear hg e1 e2 hL hs h5
    go_enter Try.func16, Try.ntmps16
    go_wp2_with (fail)
    refine hmv.mono ?_
    rintro e w2 ⟨rfl, hb2⟩
    have b2 := bel_call hb0 hb2
    obtain ⟨d0, d1, _, _⟩ := (B0.of_below hb2).two
    clear hmv c0 c1 B0
    go_wp2_with (fail)
    refine (hob _ (hs0.call hb2)).mono ?_
    rintro e w3 ⟨A3, m, c3, vs, hm, rfl, ho3, hr3, hb3⟩
    have HM := Lib.hid hm
    have hm6 : m ≤ 6 := by omega
    clear hm
    go_wp2_with (fail)
    go_ret2
    exact ⟨ret_ii (by rw [HM.out]) rfl, bel_call b2 hb3⟩
set_option maxRecDepth 20000 in
set_option maxHeartbeats 1000000 in
theorem s_CountOrbits (p : Int) (A : Option Addr) (L c : Nat) (l : List Int) (w : World) (hL : L = l.length) (hl : L ≤ 1048576) (hs : IS w w.heap.size A l) :
    Calls Try.prog 17 #[.agg #[.int .i64 p, .slice A L c]] w (M2 (coA p l) (mvC p l) w) := by
  have B0 := BK.new w 26 #[.int .i64 p, .slice A L c]
  obtain ⟨c0, c1, _, _⟩ := B0.two
  have hb0 := (Below.refl w.heap.size w).alloc (Nat.le_refl _) (.cells #[.int .i64 p, .slice A L c] 26)
  have hs0 := hs.call hb0
  have hmv := s_IsGroup p A L c l _ hL hl hs0
  cases hg : grpB p l
  · have e1 : mvC p l = 1 := by unfold mvC; rw [hg]; rfl
    have e2 : coA p l = 0 := by unfold coA; rw [hg]; rfl
    first | rw [e1] at hmv | rw [hg] at hmv
    rw [e1, e2]
    clear hg e1 e2 hL hs hs0 B0
    go_enter Try.func17, Try.ntmps17
    go_wp2_with (fail)
    refine hmv.mono ?_
    rintro e w2 ⟨rfl, hb2⟩
    go_wp2_with (fail)
    go_ret2
    exact ⟨rfl, bel_call hb0 hb2⟩
  · obtain ⟨n, rfl, h1, h2, h3, h4, h5⟩ := grpB_t hg
    have e1 : mvC n l = 0 := by unfold mvC; rw [hg]; rfl
    have e2 : coA n l = ((obL n l n).length : Nat) := by unfold coA; rw [hg, Int.toNat_natCast]; rfl
    first | rw [e1] at hmv | rw [hg] at hmv
    rw [e1, e2]
    have hob := fun W h => s_orbits n A L c l W h1 h2 hL (by omega) (by omega) h5 h
    have hle := obL_le n l n
    generalize obL n l n = ll at *
    clear hg e1 e2 hL hs h5
    go_enter Try.func17, Try.ntmps17
    go_wp2_with (fail)
    refine hmv.mono ?_
    rintro e w2 ⟨rfl, hb2⟩
    have b2 := bel_call hb0 hb2
    obtain ⟨d0, d1, _, _⟩ := (B0.of_below hb2).two
    clear hmv c0 c1 B0
    go_wp2_with (fail)
    refine (hob _ (hs0.call hb2)).mono ?_
    rintro e w3 ⟨A3, m, c3, vs, hm, rfl, ho3, hr3, hb3⟩
    have HM := Lib.hid hm
    have hm6 : m ≤ 6 := by omega
    clear hm
    go_wp2_with (fail)
    go_ret2
    exact ⟨ret_ii (by rw [HM.out]) rfl, bel_call b2 hb3⟩
set_option maxHeartbeats 1000000 in
theorem l_sum (A : Option Addr) (n c : Nat) (l : List Int) (w : World) (B : Nat) (hn : n = l.length) (hl : n ≤ 7) (hb : ∀ k, k < n → 0 ≤ gt l k ∧ gt l k ≤ 720) (hs : IS w B A l) :
    Calls Try.prog 23 #[.slice A n c] w (Q (.int .i64 (sm1 l n)) w) := by
  have HN := Lib.hid hn
  have HB := Lib.hid hb
  clear hn hb
  go_enter Try.func23, Try.ntmps23
  go_wp2_with (fail)
  go_loopw [3, 4] (fun u3 u4 wr => ∃ k : Nat, k ≤ n ∧ u4 = .int .i64 k ∧ u3 = .int .i64 (sm1 l k) ∧ DR w wr) (fun _ u4 _ => n - (intOf u4).toNat)
  case atStart => exact ⟨0, Nat.zero_le _, rfl, rfl, DR.refl _⟩
  case round =>
    obtain ⟨k, hk, rfl, rfl, hdr⟩ := hrel
    have hsb := (sm_bd (l := l) (b := 720) k (fun i hi => HB.out i (by omega)) (by omega)).1
    have hsb2 : (k : Int) * 720 ≤ 5040 := by omega
    by_cases hlt : k < n
    · obtain ⟨b, off, rfl, hbb, hcell⟩ := hs.at (k := k) (by rw [← HN.out]; exact hlt)
      have e1 := (hdr.cell _).trans (hcell k (by rw [← HN.out]; exact hlt))
      have hg := HB.out k hlt
      have HS := Lib.hid (show sm1 l (k + 1) = sm1 l k + gt l k from rfl)
      generalize sm1 l k = s at *
      generalize gt l k = x at *
      clear hcell
      go_wp2_with (go_quiet (fail))
      go_roundw
      case rel => exact ⟨k + 1, by omega, by go_num, by rw [HS.out], by repeat (first | exact hdr | refine DR.step ?_ _)⟩
      case measure => simp [intOf]; omega
    · obtain rfl : k = n := by omega
      go_wp2_with (fail)
      go_ret
      exact ⟨rfl, hdr⟩
set_option maxHeartbeats 1000000 in
theorem l_hasInt (A : Option Addr) (n c : Nat) (x : Int) (l : List Int) (w : World) (B : Nat) (hn : n = l.length) (hl : n ≤ 1048576) (hx : x ∈ l) (hs : IS w B A l) :
    Calls Try.prog 24 #[.slice A n c, .int .i64 x] w (Q (.bool true) w) := by
  obtain ⟨j, hj, he⟩ := List.mem_iff_getElem.1 hx
  have he : gt l j = x := by rw [gt_eq hj, he]
  have hj : j < n := by omega
  have HN := Lib.hid hn
  have HE := Lib.hid he
  clear hn he hx
  go_enter Try.func24, Try.ntmps24
  go_wp2_with (fail)
  go_loopw [5] (fun u wr => ∃ k : Nat, k ≤ j ∧ u = .int .i64 k ∧ DR w wr) (fun u _ => n - (intOf u).toNat)
  case atStart => exact ⟨0, Nat.zero_le _, rfl, DR.refl _⟩
  case round =>
    obtain ⟨k, hk, rfl, hdr⟩ := hrel
    have hlt : k < n := by omega
    obtain ⟨b, off, rfl, hbb, hcell⟩ := hs.at (k := k) (by rw [← HN.out]; exact hlt)
    have e1 := (hdr.cell _).trans (hcell k (by rw [← HN.out]; exact hlt))
    have hkj : gt l k ≠ x → k ≠ j := fun h h' => h (by rw [h']; exact HE.out)
    have HKJ := Lib.hid hkj
    clear hcell hkj
    generalize gt l k = y at *
    cases ht : (y == x)
    · have hk2 := HKJ.out (by rw [beq_eq_false_iff_ne] at ht; exact ht)
      go_wp2_with (go_quiet (fail))
      go_roundw
      case rel => exact ⟨k + 1, by omega, by go_num, by repeat (first | exact hdr | refine DR.step ?_ _)⟩
      case measure => simp [intOf]; omega
    · go_wp2_with (go_quiet (fail))
      go_ret
      exact ⟨rfl, by repeat (first | exact hdr | refine DR.step ?_ _)⟩
end Go.Proofs.Ythjoegoeaiemdaa
