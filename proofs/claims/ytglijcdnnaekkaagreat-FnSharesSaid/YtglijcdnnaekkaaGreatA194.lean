/- Several parts of the proof in one text; each part says what it shows. Nothing is assumed. -/
import Derived.Test.YtglijcdnnaekkaaGreatA116
import Derived.Test.YtglijcdnnaekkaaGreatA142
import Derived.Deep.RegionLaw
import Derived.Deep.RegionHeld3
/- Draws of groups. -/
namespace Go.Proofs.YtglijcdnnaekkaaGreat
set_option linter.unusedVariables false
set_option linter.unusedSimpArgs false
open Go.RowKit

theorem step_len (m : List Int) : ∀ (gens ms : List (List Int)) (sn : List Bool), ms.length ≤ (stepG m gens ms sn).1.length
  | [], _, _ => Nat.le_refl _
  | g :: gens, ms, sn => by
    unfold stepG
    split
    · exact step_len m gens ms sn
    · exact Nat.le_trans (by simp) (step_len m gens (ms ++ [prodL g m]) (sn.set (rk (prodL g m)) true))
theorem bfs_len (gens : List (List Int)) : ∀ (f k : Nat) (ms : List (List Int)) (sn : List Bool), ms.length ≤ (bfs gens f k ms sn).1.length
  | 0, _, _, _ => Nat.le_refl _
  | f + 1, k, ms, sn => by
    unfold bfs
    split
    · exact Nat.le_trans (step_len (gl ms k) gens ms sn) (bfs_len gens f (k + 1) _ _)
    · exact Nat.le_refl _
theorem RK_posG {n : Nat} {gens : List (List Int)} (hg : ∀ g ∈ gens, InR n g) : 0 < (RK n gens).length ∧ (RK n gens).length ≤ fact n := by
  have h1 : 1 ≤ (RG n gens).1.length := bfs_len gens (fact n + 1) 0 [idL n] _
  have h2 := RK_eq hg
  constructor
  · rw [← h2]
    have h3 : ((rk (gl (RG n gens).1 0) : Nat) : Int) ∈ rkC (RG n gens).1 := by
      unfold rkC
      refine ((sorted_compact (rksL (RG n gens).1)).2 _).2 ?_
      unfold rksL
      exact List.mem_map.2 ⟨_, gl_mem (by omega), rfl⟩
    exact List.length_pos_of_mem h3
  · unfold RK
    have := lsL_len (RG n gens).2
    rw [(RG_gi hg).1] at this
    exact this
theorem ownII_up {w w' : World} {g base : Nat} {v : Value} {vs : List Value} {ll : List (List Int)} (ho : w.ownsRow base 24 1 v ll.length vs) (hr : RowsO w base vs ll) (hu : Up g w.heap.size w w') (hg : g < base) : w'.ownsRow base 24 1 v ll.length vs ∧ RowsO w' base vs ll :=
  ⟨up_own (B := 0) ho hu hg, hr.kept (Up.grown hu) fun i hi => by
    cases hb : (gv vs i).ownBlock with
    | none => exact .inl rfl
    | some x => exact .inr fun e => by have := (World.ownsRow.lt (hr.2.1 i hi) x hb).1; injection e with e; omega⟩
/-- A group of n points that a draw hands back. -/
def GV (g n : Nat) (l : List Int) (w : World) (e : Ending) (w' : World) : Prop := ∃ A c, e = .returned (.agg #[.int .i64 n, .slice A l.length c]) ∧ w'.ownsRow w.heap.size 2 1 (.slice A l.length c) l.length (ints l) ∧ SRC w' g ∧ Up g w.heap.size w w'
/-- A group is stored into a result's cell. -/
theorem gv_close {w W : World} {g r L c base : Nat} {A : Option Addr} {l : List Int} {x y : Value} (p : Value) (hs : SRC W g) (hB : BK W r 26 #[x, y]) (hgr : g < r) (hr : w.heap.size ≤ r) (hu : Up g w.heap.size w W) (ho : W.ownsRow base 2 1 (.slice A L c) L (ints l)) (hbase : r < base) :
    ((W.setCell ⟨r, 0, none⟩ p).setCell ⟨r, 1, none⟩ (.slice A L c)).cell? ⟨r, 0, none⟩ = some p ∧ ((W.setCell ⟨r, 0, none⟩ p).setCell ⟨r, 1, none⟩ (.slice A L c)).cell? ⟨r, 1, none⟩ = some (.slice A L c) ∧
    SRC ((W.setCell ⟨r, 0, none⟩ p).setCell ⟨r, 1, none⟩ (.slice A L c)) g ∧ Up g w.heap.size w ((W.setCell ⟨r, 0, none⟩ p).setCell ⟨r, 1, none⟩ (.slice A L c)) ∧ ((W.setCell ⟨r, 0, none⟩ p).setCell ⟨r, 1, none⟩ (.slice A L c)).ownsRow base 2 1 (.slice A L c) L (ints l) := by
  have h5 := (hB.set 0 p).set 1 (.slice A L c)
  have hb : Below r W ((W.setCell ⟨r, 0, none⟩ p).setCell ⟨r, 1, none⟩ (.slice A L c)) := ((Below.refl _ _).setCell (p := ⟨r, 0, none⟩) (Nat.le_refl _) p).setCell (p := ⟨r, 1, none⟩) (Nat.le_refl _) _
  obtain ⟨d0, d1, _, _⟩ := BK.two (x := p) (y := .slice A L c) (by simpa using h5)
  exact ⟨d0, d1, hs.below hb hgr, hu.trans (Up.of (hb.mono hr)), ownsRow_setCell_below (ownsRow_setCell_below ho (a := ⟨r, 0, none⟩) hbase p) (a := ⟨r, 1, none⟩) hbase (.slice A L c)⟩
set_option maxRecDepth 20000 in
set_option maxHeartbeats 2000000 in
theorem s_l22Valid (g : Nat) (w : World) (hs : SRC w g) : Calls Tryz.prog 118 #[.pointer (some ⟨g, 0, none⟩)] w (fun e w' => ∃ n gens, 1 ≤ n ∧ n ≤ 5 ∧ (∀ a ∈ gens, InR n a) ∧ GV g n (RK n gens) w e w') := by
  have hnx := fun W n h1 h => s_nextI g n h1 W h
  have hpk := fun x W h => s_pick5 g 3 4 4 5 x W h
  have hwith := fun n r W h1 h2 h => s_l21With n r W h1 h2 h
  have hfac := fun n W h => s_factN n W h
  have hgw := hs.lt
  have hs0 := hs.call ((Below.refl w.heap.size w).alloc (Nat.le_refl _) (.cells #[.int .i64 0, .slice none 0 0] 26))
  have B0 := BK.new w 26 #[.int .i64 0, .slice none 0 0]
  have u0 : Up g w.heap.size w (w.alloc (.cells #[.int .i64 0, .slice none 0 0] 26)) := Up.of ((Below.refl w.heap.size w).alloc (Nat.le_refl _) (.cells #[.int .i64 0, .slice none 0 0] 26))
  have hz0 : (w.alloc (.cells #[.int .i64 0, .slice none 0 0] 26)).heap.size = w.heap.size + 1 := World.size_alloc _ _
  obtain ⟨i1, hi1, hy0, hy1, hy2⟩ := info_parts infoSl
  go_enter Tryz.func118, Tryz.ntmps118
  go_wp2_with (fail)
  refine (hnx _ 5 (by omega) hs0).mono ?_
  rintro e w1 ⟨k, rfl, hk, hs1, hu1⟩
  have u1 := u0.call hu1
  generalize w.alloc (.cells #[.int .i64 0, .slice none 0 0] 26) = w0 at *
  have hz1 := hu1.size
  have B1 : BK w1 w.heap.size 26 #[.int .i64 0, .slice none 0 0] := by
    unfold BK at B0 ⊢
    rw [hu1.block _ (by omega) (by omega)]
    exact B0
  clear u0 hs0 hu1
  go_wp2_with (fail)
  refine (hpk _ _ hs1).mono ?_
  rintro e w2 ⟨r, rfl, hr, hs2, hu2⟩
  have u2 := u1.call hu2
  have hn : ∃ n : Nat, r = n ∧ 1 ≤ n ∧ n ≤ 5 := by
    simp at hr
    refine ⟨r.toNat, ?_, ?_, ?_⟩ <;> omega
  obtain ⟨n, rfl, hn1, hn5⟩ := hn
  have hz2 := hu2.size
  have B2 : BK w2 w.heap.size 26 #[.int .i64 0, .slice none 0 0] := by
    unfold BK at B1 ⊢
    rw [hu2.block _ (by omega) (by omega)]
    exact B1
  have hfn := fun W => hfac n W (by omega)
  have hwn := fun r W h => hwith n r W hn1 (by omega) h
  have hwi := fun r (h : r < fact n) => wrL_in h
  have hfp := fact_pos n
  have hgen := fun A (gens : List (List Int)) c W hl h h' => s_generate n A gens.length c gens W hn1 (by omega) rfl hl h h'
  have hpos := fun (gens : List (List Int)) h => RK_posG (n := n) (gens := gens) h
  generalize fact n = F at *
  have HWI := Lib.hid hwi
  have HPOST := Lib.hid (show ∀ gens, (∀ a ∈ gens, InR n a) → ∀ e w', GV g n (RK n gens) w e w' → ∃ n gens, 1 ≤ n ∧ n ≤ 5 ∧ (∀ a ∈ gens, InR n a) ∧ GV g n (RK n gens) w e w' from fun gens h e w' h' => ⟨n, gens, hn1, hn5, h, h'⟩)
  have hlit := World.ownsRow_lit (base := w.heap.size + 1) (e := 24) (size := 1) w2 #[] 0 (by omega) (by simp [maxLen]) rfl
  have hbl := (Below.refl w2.heap.size w2).alloc (Nat.le_refl _) (.cells #[] 24)
  have hs3 := hs2.call hbl
  have u3 := u2.thenB hbl
  have B3 := B2.alloc (.cells #[] 24)
  have hz3 : w2.heap.size + 1 = (w2.alloc (.cells #[] 24)).heap.size := (World.size_alloc _ _).symm
  clear hr hk hpk hwith hfac u1 u2 B0 B1 B2 hs1 hs2 hu2 hwi
  go_wp2_with (fail)
  refine (hnx _ 2 (by omega) hs3).mono ?_
  rintro e w4 ⟨k2, rfl, hk2, hs4, hu4⟩
  generalize w2.alloc (.cells #[] 24) = w3 at *
  have p4 := u3.call hu4
  have hz4 := hu4.size
  have hgb : g < w.heap.size + 1 := by omega
  have ho4 := up_own (B := 0) hlit hu4 hgb
  have B4 : BK w4 w.heap.size 26 #[.int .i64 0, .slice none 0 0] := by
    unfold BK at B3 ⊢
    rw [hu4.block _ (by omega) (by omega)]
    exact B3
  clear u3 B3 hs3 hu4 hlit hbl
  go_wp2_with (fail)
  go_loopw [4, 5] (fun u4' u5 wr => ∃ (j : Nat) (vs : List Value) (ll : List (List Int)), u5 = .int .i64 j ∧ ll.length + j ≤ 2 ∧ wr.ownsRow (w.heap.size + 1) 24 1 u4' ll.length vs ∧ RowsO wr (w.heap.size + 1) vs ll ∧ Hid (∀ a ∈ ll, InR n a) ∧ SRC wr g ∧ BK wr w.heap.size 26 #[.int .i64 0, .slice none 0 0] ∧ Up g w.heap.size w wr ∧ w.heap.size + 1 ≤ wr.heap.size) (fun _ u5 _ => (intOf u5).toNat)
  case atStart => exact ⟨1 + k2, [], [], by go_num, by simp; omega, ho4, ⟨rfl, fun i hi => by simp at hi, fun i j _ hj => by simp at hj⟩, fun a ha => by simp at ha, hs4, B4, p4, by omega⟩
  case round =>
    clear ho4 hs4 B4 p4
    obtain ⟨ws, rfl⟩ : ∃ ws : World, ws = wr := ⟨_, rfl⟩
    obtain ⟨j, vs, ll, rfl, hlj, hown, hrows, HIN, hsw, B5, u5, hz5⟩ := hrel
    obtain ⟨A3, c3, rfl, _⟩ := own_slice' hown
    by_cases hj : 0 < j
    · have hj0 : (0 : Int) < (j : Int) := by omega
      go_wp2_with (go_at_call 89; refine (hfn _).mono ?_; rintro e w6 ⟨rfl, q6, rfl⟩)
      refine (hnx _ (F : Nat) (by omega) (hsw.drewN q6)).mono ?_
      rintro e w7 ⟨k7, rfl, hk7, hs7, hu7⟩
      have hk7 := Int.ofNat_lt.mp hk7
      have hu7 : Up g ws.heap.size ws w7 := ⟨hu7.os, hu7.tape, hu7.output, hu7.size, hu7.block⟩
      obtain ⟨o7, r7⟩ := ownII_up hown hrows hu7 hgb
      have u7 := u5.call hu7
      have hz7 := hu7.size
      have B7 : BK w7 w.heap.size 26 #[.int .i64 0, .slice none 0 0] := by
        unfold BK at B5 ⊢
        rw [hu7.block _ (by omega) (by omega)]
        exact B5
      have hwk := fun W => hwn k7 W hk7
      have hin := HWI.out k7 hk7
      generalize wrL n k7 = row at *
      clear hown hrows B5 hu7 hsw u5
      go_wp2_with (fail)
      refine (hwk _).mono ?_
      rintro e w8 ⟨v8, rfl, o8, hb8⟩
      obtain ⟨A8, c8, rfl, _⟩ := own_slice' o8
      have hz8 := hb8.size
      have HIN2 : Hid (∀ a ∈ ll ++ [row], InR n a) := fun a ha => by
        rcases List.mem_append.1 ha with h | h
        · exact HIN.out a h
        · rw [List.mem_singleton.1 h]; exact hin
      have hrl := hin.1
      clear hwk hin
      generalize hLl : ll.length = Ll at *
      have HLL := Lib.hid hLl.symm
      have HRL := Lib.hid hrl
      clear hLl hrl
      go_wp2_with (at_builtin; refine wpList_append_src rfl (.tmp 20) (.tmp 27) 29 rfl (w.heap.size + 1) 24 i1 (.slice none 0 0) 1 24 Tryz.underlying29 hi1 hy0 hy1 hy2 rfl (by omega) (.slice A3 Ll c3) Ll vs rfl (World.ownsRow.alloc (own_below o7 hb8) _) (some ⟨w8.heap.size, 0, none⟩) 1 1 [.slice A8 n c8] rfl rfl (one_src w8 _ _) (by intro h; cases h) (by intro u hu; simp at hu; subst hu; rfl) (by simp only [maxLen]; omega) (by omega) (by simp; omega) ?_; intro v9 w9 hown9 hg9 hat9)
      have hr9 := row_more (v1 := .slice A8 n c8) (b := row) hg9 o7 r7 (by omega) (by rw [HRL.out]; exact o8) hb8
      have hne0 : (Value.slice A3 Ll c3).ownBlock ≠ some w.heap.size := fun h => by have := (o7.lt _ h).1; omega
      have hneg : (Value.slice A3 Ll c3).ownBlock ≠ some g := fun h => by have := (o7.lt _ h).1; omega
      have hg9' := (World.grownBy_alloc w8 (.cells #[.slice A8 n c8] 24) (Value.slice A3 Ll c3).ownBlock)
      go_roundw
      case rel =>
        refine ⟨j - 1, _, ll ++ [row], by go_num, by have := HLL.out; simp; omega, by rw [List.length_append, ← HLL.out]; exact hown9, hr9, HIN2, ?_, BK.kept ((B7.below hb8 (by omega)).alloc _) hg9 (Ne.symm hne0), ?_, ?_⟩
        · exact ((hs7.call hb8).call ((Below.refl w8.heap.size w8).alloc (Nat.le_refl _) (.cells #[.slice A8 n c8] 24))).grown hg9 (fun x hx => by have := (o7.lt x hx).1; omega)
        · exact (u7.thenB hb8).trans (Up.of ((((Below.refl w8.heap.size w8).alloc (Nat.le_refl _) (.cells #[.slice A8 n c8] 24)).mono (B' := w.heap.size) (by have := u7.size; omega)).grown hg9 (by simp; omega) (fun x hx => by have := (o7.lt x hx).1; omega)))
        · have := hg9.size; simp at this; omega
      case measure => simp [intOf]; omega
    · obtain rfl : j = 0 := by omega
      have hj0 : ¬ (0 : Int) < ((0 : Nat) : Int) := by omega
      go_wp2_with (fail)
      refine (hgen A3 ll c3 ws (by omega) (OwnII.ii hown hrows) HIN.out).mono ?_
      have hps := hpos ll HIN.out
      have HP := HPOST.out ll HIN.out
      generalize RK n ll = RL at *
      rintro e w6 ⟨v6, rfl, o6, hb6⟩
      obtain ⟨A6, c6, rfl, _⟩ := own_slice' o6
      have B6 := B5.below hb6 (by omega)
      obtain ⟨d0, d1, f0, f1⟩ := B6.two
      have u6 := u5.thenB hb6
      have hz6 := hb6.size
      have hs6 := hsw.call hb6
      go_wp2_with (fail)
      obtain ⟨d0, d1, hs7, u7, o7⟩ := gv_close (w := w) (.int .i64 (n : Int)) hs6 B6 hgw (Nat.le_refl _) u6 o6 (by omega)
      generalize (w6.setCell ⟨w.heap.size, 0, none⟩ (.int .i64 (n : Int))).setCell ⟨w.heap.size, 1, none⟩ (.slice A6 RL.length c6) = w7 at *
      refine bodyPost_ret (v := .agg #[.int .i64 (n : Int), .slice A6 RL.length c6]) (by simp [results, Tryz.results118, go_sem, d0, d1]) rfl ?_
      exact HP _ _ ⟨A6, c6, rfl, own_mono o7 (by omega), hs7, u7⟩
end Go.Proofs.YtglijcdnnaekkaaGreat
/- Draws of groups, rarely of others. -/
namespace Go.Proofs.YtglijcdnnaekkaaGreat
set_option linter.unusedVariables false
set_option linter.unusedSimpArgs false
open Go.RowKit

/-- A slice of int64 in a block of the call's own. -/
def ISF (w : World) (lo : Nat) (A : Option Addr) (l : List Int) : Prop := 0 < l.length → ∃ b off, A = some ⟨b, off, none⟩ ∧ lo ≤ b ∧ b < w.heap.size ∧ ∀ k, k < l.length → w.cell? ⟨b, off + k, none⟩ = some (.int .i64 (gt l k))
theorem ISF.is {w : World} {lo : Nat} {A : Option Addr} {l : List Int} (h : ISF w lo A l) : IS w w.heap.size A l := fun h0 => by
  obtain ⟨b, off, h1, _, h2, h3⟩ := h h0
  exact ⟨b, off, h1, h2, h3⟩
theorem own_isf {w : World} {base lo n c : Nat} {A : Option Addr} {l : List Int} (h : w.ownsRow base 2 1 (.slice A n c) n (ints l)) (hn : n = l.length) (hb : lo ≤ base) : ISF w lo A l := fun h0 => by
  obtain ⟨g, rfl, h1, h2, h3⟩ := own_src h (by omega)
  exact ⟨g, 0, rfl, by omega, h2, fun k hk => by rw [Nat.zero_add]; exact h3 k _ (ints_at (l := l) hk)⟩
/-- Any group at all. -/
def GD (g : Nat) (w : World) (e : Ending) (w' : World) : Prop := ∃ (p : Int) (A : Option Addr) (L c : Nat) (l : List Int), e = .returned (.agg #[.int .i64 p, .slice A L c]) ∧ L = l.length ∧ L ≤ 1000 ∧ ISF w' w.heap.size A l ∧ SRC w' g ∧ Up g w.heap.size w w'
theorem cell_two_other {w : World} {r s i : Nat} {v : Value} (hrs : r ≠ s) (h : w.cell? ⟨s, i, none⟩ = some v) (x y : Value) : ((w.setCell ⟨r, 0, none⟩ x).setCell ⟨r, 1, none⟩ y).cell? ⟨s, i, none⟩ = some v := by
  have ne0 : ∀ j, (⟨r, j, none⟩ : Addr) ≠ ⟨s, i, none⟩ := fun j e => by injection e with e; exact hrs e
  rw [World.cell?_setCell_other (h := ne0 1), World.cell?_setCell_other (h := ne0 0), h]
set_option maxRecDepth 20000 in
set_option maxHeartbeats 2000000 in
theorem s_l22Draw (g : Nat) (w : World) (hs : SRC w g) : Calls Tryz.prog 58 #[.pointer (some ⟨g, 0, none⟩)] w (GD g w) := by
  have hv := fun W h => s_l22Valid g W h
  have hnx := fun W n h1 h => s_nextI g n h1 W h
  have hgw := hs.lt
  have hs0 := hs.call ((Below.refl w.heap.size w).alloc (Nat.le_refl _) (.cells #[.int .i64 0, .slice none 0 0] 26))
  have B0 := BK.new w 26 #[.int .i64 0, .slice none 0 0]
  have u0 : Up g w.heap.size w (w.alloc (.cells #[.int .i64 0, .slice none 0 0] 26)) := Up.of ((Below.refl w.heap.size w).alloc (Nat.le_refl _) (.cells #[.int .i64 0, .slice none 0 0] 26))
  have hz0 : (w.alloc (.cells #[.int .i64 0, .slice none 0 0] 26)).heap.size = w.heap.size + 1 := World.size_alloc _ _
  go_enter Tryz.func58, Tryz.ntmps58
  go_wp2_with (fail)
  refine (hv _ hs0).mono ?_
  rintro e w1 ⟨n, gens, hn1, hn5, hin, A1, c1, rfl, o1, hs1, hu1⟩
  obtain ⟨hp0, hpF⟩ := RK_posG hin
  have hfl := fact_720 (n := n) (by omega)
  have hfac := fun W => s_factN n W (by omega)
  have hfp := fact_pos n
  generalize RK n gens = l at *
  generalize hL : l.length = L at *
  have HL := Lib.hid hL.symm
  generalize fact n = F at *
  have u1 := u0.call hu1
  generalize w.alloc (.cells #[.int .i64 0, .slice none 0 0] 26) = w0 at *
  have hz1 := hu1.size
  have B1 : BK w1 w.heap.size 26 #[.int .i64 0, .slice none 0 0] := by
    unfold BK at B0 ⊢
    rw [hu1.block _ (by omega) (by omega)]
    exact B0
  have hb1 := (Below.refl w1.heap.size w1).alloc (Nat.le_refl _) (.cells #[.int .i64 (n : Int), .slice A1 L c1] 26)
  have G1 := BK.new w1 26 #[.int .i64 (n : Int), .slice A1 L c1]
  have hs2 := hs1.call hb1
  have o2 := own_below o1 hb1
  have B2 := B1.below hb1 (by omega)
  have u2 := u1.thenB hb1
  have hz2 : (w1.alloc (.cells #[.int .i64 (n : Int), .slice A1 L c1] 26)).heap.size = w1.heap.size + 1 := World.size_alloc _ _
  clear hL hu1 u0 u1 B0 B1 hs0 hs1 o1 hv hin
  go_wp2_with (fail)
  refine (hnx _ 24 (by omega) hs2).mono ?_
  rintro e w3 ⟨k, rfl, hk, hs3, hu3⟩
  generalize w1.alloc (.cells #[.int .i64 (n : Int), .slice A1 L c1] 26) = w2 at *
  have hz3 := hu3.size
  have B3 : BK w3 w.heap.size 26 #[.int .i64 0, .slice none 0 0] := by
    unfold BK at B2 ⊢
    rw [hu3.block _ (by omega) (by omega)]
    exact B2
  have G3 : BK w3 w1.heap.size 26 #[.int .i64 (n : Int), .slice A1 L c1] := by
    unfold BK at G1 ⊢
    rw [hu3.block _ (by omega) (by omega)]
    exact G1
  have u3 := u2.call hu3
  have o3 := up_own (B := 0) o2 hu3 (by omega)
  obtain ⟨d0, d1, _, _⟩ := G3.two
  obtain ⟨r0, r1, rf0, rf1⟩ := B3.two
  clear B2 G1 u2 o2 hs2 hu3 hnx
  have hk4 : k = 0 ∨ k = 1 ∨ k = 2 ∨ 2 < k := by omega
  rcases hk4 with rfl | rfl | rfl | hk2
  · obtain ⟨g1, rfl, hg1, hg1', hc1⟩ := own_src o3 (by omega)
    have hown := s_l01Own ⟨g1, 0, none⟩ L c1 l w3.drew HL.out (by omega) (fun j u hj => by rw [Go.WideShapes.add_plain, Nat.zero_add]; exact hc1 j u hj) (fun j => by rw [Go.WideShapes.add_plain]; exact hg1')
    have hf1 : IntKind.i64.wrap ((F : Int) - 1) = (F : Int) - 1 := IntWalk.i64_in _ (by omega)
    obtain ⟨i0, hi, hz0', hz1', hz2'⟩ := info_parts infoI64
    clear hc1 hk hs
    go_wp2_with (fail)
    have hS3 : w3.drew.cell? ⟨w1.heap.size, 0, none⟩ = some (.int .i64 (n : Int)) ∧ w3.drew.cell? ⟨w1.heap.size, 1, none⟩ = some (.slice (some ⟨g1, 0, none⟩) L c1) := ⟨d0, d1⟩
    clear d0 d1
    go_region_held3 (fun W => W.cell? ⟨w1.heap.size, 0, none⟩ = some (.int .i64 (n : Int)) ∧ W.cell? ⟨w1.heap.size, 1, none⟩ = some (.slice (some ⟨g1, 0, none⟩) L c1)) ((first | exact hS7 _ _ | exact hS6 | exact hS5a _ | exact hS5d | exact hS5 | exact hS3))
      (first
        | ((refine step_append_own (by rfl) (.tmp 14) (.tmp 19) 24 (by rfl) w3.heap.size 2 i0 (.int .i64 0) 1 8 Tryz.underlying24 hi hz0' hz1' hz2' rfl (by omega) (.slice A5 L c5) L (ints l) (by rfl) (World.ownsRow.alloc o5 _) ⟨w5.heap.size, 0, none⟩ 1 1 [.int .i64 ((F : Int) - 1)] (by rfl) (by rfl) (one_src_dr w5 q5 _ _ _ rfl) (fun u hu => by rw [List.mem_singleton.1 hu]; rfl) (by simp only [maxLen]; omega) (by omega) (by have : w3.heap.size ≤ w5.heap.size := hz5; simp; try omega) ?_; intro v6 w6 o6 g6 at6; obtain ⟨A6, c6, rfl, _⟩ := own_slice' o6; have hne6 := fun r (h : r < w3.heap.size) (e : some r = (Value.slice A5 L c5).ownBlock) => Nat.lt_irrefl _ (Nat.lt_of_lt_of_le h (o5.lt _ e.symm).1); have B6 := BK.kept ((B5.drewN q5).alloc _) g6 (fun e => hne6 _ (by omega) e); obtain ⟨r6, r7, rf6, rf7⟩ := B6.two; have G6 := BK.kept ((G5.drewN q5).alloc _) g6 (fun e => hne6 _ (by omega) e); have hS6 : w6.cell? ⟨w1.heap.size, 0, none⟩ = some (.int .i64 (n : Int)) ∧ w6.cell? ⟨w1.heap.size, 1, none⟩ = some (.slice (some ⟨g1, 0, none⟩) L c1) := ⟨G6.two.1, G6.two.2.1⟩; have hS7 := fun x y => And.intro (cell_two_other (r := w.heap.size) (by omega) hS6.1 x y) (cell_two_other (r := w.heap.size) (by omega) hS6.2 x y)))
        | (go_at_call 89; refine (hfac _).mono ?_; rintro e w5' ⟨rfl, q5, rfl⟩; have d5a : ∀ o, ((w5.drewN q5).alloc o).cell? ⟨w1.heap.size, 0, none⟩ = some (.int .i64 (n : Int)) := fun o => ((G5.drewN q5).alloc o).two.1; have hS5d : (w5.drewN q5).cell? ⟨w1.heap.size, 0, none⟩ = some (.int .i64 (n : Int)) ∧ (w5.drewN q5).cell? ⟨w1.heap.size, 1, none⟩ = some (.slice (some ⟨g1, 0, none⟩) L c1) := ⟨G5.two.1, G5.two.2.1⟩; have hS5a : ∀ o, ((w5.drewN q5).alloc o).cell? ⟨w1.heap.size, 0, none⟩ = some (.int .i64 (n : Int)) ∧ ((w5.drewN q5).alloc o).cell? ⟨w1.heap.size, 1, none⟩ = some (.slice (some ⟨g1, 0, none⟩) L c1) := fun o => ⟨((G5.drewN q5).alloc o).two.1, ((G5.drewN q5).alloc o).two.2.1⟩)
        | (go_at_call 119; refine hown.mono ?_; rintro e w5 ⟨v5, rfl, o5, hb5⟩; obtain ⟨A5, c5, rfl, _⟩ := own_slice' o5; have hb5 := undrew (n := 1) hb5; have hz5 := hb5.size; have G5 := G3.below hb5 (by show w1.heap.size < w3.heap.size; omega); have d5 := G5.two.1; have B5 := B3.below hb5 (by show w.heap.size < w3.heap.size; omega); have hS5 : w5.cell? ⟨w1.heap.size, 0, none⟩ = some (.int .i64 (n : Int)) ∧ w5.cell? ⟨w1.heap.size, 1, none⟩ = some (.slice (some ⟨g1, 0, none⟩) L c1) := ⟨G5.two.1, G5.two.2.1⟩))
    all_goals
      have hg5 : g < w3.heap.size := by omega
      have hb6 := ((below_drewN (Below.refl w5.heap.size w5) q5).alloc (Nat.le_refl _) (.cells #[.int .i64 ((F : Int) - 1)] 2))
      have hs6 := (((hs3.call hb5).call hb6)).grown g6 (fun x hx => Nat.lt_of_lt_of_le hg5 (o5.lt x hx).1)
      have u6 := (u3.thenB hb5).trans (Up.of ((hb6.mono (B' := w.heap.size) (by have : w3.heap.size ≤ w5.heap.size := hz5; omega)).grown g6 (by have : w3.heap.size ≤ w5.heap.size := hz5; simp; omega) (fun x hx => by have h3 : w3.heap.size ≤ x := (o5.lt x hx).1; omega)))
      rw [← ints_snoc] at o6
      obtain ⟨e0, e1, hs7, u7, o7⟩ := gv_close (w := w) (.int .i64 (n : Int)) hs6 B6 hgw (Nat.le_refl _) u6 o6 (by omega)
      generalize (w6.setCell ⟨w.heap.size, 0, none⟩ (.int .i64 (n : Int))).setCell ⟨w.heap.size, 1, none⟩ (.slice A6 (L + 1) c6) = w7 at *
      go_wp2_with (fail)
      refine bodyPost_ret (v := .agg #[.int .i64 (n : Int), .slice A6 (L + 1) c6]) (by simp [results, Tryz.results58, go_sem, e0, e1]) rfl ?_
      have hl1 : L + 1 = (l ++ [(F : Int) - 1]).length := by rw [List.length_append, ← HL.out]; rfl
      exact ⟨n, A6, L + 1, c6, l ++ [(F : Int) - 1], rfl, hl1, by omega, own_isf o7 hl1 (by omega), hs7, u7⟩
  · have hpk := fun x W h => s_pick3 g 0 7 x W h
    have hs3d : SRC w3.drew g := hs3
    have d1a := (((Below.refl w3.heap.size w3).alloc (Nat.le_refl _) (.cells #[.int .i64 0, .int .i64 7, .int .i64 ((n : Int) + 1)] 2)).cell (p := ⟨w1.heap.size, 1, none⟩) (by show w1.heap.size < _; omega)).trans d1
    have hw1 : IntKind.i64.wrap ((n : Int) + 1) = (n : Int) + 1 := IntWalk.i64_in _ (by omega)
    go_wp2_with (fail)
    go_region_law
      (go_simp; first
        | (go_at_call 59; refine (hpk ((n : Int) + 1) _ hs3d).mono ?_; rintro e w6 ⟨p6, rfl, _, hs6, hu6⟩; have hu6 : Up g w3.heap.size w3 w6 := ⟨hu6.os, hu6.tape, hu6.output, hu6.size, hu6.block⟩; have hz6 := hu6.size; have d6 := (hu6.cell (p := ⟨w1.heap.size, 1, none⟩) (by show w1.heap.size < _; omega) (by show w1.heap.size ≠ _; omega)).trans d1; have r6 := (hu6.cell (p := ⟨w.heap.size, 0, none⟩) (by show w.heap.size < _; omega) (by show w.heap.size ≠ _; omega)).trans r0; have r7 := (hu6.cell (p := ⟨w.heap.size, 1, none⟩) (by show w.heap.size < _; omega) (by show w.heap.size ≠ _; omega)).trans r1; have B6 : BK w6 w.heap.size 26 #[.int .i64 0, .slice none 0 0] := (by unfold BK at B3 ⊢; rw [hu6.block _ (by omega) (by omega)]; exact B3); obtain ⟨_, _, rf6, rf7⟩ := B6.two))
    all_goals
      have u6 := u3.call hu6
      have o6 := up_own (B := 0) o3 hu6 (by omega)
      obtain ⟨d0, d1, hs7, u7, o7⟩ := gv_close (w := w) (.int .i64 p6) hs6 B6 hgw (Nat.le_refl _) u6 o6 (by omega)
      generalize (w6.setCell ⟨w.heap.size, 0, none⟩ (.int .i64 p6)).setCell ⟨w.heap.size, 1, none⟩ (.slice A1 L c1) = w7 at *
      go_wp2_with (fail)
      refine bodyPost_ret (v := .agg #[.int .i64 p6, .slice A1 L c1]) (by simp [results, Tryz.results58, go_sem, d0, d1]) rfl ?_
      exact ⟨p6, A1, L, c1, l, rfl, HL.out, by omega, own_isf o7 HL.out (by omega), hs7, u7⟩
  · obtain ⟨g1, rfl, hg1, hg1', hc1⟩ := own_src o3 (by omega)
    have hcap := (own_cap o3).1
    have hL1 : (1 : Int) ≤ (L : Int) := by omega
    go_wp2_with (fail)
    have hc1' : ∀ j, j < L → w3.cell? ⟨g1, j, none⟩ = some (.int .i64 (gt l j)) := fun j hj => hc1 j _ (ints_at (l := l) (by rw [← HL.out]; exact hj))
    have htl : L - 1 = l.tail.length := by rw [List.length_tail, ← HL.out]
    have hgt : ∀ j, gt l.tail j = gt l (j + 1) := fun j => by cases l <;> simp [gt]
    have hg1n : g1 ≠ w.heap.size := by omega
    have hb3 : Below w.heap.size w3 w3 := Below.refl _ _
    have HTL := Lib.hid htl
    have HGT := Lib.hid hgt
    have HC := Lib.hid hc1'
    have hfin : ∀ (A2 : Option Addr) (m c2 : Nat), m = L - 1 → (0 < m → A2 = some ⟨g1, 1, none⟩) → GD g w (.returned (.agg #[.int .i64 (n : Int), .slice A2 m c2])) ((w3.setCell ⟨w.heap.size, 0, none⟩ (.int .i64 (n : Int))).setCell ⟨w.heap.size, 1, none⟩ (.slice A2 m c2)).drew ∧ ((w3.setCell ⟨w.heap.size, 0, none⟩ (.int .i64 (n : Int))).setCell ⟨w.heap.size, 1, none⟩ (.slice A2 m c2)).drew.cell? ⟨w.heap.size, 0, none⟩ = some (.int .i64 (n : Int)) ∧ ((w3.setCell ⟨w.heap.size, 0, none⟩ (.int .i64 (n : Int))).setCell ⟨w.heap.size, 1, none⟩ (.slice A2 m c2)).drew.cell? ⟨w.heap.size, 1, none⟩ = some (.slice A2 m c2) := fun A2 m c2 hm hA => by
      have hb : Below w.heap.size w3 ((w3.setCell ⟨w.heap.size, 0, none⟩ (.int .i64 (n : Int))).setCell ⟨w.heap.size, 1, none⟩ (.slice A2 m c2)).drew := (((Below.refl w.heap.size w3).setCell (p := ⟨w.heap.size, 0, none⟩) (Nat.le_refl _) _).setCell (p := ⟨w.heap.size, 1, none⟩) (Nat.le_refl _) _).drew
      have h5 := (B3.set 0 (.int .i64 (n : Int))).set 1 (.slice A2 m c2)
      obtain ⟨q0, q1, _, _⟩ := BK.two (x := .int .i64 (n : Int)) (y := .slice A2 m c2) (by simpa using h5)
      refine ⟨⟨n, A2, m, c2, l.tail, rfl, hm.trans HTL.out, by omega, fun h0 => ?_, hs3.below hb hgw, u3.trans (Up.of hb)⟩, q0, q1⟩
      have hA2 := hA (by have := HTL.out; omega)
      subst hA2
      refine ⟨g1, 1, rfl, by omega, by have := hb.size; omega, fun j hj => ?_⟩
      show ((w3.setCell ⟨w.heap.size, 0, none⟩ (.int .i64 (n : Int))).setCell ⟨w.heap.size, 1, none⟩ _).cell? ⟨g1, 1 + j, none⟩ = _
      have ne0 : ∀ i, (⟨w.heap.size, i, none⟩ : Addr) ≠ ⟨g1, 1 + j, none⟩ := fun i e => by injection e with e; exact hg1n e.symm
      rw [HGT.out, World.cell?_setCell_other (h := ne0 1), World.cell?_setCell_other (h := ne0 0), Nat.add_comm 1 j]
      exact HC.out (j + 1) (by have := HTL.out; omega)
    clear hc1' htl hgt
    by_cases hc : c1 = 1
    · subst hc
      have hL' : L - 1 = 0 := by omega
      have hf := hfin (some ⟨g1, 0, none⟩) 0 0 hL'.symm (by omega)
      rw [hL'] at hfin
      go_region_law (fail)
      all_goals
        obtain ⟨f1, f2, f3⟩ := hf
        generalize ((w3.setCell ⟨w.heap.size, 0, none⟩ (.int .i64 (n : Int))).setCell ⟨w.heap.size, 1, none⟩ (.slice (some ⟨g1, 0, none⟩) 0 0)).drew = w7 at *
        go_wp2_with (fail)
        refine bodyPost_ret (v := .agg #[.int .i64 (n : Int), .slice (some ⟨g1, 0, none⟩) 0 0]) (by simp [results, Tryz.results58, go_sem, f2, f3]) rfl ?_
        exact f1
    · have hf := hfin (some ⟨g1, 1, none⟩) (L - 1) (c1 - 1) rfl (fun _ => rfl)
      go_region_law (fail)
      all_goals
        obtain ⟨f1, f2, f3⟩ := hf
        generalize ((w3.setCell ⟨w.heap.size, 0, none⟩ (.int .i64 (n : Int))).setCell ⟨w.heap.size, 1, none⟩ (.slice (some ⟨g1, 1, none⟩) (L - 1) (c1 - 1))).drew = w7 at *
        go_wp2_with (fail)
        refine bodyPost_ret (v := .agg #[.int .i64 (n : Int), .slice (some ⟨g1, 1, none⟩) (L - 1) (c1 - 1)]) (by simp [results, Tryz.results58, go_sem, f2, f3]) rfl ?_
        exact f1
  · have t0 : ((k : Int) == 0) = false := by rw [beq_eq_false_iff_ne]; omega
    have t1 : ((k : Int) == 1) = false := by rw [beq_eq_false_iff_ne]; omega
    have t2 : ((k : Int) == 2) = false := by rw [beq_eq_false_iff_ne]; omega
    go_wp2_with (fail)
    obtain ⟨d0, d1, hs7, u7, o7⟩ := gv_close (w := w) (.int .i64 (n : Int)) hs3 B3 hgw (Nat.le_refl _) u3 o3 (by omega)
    generalize (w3.setCell ⟨w.heap.size, 0, none⟩ (.int .i64 (n : Int))).setCell ⟨w.heap.size, 1, none⟩ (.slice A1 L c1) = w7 at *
    refine bodyPost_ret (v := .agg #[.int .i64 (n : Int), .slice A1 L c1]) (by simp [results, Tryz.results58, go_sem, d0, d1]) rfl ?_
    exact ⟨n, A1, L, c1, l, rfl, HL.out, by omega, own_isf o7 HL.out (by omega), hs7, u7⟩
end Go.Proofs.YtglijcdnnaekkaaGreat
