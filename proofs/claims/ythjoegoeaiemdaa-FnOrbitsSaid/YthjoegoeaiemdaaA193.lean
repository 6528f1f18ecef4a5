/- Draws of groups. -/
import Derived.Test.YthjoegoeaiemdaaA116
import Derived.Test.YthjoegoeaiemdaaA142
import Derived.Deep.RegionLaw
namespace Go.Proofs.Ythjoegoeaiemdaa
set_option linter.unusedVariables false
set_option linter.unusedSimpArgs false
open Go.RowKit

theorem step_len (m : List Int) : ∀ (gens ms : List (List Int)) (sn : List Bool), ms.length ≤ (stepG m gens ms sn).1.length
  | [], _, _ => Nat.le_refl _
  | g :: gens, ms, sn => by
    unfold stepG
    split
    · exact step_len m gens ms sn
    · exact Nat.le_trans (by simp) (step_len m gens (ms ++ [prodL g m]) (sn.set (rk (prodL g m)) true))
theorem bfs_len (gens : List (List Int)) : ∀ (f k : Nat) (ms : List (List Int)) (sn : List Bool), ms.length ≤ (bfs gens f k ms sn).1.length
  | 0, _, _, _ => Nat.le_refl _
  | f + 1, k, ms, sn => by
    unfold bfs
    split
    · exact Nat.le_trans (step_len (gl ms k) gens ms sn) (bfs_len gens f (k + 1) _ _)
    · exact Nat.le_refl _
theorem RK_posG {n : Nat} {gens : List (List Int)} (hg : ∀ g ∈ gens, InR n g) : 0 < (RK n gens).length ∧ (RK n gens).length ≤ fact n := by
  have h1 : 1 ≤ (RG n gens).1.length := bfs_len gens (fact n + 1) 0 [idL n] _
  have h2 := RK_eq hg
  constructor
  · rw [← h2]
    have h3 : ((rk (gl (RG n gens).1 0) : Nat) : Int) ∈ rkC (RG n gens).1 := by
      unfold rkC
      refine ((sorted_compact (rksL (RG n gens).1)).2 _).2 ?_
      unfold rksL
      exact List.mem_map.2 ⟨_, gl_mem (by omega), rfl⟩
    exact List.length_pos_of_mem h3
  · unfold RK
    have := lsL_len (RG n gens).2
    rw [(RG_gi hg).1] at this
    exact this
theorem ownII_up {w w' : World} {g base : Nat} {v : Value} {vs : List Value} {ll : List (List Int)} (ho : w.ownsRow base 24 1 v ll.length vs) (hr : RowsO w base vs ll) (hu : Up g w.heap.size w w') (hg : g < base) : w'.ownsRow base 24 1 v ll.length vs ∧ RowsO w' base vs ll :=
  ⟨up_own (B := 0) ho hu hg, hr.kept (Up.grown hu) fun i hi => by
    cases hb : (gv vs i).ownBlock with
    | none => exact .inl rfl
    | some x => exact .inr fun e => by have := (World.ownsRow.lt (hr.2.1 i hi) x hb).1; injection e with e; omega⟩
/-- A group of n points that a draw hands back. -/
def GV (g n : Nat) (l : List Int) (w : World) (e : Ending) (w' : World) : Prop := ∃ A c, e = .returned (.agg #[.int .i64 n, .slice A l.length c]) ∧ w'.ownsRow w.heap.size 2 1 (.slice A l.length c) l.length (ints l) ∧ SRC w' g ∧ Up g w.heap.size w w'
/-- A group is stored into a result's cell. -/
theorem gv_close {w W : World} {g r L c base : Nat} {A : Option Addr} {l : List Int} {x y : Value} (p : Value) (hs : SRC W g) (hB : BK W r 26 #[x, y]) (hgr : g < r) (hr : w.heap.size ≤ r) (hu : Up g w.heap.size w W) (ho : W.ownsRow base 2 1 (.slice A L c) L (ints l)) (hbase : r < base) :
    ((W.setCell ⟨r, 0, none⟩ p).setCell ⟨r, 1, none⟩ (.slice A L c)).cell? ⟨r, 0, none⟩ = some p ∧ ((W.setCell ⟨r, 0, none⟩ p).setCell ⟨r, 1, none⟩ (.slice A L c)).cell? ⟨r, 1, none⟩ = some (.slice A L c) ∧
    SRC ((W.setCell ⟨r, 0, none⟩ p).setCell ⟨r, 1, none⟩ (.slice A L c)) g ∧ Up g w.heap.size w ((W.setCell ⟨r, 0, none⟩ p).setCell ⟨r, 1, none⟩ (.slice A L c)) ∧ ((W.setCell ⟨r, 0, none⟩ p).setCell ⟨r, 1, none⟩ (.slice A L c)).ownsRow base 2 1 (.slice A L c) L (ints l) := by
  have h5 := (hB.set 0 p).set 1 (.slice A L c)
  have hb : Below r W ((W.setCell ⟨r, 0, none⟩ p).setCell ⟨r, 1, none⟩ (.slice A L c)) := ((Below.refl _ _).setCell (p := ⟨r, 0, none⟩) (Nat.le_refl _) p).setCell (p := ⟨r, 1, none⟩) (Nat.le_refl _) _
  obtain ⟨d0, d1, _, _⟩ := BK.two (x := p) (y := .slice A L c) (by simpa using h5)
  exact ⟨d0, d1, hs.below hb hgr, hu.trans (Up.of (hb.mono hr)), ownsRow_setCell_below (ownsRow_setCell_below ho (a := ⟨r, 0, none⟩) hbase p) (a := ⟨r, 1, none⟩) hbase (.slice A L c)⟩
set_option maxRecDepth 20000 in
set_option maxHeartbeats 2000000 in
theorem s_l22Valid (g : Nat) (w : World) (hs : SRC w g) : Calls Try.prog 117 #[.pointer (some ⟨g, 0, none⟩)] w (fun e w' => ∃ n gens, 1 ≤ n ∧ n ≤ 5 ∧ (∀ a ∈ gens, InR n a) ∧ GV g n (RK n gens) w e w') := by
  have hnx := fun W n h1 h => s_nextI g n h1 W h
  have hpk := fun x W h => s_pick5 g 3 4 4 5 x W h
  have hwith := fun n r W h1 h2 h => s_l21With n r W h1 h2 h
  have hfac := fun n W h => s_factN n W h
  have hgw := hs.lt
  have hs0 := hs.call ((Below.refl w.heap.size w).alloc (Nat.le_refl _) (.cells #[.int .i64 0, .slice none 0 0] 26))
  have B0 := BK.new w 26 #[.int .i64 0, .slice none 0 0]
  have u0 : Up g w.heap.size w (w.alloc (.cells #[.int .i64 0, .slice none 0 0] 26)) := Up.of ((Below.refl w.heap.size w).alloc (Nat.le_refl _) (.cells #[.int .i64 0, .slice none 0 0] 26))
  have hz0 : (w.alloc (.cells #[.int .i64 0, .slice none 0 0] 26)).heap.size = w.heap.size + 1 := World.size_alloc _ _
  obtain ⟨i1, hi1, hy0, hy1, hy2⟩ := info_parts infoSl
  go_enter Try.func117, Try.ntmps117
  go_wp2_with (fail)
  refine (hnx _ 5 (by omega) hs0).mono ?_
  rintro e w1 ⟨k, rfl, hk, hs1, hu1⟩
  have u1 := u0.call hu1
  generalize w.alloc (.cells #[.int .i64 0, .slice none 0 0] 26) = w0 at *
  have hz1 := hu1.size
  have B1 : BK w1 w.heap.size 26 #[.int .i64 0, .slice none 0 0] := by
    unfold BK at B0 ⊢
    rw [hu1.block _ (by omega) (by omega)]
    exact B0
  clear u0 hs0 hu1
  go_wp2_with (fail)
  refine (hpk _ _ hs1).mono ?_
  rintro e w2 ⟨r, rfl, hr, hs2, hu2⟩
  have u2 := u1.call hu2
  have hn : ∃ n : Nat, r = n ∧ 1 ≤ n ∧ n ≤ 5 := by
    simp at hr
    refine ⟨r.toNat, ?_, ?_, ?_⟩ <;> omega
  obtain ⟨n, rfl, hn1, hn5⟩ := hn
  have hz2 := hu2.size
  have B2 : BK w2 w.heap.size 26 #[.int .i64 0, .slice none 0 0] := by
    unfold BK at B1 ⊢
    rw [hu2.block _ (by omega) (by omega)]
    exact B1
  have hfn := fun W => hfac n W (by omega)
  have hwn := fun r W h => hwith n r W hn1 (by omega) h
  have hwi := fun r (h : r < fact n) => wrL_in h
  have hfp := fact_pos n
  have hgen := fun A (gens : List (List Int)) c W hl h h' => s_generate n A gens.length c gens W hn1 (by omega) rfl hl h h'
  have hpos := fun (gens : List (List Int)) h => RK_posG (n := n) (gens := gens) h
  generalize fact n = F at *
  have HWI := Lib.hid hwi
  have HPOST := Lib.hid (show ∀ gens, (∀ a ∈ gens, InR n a) → ∀ e w', GV g n (RK n gens) w e w' → ∃ n gens, 1 ≤ n ∧ n ≤ 5 ∧ (∀ a ∈ gens, InR n a) ∧ GV g n (RK n gens) w e w' from fun gens h e w' h' => ⟨n, gens, hn1, hn5, h, h'⟩)
  have hlit := World.ownsRow_lit (base := w.heap.size + 1) (e := 24) (size := 1) w2 #[] 0 (by omega) (by simp [maxLen]) rfl
  have hbl := (Below.refl w2.heap.size w2).alloc (Nat.le_refl _) (.cells #[] 24)
  have hs3 := hs2.call hbl
  have u3 := u2.thenB hbl
  have B3 := B2.alloc (.cells #[] 24)
  have hz3 : w2.heap.size + 1 = (w2.alloc (.cells #[] 24)).heap.size := (World.size_alloc _ _).symm
  clear hr hk hpk hwith hfac u1 u2 B0 B1 B2 hs1 hs2 hu2 hwi
  go_wp2_with (fail)
  refine (hnx _ 2 (by omega) hs3).mono ?_
  rintro e w4 ⟨k2, rfl, hk2, hs4, hu4⟩
  generalize w2.alloc (.cells #[] 24) = w3 at *
  have p4 := u3.call hu4
  have hz4 := hu4.size
  have hgb : g < w.heap.size + 1 := by omega
  have ho4 := up_own (B := 0) hlit hu4 hgb
  have B4 : BK w4 w.heap.size 26 #[.int .i64 0, .slice none 0 0] := by
    unfold BK at B3 ⊢
    rw [hu4.block _ (by omega) (by omega)]
    exact B3
  clear u3 B3 hs3 hu4 hlit hbl
  go_wp2_with (fail)
  go_loopw [4, 5] (fun u4' u5 wr => ∃ (j : Nat) (vs : List Value) (ll : List (List Int)), u5 = .int .i64 j ∧ ll.length + j ≤ 2 ∧ wr.ownsRow (w.heap.size + 1) 24 1 u4' ll.length vs ∧ RowsO wr (w.heap.size + 1) vs ll ∧ Hid (∀ a ∈ ll, InR n a) ∧ SRC wr g ∧ BK wr w.heap.size 26 #[.int .i64 0, .slice none 0 0] ∧ Up g w.heap.size w wr ∧ w.heap.size + 1 ≤ wr.heap.size) (fun _ u5 _ => (intOf u5).toNat)
  case atStart => exact ⟨1 + k2, [], [], by go_num, by simp; omega, ho4, ⟨rfl, fun i hi => by simp at hi, fun i j _ hj => by simp at hj⟩, fun a ha => by simp at ha, hs4, B4, p4, by omega⟩
  case round =>
    clear ho4 hs4 B4 p4
    obtain ⟨ws, rfl⟩ : ∃ ws : World, ws = wr := ⟨_, rfl⟩
    obtain ⟨j, vs, ll, rfl, hlj, hown, hrows, HIN, hsw, B5, u5, hz5⟩ := hrel
    obtain ⟨A3, c3, rfl, _⟩ := own_slice' hown
    by_cases hj : 0 < j
    · have hj0 : (0 : Int) < (j : Int) := by omega
      go_wp2_with (go_at_call 119; refine (hfn _).mono ?_; rintro e w6 ⟨rfl, q6, rfl⟩)
      refine (hnx _ (F : Nat) (by omega) (hsw.drewN q6)).mono ?_
      rintro e w7 ⟨k7, rfl, hk7, hs7, hu7⟩
      have hk7 := Int.ofNat_lt.mp hk7
      have hu7 : Up g ws.heap.size ws w7 := ⟨hu7.os, hu7.tape, hu7.output, hu7.size, hu7.block⟩
      obtain ⟨o7, r7⟩ := ownII_up hown hrows hu7 hgb
      have u7 := u5.call hu7
      have hz7 := hu7.size
      have B7 : BK w7 w.heap.size 26 #[.int .i64 0, .slice none 0 0] := by
        unfold BK at B5 ⊢
        rw [hu7.block _ (by omega) (by omega)]
        exact B5
      have hwk := fun W => hwn k7 W hk7
      have hin := HWI.out k7 hk7
      generalize wrL n k7 = row at *
      clear hown hrows B5 hu7 hsw u5
      go_wp2_with (fail)
      refine (hwk _).mono ?_
      rintro e w8 ⟨v8, rfl, o8, hb8⟩
      obtain ⟨A8, c8, rfl, _⟩ := own_slice' o8
      have hz8 := hb8.size
      have HIN2 : Hid (∀ a ∈ ll ++ [row], InR n a) := fun a ha => by
        rcases List.mem_append.1 ha with h | h
        · exact HIN.out a h
        · rw [List.mem_singleton.1 h]; exact hin
      have hrl := hin.1
      clear hwk hin
      generalize hLl : ll.length = Ll at *
      have HLL := Lib.hid hLl.symm
      have HRL := Lib.hid hrl
      clear hLl hrl
      go_wp2_with (at_builtin; refine wpList_append_src rfl (.tmp 20) (.tmp 27) 36 rfl (w.heap.size + 1) 24 i1 (.slice none 0 0) 1 24 Try.underlying36 hi1 hy0 hy1 hy2 rfl (by omega) (.slice A3 Ll c3) Ll vs rfl (World.ownsRow.alloc (own_below o7 hb8) _) (some ⟨w8.heap.size, 0, none⟩) 1 1 [.slice A8 n c8] rfl rfl (one_src w8 _ _) (by intro h; cases h) (by intro u hu; simp at hu; subst hu; rfl) (by simp only [maxLen]; omega) (by omega) (by simp; omega) ?_; intro v9 w9 hown9 hg9 hat9)
      have hr9 := row_more (v1 := .slice A8 n c8) (b := row) hg9 o7 r7 (by omega) (by rw [HRL.out]; exact o8) hb8
      have hne0 : (Value.slice A3 Ll c3).ownBlock ≠ some w.heap.size := fun h => by have := (o7.lt _ h).1; omega
      have hneg : (Value.slice A3 Ll c3).ownBlock ≠ some g := fun h => by have := (o7.lt _ h).1; omega
      have hg9' := (World.grownBy_alloc w8 (.cells #[.slice A8 n c8] 24) (Value.slice A3 Ll c3).ownBlock)
      go_roundw
      case rel =>
        refine ⟨j - 1, _, ll ++ [row], by go_num, by have := HLL.out; simp; omega, by rw [List.length_append, ← HLL.out]; exact hown9, hr9, HIN2, ?_, BK.kept ((B7.below hb8 (by omega)).alloc _) hg9 (Ne.symm hne0), ?_, ?_⟩
        · exact ((hs7.call hb8).call ((Below.refl w8.heap.size w8).alloc (Nat.le_refl _) (.cells #[.slice A8 n c8] 24))).grown hg9 (fun x hx => by have := (o7.lt x hx).1; omega)
        · exact (u7.thenB hb8).trans (Up.of ((((Below.refl w8.heap.size w8).alloc (Nat.le_refl _) (.cells #[.slice A8 n c8] 24)).mono (B' := w.heap.size) (by have := u7.size; omega)).grown hg9 (by simp; omega) (fun x hx => by have := (o7.lt x hx).1; omega)))
        · have := hg9.size; simp at this; omega
      case measure => simp [intOf]; omega
    · obtain rfl : j = 0 := by omega
      have hj0 : ¬ (0 : Int) < ((0 : Nat) : Int) := by omega
      go_wp2_with (fail)
      refine (hgen A3 ll c3 ws (by omega) (OwnII.ii hown hrows) HIN.out).mono ?_
      have hps := hpos ll HIN.out
      have HP := HPOST.out ll HIN.out
      generalize RK n ll = RL at *
      rintro e w6 ⟨v6, rfl, o6, hb6⟩
      obtain ⟨A6, c6, rfl, _⟩ := own_slice' o6
      have B6 := B5.below hb6 (by omega)
      obtain ⟨d0, d1, f0, f1⟩ := B6.two
      have u6 := u5.thenB hb6
      have hz6 := hb6.size
      have hs6 := hsw.call hb6
      go_wp2_with (fail)
      obtain ⟨d0, d1, hs7, u7, o7⟩ := gv_close (w := w) (.int .i64 (n : Int)) hs6 B6 hgw (Nat.le_refl _) u6 o6 (by omega)
      generalize (w6.setCell ⟨w.heap.size, 0, none⟩ (.int .i64 (n : Int))).setCell ⟨w.heap.size, 1, none⟩ (.slice A6 RL.length c6) = w7 at *
      refine bodyPost_ret (v := .agg #[.int .i64 (n : Int), .slice A6 RL.length c6]) (by simp [results, Try.results117, go_sem, d0, d1]) rfl ?_
      exact HP _ _ ⟨A6, c6, rfl, own_mono o7 (by omega), hs7, u7⟩
end Go.Proofs.Ythjoegoeaiemdaa
