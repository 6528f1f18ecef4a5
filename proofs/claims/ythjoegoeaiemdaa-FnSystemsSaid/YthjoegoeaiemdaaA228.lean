/- Draws of systems. -/
import Derived.Test.YthjoegoeaiemdaaA227
import Derived.Maps.AppendAt
namespace Go.Proofs.Ythjoegoeaiemdaa
set_option linter.unusedVariables false
set_option linter.unusedSimpArgs false
open Go.RowKit

/-- One more residue at a list's end. -/
theorem it_more {w ws w7 : World} {g m c base : Nat} {A : Option Addr} {l : List Z3} {z : Z3} {v : Value} {o : Obj} (hg : g < base) (hw : w.heap.size ≤ base) (hbs : base ≤ ws.heap.size) (ho : ws.ownsRow base 95 3 (.slice A m c) m (zcells l)) (hs : SRC ws g) (hu : Up g w.heap.size w ws)
    (h7 : w7.ownsRow base 95 3 v (m + 1) (zcells l ++ [.int .i64 z.1, .int .i64 z.2.1, .int .i64 z.2.2])) (hg7 : (ws.alloc o).grownBy w7 (Value.slice A m c).ownBlock) :
    w7.ownsRow base 95 3 v (m + 1) (zcells (l ++ [z])) ∧ SRC w7 g ∧ Up g w.heap.size w w7 := by
  have hb := (Below.refl ws.heap.size ws).alloc (Nat.le_refl _) o
  refine ⟨by rw [zcells_snoc]; exact h7, (hs.call hb).grown hg7 (fun k hk => by have := (ho.lt k hk).1; omega), ?_⟩
  exact hu.trans (Up.of ((hb.mono (B' := w.heap.size) hu.size).grown hg7 (by have := hu.size; simp; omega) (fun k hk => by have := (ho.lt k hk).1; omega)))
theorem R3_snoc {l : List Z3} {z : Z3} (h : R3 l) (h1 : B64 z.1) (h2 : B64 z.2.1) (h3 : B64 z.2.2) : R3 (l ++ [z]) := fun k hk => by
  rw [List.length_append, List.length_singleton] at hk
  by_cases hkl : k < l.length
  · have e : g3 (l ++ [z]) k = g3 l k := by simp [g3, List.getElem?_append, hkl]
    rw [e]; exact h k hkl
  · obtain rfl : k = l.length := by omega
    have e : g3 (l ++ [z]) l.length = z := by simp [g3]
    rw [e]; exact ⟨h1, h2, h3⟩
theorem cell_far2 {w : World} {a b k : Nat} {x y v : Value} (h : a ≠ b) (hc : w.cell? ⟨a, k, none⟩ = some v) : ((w.setCell ⟨b, 0, none⟩ x).setCell ⟨b, 1, none⟩ y).cell? ⟨a, k, none⟩ = some v := by
  have e1 := Below.heap_setCell (w.setCell ⟨b, 0, none⟩ x) ⟨b, 1, none⟩ y a h
  have e2 := Below.heap_setCell w ⟨b, 0, none⟩ x a h
  rw [← hc]
  simp only [World.cell?, e1, e2]
theorem bx_close {w W : World} {g b n : Nat} {a0 a1 v : Value} {xs : List Value} {cs : Array Value} (x y : Value) (hs : SRC W g) (hu : Up g w.heap.size w W) (hB : BK W b 93 #[a0, a1]) (hgb : g < b) (hwb : w.heap.size < b)
    (ho : W.ownsRow (w.heap.size + 1) 95 3 v n xs) (hne : v.ownBlock ≠ some b) (hP : BK W w.heap.size 2 cs) :
    SRC ((W.setCell ⟨b, 0, none⟩ x).setCell ⟨b, 1, none⟩ y) g ∧ Up g w.heap.size w ((W.setCell ⟨b, 0, none⟩ x).setCell ⟨b, 1, none⟩ y) ∧ BK ((W.setCell ⟨b, 0, none⟩ x).setCell ⟨b, 1, none⟩ y) b 93 #[x, y] ∧ ((W.setCell ⟨b, 0, none⟩ x).setCell ⟨b, 1, none⟩ y).ownsRow (w.heap.size + 1) 95 3 v n xs ∧ BK ((W.setCell ⟨b, 0, none⟩ x).setCell ⟨b, 1, none⟩ y) w.heap.size 2 cs := by
  have hb := ((Below.refl b W).setCell (p := ⟨b, 0, none⟩) (Nat.le_refl _) x).setCell (p := ⟨b, 1, none⟩) (Nat.le_refl _) y
  exact ⟨hs.below hb hgb, hu.trans (Up.of (hb.mono (by omega))), by simpa using (hB.set 0 x).set 1 y, ownsRow_setCell_other (ownsRow_setCell_other ho hne _) hne _, hP.below hb hwb⟩
theorem step_append_z {P : Program} {w : World} {ops : Array Oper} {o : Oper} {a : Act} {K : Act → World → Prop} {Q : Exit → Act → World → Prop} {E : Prop} (hgd : o.guard = none) (s x : Operand) (t : TypeId)
    (ho : o.op = .call { callee := .builtin .append, args := #[s, x], argTypes := #[t, t] })
    (base : Nat) (e : TypeId) (i : TypeInfo) (z : Value) (size bytes : Nat) (ht : P.underlying t = some (.slice e)) (hi : P.info? e = some i) (hz : i.zero = some z)
    (hsize : i.size = size) (hby : i.bytes = bytes) (hzs : z.cells.size = size) (hsz : 0 < size)
    (v : Value) (n : Nat) (xs : List Value) (hs : a.eval s = v) (hown : w.ownsRow base e size v n xs)
    (ad : Addr) (m c : Nat) (news : List Value) (hx : a.eval x = .slice (some ad) m c) (hl : news.length = m * size) (hnews : ∀ j u, news[j]? = some u → w.cell? (ad.add j) = some u) (h1 : ∀ u ∈ news, u.oneCell' = true)
    (h63 : n + m ≤ maxLen) (hbytes : (n + m) * bytes ≤ 140737488355328) (hbase : base ≤ w.heap.size)
    (h : ∀ v' w', w'.ownsRow base e size v' (n + m) (xs ++ news) → w.grownBy w' v.ownBlock → (v'.ownBlock = v.ownBlock ∨ v'.ownBlock = some w.heap.size) → K (a.put o.dst v') w') :
    if Region.wanted o (yielded ops a.tmps) = true then Oper.wp P o a w K Q else E := by
  have hw : Region.wanted o (yielded ops a.tmps) = true := by simp [Region.wanted, hgd]
  rw [if_pos hw]
  obtain ⟨v', w', hr, h2, h3, _, h5⟩ := run_append_own_at (P := P) w base t o.type e i z size bytes ht hi hz hsize hby hzs hsz v n xs hown ad m c news hl hnews h1 h63 hbytes hbase
  unfold Oper.wp execOp
  simp only [ho, resolve, invoke, builtin, Sem.run_bind, Sem.run_pure, Result.andThen_ok, List.map_toArray, List.map_cons, List.map_nil, hs, hx, hr]
  exact h v' w' h2 h3 h5
def pv (k : Nat) : Nat := [2, 3, 5, 7, 11].getD k 2
theorem pv_bd : ∀ k : Fin 5, 2 ≤ pv k.val ∧ pv k.val ≤ 11 := by decide
theorem md_two : ∀ k : Fin 5, ∀ n : Fin 3, 0 < n.val → 1 ≤ md (pv k.val) n.val := by decide +kernel
theorem own_cap {w : World} {base n : Nat} {e : TypeId} {size : Nat} {v : Value} {xs : List Value} (h : w.ownsRow base e size v n xs) : ∃ A cap, v = .slice A n cap ∧ n ≤ cap ∧ cap ≤ 9223372036854775807 := by
  rcases h.2 with ⟨rfl, rfl⟩ | ⟨g, cap, cur, rfl, _, _, hc, hm, _⟩
  · exact ⟨none, 0, rfl, Nat.le_refl _, by omega⟩
  · exact ⟨_, _, rfl, hc, by unfold maxLen at hm; omega⟩
/-- A list of residues that a draw hands back. -/
def ZL (g : Nat) (w : World) (e : Ending) (w' : World) : Prop := ∃ (A : Option Addr) (m c : Nat) (l : List Z3), e = .returned (.slice A m c) ∧ m = l.length ∧ m ≤ 6 ∧ m ≤ c ∧ c ≤ 9223372036854775807 ∧ R3 l ∧ IT w' w'.heap.size A l ∧ (∀ a, A = some a → w.heap.size ≤ a.block) ∧ SRC w' g ∧ Up g w.heap.size w w'
set_option maxRecDepth 20000 in
set_option maxHeartbeats 2000000 in
theorem s_l31Draw (g : Nat) (w : World) (hs : SRC w g) : Calls Try.prog 73 #[.pointer (some ⟨g, 0, none⟩)] w (ZL g w) := by
  have hgw := hs.lt
  obtain ⟨i0, hi, hz0, hz1, hz2⟩ := info_parts infoRes
  have B0 := BK.new w 2 #[.int .i64 2, .int .i64 3, .int .i64 5, .int .i64 7, .int .i64 11]
  have hb0 := (Below.refl w.heap.size w).alloc (Nat.le_refl _) (.cells #[.int .i64 2, .int .i64 3, .int .i64 5, .int .i64 7, .int .i64 11] 2)
  have hza : (w.alloc (.cells #[.int .i64 2, .int .i64 3, .int .i64 5, .int .i64 7, .int .i64 11] 2)).heap.size = w.heap.size + 1 := World.size_alloc _ _
  have hlit := World.ownsRow_lit (base := w.heap.size + 1) (e := 95) (size := 3) (w.alloc (.cells #[.int .i64 2, .int .i64 3, .int .i64 5, .int .i64 7, .int .i64 11] 2)) #[] 0 (by omega) (by simp [maxLen]) rfl
  rw [hza] at hlit
  have B1 := B0.alloc (.cells #[] 95)
  have hb1 := hb0.alloc (by omega) (.cells #[] 95)
  have hs1 := hs.call hb1
  have hzb : w.heap.size + 1 ≤ ((w.alloc (.cells #[.int .i64 2, .int .i64 3, .int .i64 5, .int .i64 7, .int .i64 11] 2)).alloc (.cells #[] 95)).heap.size := by simp
  go_enter Try.func73, Try.ntmps73
  go_wp2_with (fail)
  generalize (w.alloc (.cells #[.int .i64 2, .int .i64 3, .int .i64 5, .int .i64 7, .int .i64 11] 2)).alloc (.cells #[] 95) = w1 at *
  go_loopw [4, 5] (fun u4 u5 wr => ∃ (k : Nat) (l : List Z3), k ≤ 5 ∧ u5 = .int .i64 k ∧ l.length ≤ k ∧ wr.ownsRow (w.heap.size + 1) 95 3 u4 l.length (zcells l) ∧ Hid (R3 l) ∧ BK wr w.heap.size 2 #[.int .i64 2, .int .i64 3, .int .i64 5, .int .i64 7, .int .i64 11] ∧ SRC wr g ∧ Up g w.heap.size w wr ∧ w.heap.size + 1 ≤ wr.heap.size) (fun _ u5 _ => 5 - (intOf u5).toNat)
  case atStart => exact ⟨0, [], Nat.zero_le _, rfl, Nat.le_refl _, hlit, (fun k hk => by simp at hk), B1, hs1, Up.of hb1, hzb⟩
  case round =>
    clear hlit B0 B1 hb0 hb1 hs1 hza hzb
    obtain ⟨ws, rfl⟩ : ∃ ws : World, ws = wr := ⟨_, rfl⟩
    obtain ⟨k, l, hk, rfl, hlk, hown, HR3, B2, hs2, u2, hz2'⟩ := hrel
    obtain ⟨A3, c3, rfl, _⟩ := own_slice' hown
    by_cases hlt : k < 5
    · skip
      go_wp2_with (fail)
      refine (s_nextI g 2 (by omega) _ hs2).mono ?_
      rintro e w3 ⟨k3, rfl, hk3, hsw3, huw3⟩
      have uw3 := u2.call huw3
      have B3 := bk_up B2 huw3 (by omega) (by omega)
      have o3 := up_own (B := 0) hown huw3 (by omega)
      have hz3 := huw3.size
      clear hown B2 hs2 u2 huw3
      by_cases hk0 : k3 = 0
      · have hz : ((k3 : Int) == 0) = true := by rw [beq_iff_eq]; omega
        have hc := B3.cell k
        have hpv : w3.cell? ⟨w.heap.size, k, none⟩ = some (.int .i64 ((pv k : Nat) : Int)) := by
          have h5 : k = 0 ∨ k = 1 ∨ k = 2 ∨ k = 3 ∨ k = 4 := by omega
          rcases h5 with rfl | rfl | rfl | rfl | rfl <;> exact hc.trans rfl
        have hpb := pv_bd ⟨k, hlt⟩
        have hpm := fun n : Fin 3 => md_two ⟨k, hlt⟩ n
        have hpb : 2 ≤ pv k ∧ pv k ≤ 11 := hpb
        have hpm : ∀ n : Fin 3, 0 < n.val → 1 ≤ md (pv k) n.val := hpm
        generalize pv k = q at *
        clear hk0 hc
        have hS0 : w3.drew.cell? ⟨w.heap.size, k, none⟩ = some (.int .i64 (q : Int)) := hpv
        clear hpv
        go_wp2_with (fail)
        have hS0a := fun o => (((Below.refl w3.heap.size w3).alloc (Nat.le_refl _) o).cell (p := ⟨w.heap.size, k, none⟩) (by show w.heap.size < _; omega)).trans hS0
        have hbx := (Below.refl w3.heap.size w3).alloc (Nat.le_refl _) (.cells #[.int .i64 0, .int .i64 0] 93)
        have hsx := hsw3.call hbx
        have ux := uw3.thenB hbx
        have hzx : (w3.alloc (.cells #[.int .i64 0, .int .i64 0] 93)).heap.size = w3.heap.size + 1 := World.size_alloc _ _
        go_region_held3 (fun W => W.cell? ⟨w.heap.size, k, none⟩ = some (.int .i64 (q : Int))) ((first | exact hS1a _ | exact hS1 | exact hS0a _ | exact hS0 | exact cell_far2 (by omega) (hS1a _) | exact cell_far2 (by omega) hS1 | go_keep))
          (first
            | (go_at_call 61; refine (s_nextI g 2 (by omega) w3.drew hsw3).mono ?_; rintro e w4 ⟨k4, rfl, hk4, hs4, hu4⟩; have hu4 : Up g w3.heap.size w3 w4 := ⟨hu4.os, hu4.tape, hu4.output, hu4.size, hu4.block⟩; have hS1 : w4.cell? ⟨w.heap.size, k, none⟩ = some (.int .i64 (q : Int)) := (hu4.cell (p := ⟨w.heap.size, k, none⟩) (by show w.heap.size < _; omega) (by show w.heap.size ≠ _; omega)).trans hS0; have hS1a := fun o => (((Below.refl w4.heap.size w4).alloc (Nat.le_refl _) o).cell (p := ⟨w.heap.size, k, none⟩) (by show w.heap.size < _; have := hu4.size; omega)).trans hS1)
            | (go_at_call 61; refine (s_nextI g 2 (by omega) (w3.alloc (.cells #[.int .i64 0, .int .i64 0] 93)).drew hsx).mono ?_; rintro e w4 ⟨k4, rfl, hk4, hs4, hu4⟩; have hu4 : Up g (w3.alloc (.cells #[.int .i64 0, .int .i64 0] 93)).heap.size (w3.alloc (.cells #[.int .i64 0, .int .i64 0] 93)) w4 := ⟨hu4.os, hu4.tape, hu4.output, hu4.size, hu4.block⟩; have hS1 : w4.cell? ⟨w.heap.size, k, none⟩ = some (.int .i64 (q : Int)) := (hu4.cell (p := ⟨w.heap.size, k, none⟩) (by show w.heap.size < _; omega) (by show w.heap.size ≠ _; omega)).trans (hS0a _); have hbk := bk_up (BK.new w3 93 #[.int .i64 0, .int .i64 0]) hu4 (by omega) (by omega); obtain ⟨f0, f1, f2, f3⟩ := hbk.two; have hne1 : w.heap.size ≠ w3.heap.size := by omega))
        all_goals
          (have hw : IntKind.i64.wrap (1 + (k4 : Int)) = ((k4 + 1 : Nat) : Int) := by rw [IntWalk.i64_in _ (by omega)]; omega
           first
             | (obtain ⟨hsW, uW, bW, oW, pW⟩ := bx_close (w := w) (.int .i64 (q : Int)) (.int .i64 ((k4 + 1 : Nat) : Int)) hs4 (ux.call hu4) hbk (by omega) (by omega) (up_own (B := 0) (World.ownsRow.alloc o3 _) hu4 (by omega)) (fun hk => by have := (o3.lt _ hk).2; omega) (bk_up (B3.alloc _) hu4 (by omega) (by omega))
                have hWb : w.heap.size < w3.heap.size := by omega
                have hbo : (Value.slice A3 l.length c3).ownBlock ≠ some w3.heap.size := fun hk => by have := (o3.lt _ hk).2; omega
                rw [hw]
                clear hbk f0 f1 f2 f3 hne1 hS1 hs4 hu4 hS0 hS0a hbx hsx ux hzx B3 o3 hsw3 uw3 hz3
                generalize ((w4.setCell ⟨w3.heap.size, 0, none⟩ (.int .i64 (q : Int))).setCell ⟨w3.heap.size, 1, none⟩ (.int .i64 ((k4 + 1 : Nat) : Int))) = W at *
                generalize w3.heap.size = b at *)
             | (have o4 := up_own (B := 0) o3 hu4 (by omega)
                have hz4 := hu4.size
                have hb4 := (Below.refl w4.heap.size w4).alloc (Nat.le_refl _) (.cells #[.int .i64 (q : Int), .int .i64 ((k4 + 1 : Nat) : Int)] 93)
                have hsW := hs4.call hb4
                have uW := (uw3.call hu4).thenB hb4
                have bW := BK.new w4 93 #[.int .i64 (q : Int), .int .i64 ((k4 + 1 : Nat) : Int)]
                have oW := World.ownsRow.alloc o4 (.cells #[.int .i64 (q : Int), .int .i64 ((k4 + 1 : Nat) : Int)] 93)
                have pW := (bk_up B3 hu4 (by omega) (by omega)).alloc (.cells #[.int .i64 (q : Int), .int .i64 ((k4 + 1 : Nat) : Int)] 93)
                have hWb : w.heap.size < w4.heap.size := by omega
                have hbo : (Value.slice A3 l.length c3).ownBlock ≠ some w4.heap.size := fun hk => by have := (o4.lt _ hk).2; omega
                rw [hw]
                clear hb4 o4 hz4 hS1 hS1a hs4 hu4 hS0 hS0a hbx hsx ux hzx B3 o3 hsw3 uw3 hz3
                generalize w4.alloc (.cells #[.int .i64 (q : Int), .int .i64 ((k4 + 1 : Nat) : Int)] 93) = W at *
                generalize w4.heap.size = b at *))
        all_goals
          (have hmo := fun W => s_l02Modulus q (k4 + 1) W (by omega) (by omega) (by omega)
           have hmd := md_le q (k4 + 1)
           have hm1 : 1 ≤ md q (k4 + 1) := hpm ⟨k4 + 1, by omega⟩ (Nat.succ_pos _)
           have hk4' : k4 + 1 ≤ 2 := by omega
           clear hw
           generalize k4 + 1 = n4 at *
           generalize md q n4 = m at *
           obtain ⟨d0, d1, _, _⟩ := bW.two
           have hbl := bW.lt
           clear hpm
           go_wp2_with (fail)
           go_region_held3 (fun W' => W'.cell? ⟨b, 0, none⟩ = some (.int .i64 (q : Int)) ∧ W'.cell? ⟨b, 1, none⟩ = some (.int .i64 (n4 : Int))) ((first | exact ⟨d07, d17⟩ | exact ⟨e0a _, e1a _⟩ | exact ⟨e0, e1⟩ | exact ⟨d0, d1⟩))
             (first
               | (go_at_call 84; refine (hmo _).mono ?_; rintro e w5 ⟨rfl, q1, rfl⟩)
               | (go_at_call 61; refine (s_nextI g m (by omega) (W.drewN (1 + q1)) (hsW.drewN _)).mono ?_; rintro e w6 ⟨k6, rfl, hk6, hs6, hu6⟩; have hu6 : Up g W.heap.size W w6 := ⟨hu6.os, hu6.tape, hu6.output, hu6.size, hu6.block⟩; have bW6 := bk_up bW hu6 (by omega) (by omega); have oW6 := up_own (B := 0) oW hu6 (by omega); have hz6 := hu6.size; obtain ⟨e0, e1, _, _⟩ := bW6.two; have e0a := fun o => ((bW6.alloc o).two).1; have e1a := fun o => ((bW6.alloc o).two).2.1)
               | ((refine step_append_z (by rfl) (.tmp 27) (.tmp 37) 44 (by rfl) (w.heap.size + 1) 95 i0 (.agg #[.int .i64 0, .int .i64 0, .int .i64 0]) 3 24 Try.underlying44 hi hz0 hz1 hz2 rfl (by omega) (.slice A3 l.length c3) l.length (zcells l) (by rfl) (World.ownsRow.alloc oW6 _) ⟨w6.heap.size, 0, none⟩ 1 1 [.int .i64 (q : Int), .int .i64 (n4 : Int), .int .i64 (k6 : Int)] (by rfl) (by rfl) (fun j u hj => three_src w6 _ _ _ _ _ rfl j u hj) (by intro u hu; simp at hu; rcases hu with rfl | rfl | rfl <;> rfl) (by simp only [maxLen]; omega) (by omega) (by simp; omega) ?_; intro v7 w7 hown7 hg7 hat7; have b7 : BK w7 b 93 #[.int .i64 (q : Int), .int .i64 (n4 : Int)] := (hg7.block b (by simp; omega) (fun e => hbo e.symm)).trans (bW6.alloc _); have d07 := b7.two.1; have d17 := b7.two.2.1))
               | fail)
           obtain ⟨t1, t2, t3⟩ := it_more (w := w) (ws := w6) (base := w.heap.size + 1) (z := ((q : Int), (n4 : Int), (k6 : Int))) (by omega) (by omega) (by omega) oW6 hs6 (uW.call hu6) hown7 hg7
           have p7 : BK w7 w.heap.size 2 #[.int .i64 2, .int .i64 3, .int .i64 5, .int .i64 7, .int .i64 11] := (hg7.block w.heap.size (by simp; omega) (fun e => by have := (oW6.lt _ e.symm).1; omega)).trans ((bk_up pW hu6 (by omega) (by omega)).alloc _)
           have hz7 := t3.size
           have hz77 := hg7.size
           have R7 := R3_snoc (z := ((q : Int), (n4 : Int), (k6 : Int))) HR3 (by constructor <;> (dsimp only; omega)) (by constructor <;> (dsimp only; omega)) (by constructor <;> (dsimp only; omega))
           go_wp2_with (fail)
           go_roundw
           case rel => exact ⟨k + 1, l ++ [((q : Int), (n4 : Int), (k6 : Int))], by omega, by go_num, by rw [List.length_append, List.length_singleton]; omega, by rw [List.length_append]; exact t1, R7, p7, t2, t3, by simp at hz77; omega⟩
           case measure => simp [intOf]; omega)
      · have hz : ((k3 : Int) == 0) = false := by rw [beq_eq_false_iff_ne]; omega
        clear hk0
        go_wp2_with (fail)
        go_roundw
        case rel => exact ⟨k + 1, l, by omega, by go_num, by omega, o3, HR3, B3, hsw3, uw3, by omega⟩
        case measure => simp [intOf]; omega
    · obtain rfl : k = 5 := by omega
      go_wp2_with (fail)
      refine (s_nextI g 20 (by omega) _ hs2).mono ?_
      rintro e w3 ⟨k3, rfl, hk3, hsw3, huw3⟩
      have uw3 := u2.call huw3
      have o3 := up_own (B := 0) hown huw3 (by omega)
      have hz3 := huw3.size
      clear hown B2 hs2 u2 huw3
      by_cases hk0 : k3 = 0
      · have hz : ((k3 : Int) == 0) = true := by rw [beq_iff_eq]; omega
        clear hk0
        go_wp2_with (go_at_call 135; refine (s_l02Draw g _ hsw3).mono ?_; rintro e w4 ⟨p, n, rfl, hpn, hs4, hu4⟩)
        have o4 := up_own (B := 0) o3 hu4 (by omega)
        have hz4 := hu4.size
        have hb4 := (Below.refl w4.heap.size w4).alloc (Nat.le_refl _) (.cells #[.int .i64 p, .int .i64 n] 93)
        have hsW := hs4.call hb4
        have uW := (uw3.call hu4).thenB hb4
        have bW := BK.new w4 93 #[.int .i64 p, .int .i64 n]
        have oW := World.ownsRow.alloc o4 (.cells #[.int .i64 p, .int .i64 n] 93)
        have hgb : g < w4.heap.size := by omega
        have hbo : (Value.slice A3 l.length c3).ownBlock ≠ some w4.heap.size := fun hk => by have := (o4.lt _ hk).2; omega
        have hzW : w.heap.size + 1 ≤ (w4.alloc (.cells #[.int .i64 p, .int .i64 n] 93)).heap.size := by simp; omega
        clear hb4 o4 hz4 hs4 hu4 o3 hsw3 uw3 hz3
        generalize w4.alloc (.cells #[.int .i64 p, .int .i64 n] 93) = W at *
        generalize w4.heap.size = b at *
        obtain ⟨d0, d1, _, _⟩ := bW.two
        have hbl := bW.lt
        go_region_held3 (fun W' => W'.cell? ⟨b, 0, none⟩ = some (.int .i64 p) ∧ W'.cell? ⟨b, 1, none⟩ = some (.int .i64 n)) ((first | exact ⟨d07, d17⟩ | exact ⟨e0a _, e1a _⟩ | exact ⟨e0, e1⟩ | exact ⟨d0, d1⟩))
          (first
            | (go_at_call 136; refine (s_l02DrawResidue g p n W.drew (by omega) (hsW.drewN 1)).mono ?_; rintro e w6 ⟨k6, rfl, hk6, hs6, hu6⟩; have hu6 : Up g W.heap.size W w6 := ⟨hu6.os, hu6.tape, hu6.output, hu6.size, hu6.block⟩; have bW6 := bk_up bW hu6 (by omega) (by omega); have oW6 := up_own (B := 0) oW hu6 (by omega); have hz6 := hu6.size; obtain ⟨e0, e1, _, _⟩ := bW6.two; have e0a := fun o => ((bW6.alloc o).two).1; have e1a := fun o => ((bW6.alloc o).two).2.1)
            | ((refine step_append_z (by rfl) (.tmp 45) (.tmp 51) 44 (by rfl) (w.heap.size + 1) 95 i0 (.agg #[.int .i64 0, .int .i64 0, .int .i64 0]) 3 24 Try.underlying44 hi hz0 hz1 hz2 rfl (by omega) (.slice A3 l.length c3) l.length (zcells l) (by rfl) (World.ownsRow.alloc oW6 _) ⟨w6.heap.size, 0, none⟩ 1 1 [.int .i64 p, .int .i64 n, .int .i64 k6] (by rfl) (by rfl) (fun j u hj => three_src w6 _ _ _ _ _ rfl j u hj) (by intro u hu; simp at hu; rcases hu with rfl | rfl | rfl <;> rfl) (by simp only [maxLen]; omega) (by omega) (by simp; omega) ?_; intro v7 w7 hown7 hg7 hat7; have b7 : BK w7 b 93 #[.int .i64 p, .int .i64 n] := (hg7.block b (by simp; omega) (fun e => hbo e.symm)).trans (bW6.alloc _); have d07 := b7.two.1; have d17 := b7.two.2.1))
            | fail)
        obtain ⟨A7, c7, rfl, hc7, hcm7⟩ := own_cap hown7
        obtain ⟨t1, t2, t3⟩ := it_more (w := w) (ws := w6) (base := w.heap.size + 1) (z := (p, n, k6)) (by omega) (by omega) (by omega) oW6 hs6 (uW.call hu6) hown7 hg7
        have R7 := R3_snoc (z := (p, n, k6)) HR3 (by constructor <;> (dsimp only; omega)) (by constructor <;> (dsimp only; omega)) (by constructor <;> (dsimp only; omega))
        go_wp2_with (fail)
        go_ret
        exact ⟨A7, l.length + 1, c7, l ++ [(p, n, k6)], rfl, by simp, by omega, hc7, hcm7, R7, own_it t1 (by simp), (fun a ha => by subst ha; have := (t1.lt _ rfl).1; omega), t2, t3⟩
      · have hz : ((k3 : Int) == 0) = false := by rw [beq_eq_false_iff_ne]; omega
        clear hk0
        by_cases hk1 : k3 = 1
        · have hq1 : ((k3 : Int) == 1) = true := by rw [beq_iff_eq]; omega
          have hpk := fun W h => s_pick3 g 1 4 5 W h
          clear hk1
          go_wp2_with (fail)
          refine (hpk _ hsw3).mono ?_
          rintro e w4 ⟨r, rfl, hr, hs4, hu4⟩
          have hr : 1 ≤ r ∧ r ≤ 5 := by simp at hr; omega
          have u4 := uw3.call hu4
          have o4 := up_own (B := 0) o3 hu4 (by omega)
          have hz4 := hu4.size
          clear hsw3 uw3 hu4 o3 hpk
          go_wp2_with (at_builtin; refine wpList_append_src rfl (.tmp 55) (.tmp 61) 44 rfl (w.heap.size + 1) 95 i0 (.agg #[.int .i64 0, .int .i64 0, .int .i64 0]) 3 24 Try.underlying44 hi hz0 hz1 hz2 rfl (by omega) (.slice A3 l.length c3) l.length (zcells l) rfl (World.ownsRow.alloc o4 _) (some ⟨w4.heap.size, 0, none⟩) 1 1 [.int .i64 97, .int .i64 r, .int .i64 96] rfl rfl (three_src w4 _ _ _ _) (by intro h; cases h) (by intro u hu; simp at hu; rcases hu with rfl | rfl | rfl <;> rfl) (by simp only [maxLen]; omega) (by omega) (by simp; omega) ?_; intro v7 w7 hown7 hg7 hat7)
          obtain ⟨A7, c7, rfl, hc7, hcm7⟩ := own_cap hown7
          obtain ⟨t1, t2, t3⟩ := it_more (w := w) (ws := w4) (base := w.heap.size + 1) (z := (97, r, 96)) (by omega) (by omega) (by omega) o4 hs4 u4 hown7 hg7
          have R7 := R3_snoc (z := (97, r, 96)) HR3 (by constructor <;> (dsimp only; omega)) (by constructor <;> (dsimp only; omega)) (by constructor <;> (dsimp only; omega))
          go_wp2_with (fail)
          go_ret
          exact ⟨A7, l.length + 1, c7, l ++ [(97, r, 96)], rfl, by simp, by omega, hc7, hcm7, R7, own_it t1 (by simp), (fun a ha => by subst ha; have := (t1.lt _ rfl).1; omega), t2, t3⟩
        · have hq1 : ((k3 : Int) == 1) = false := by rw [beq_eq_false_iff_ne]; omega
          clear hk1
          obtain ⟨A7, c7, e7, hc7, hcm7⟩ := own_cap o3
          injection e7 with e7 _ e8
          subst e7 e8
          go_wp2_with (fail)
          go_ret
          exact ⟨A3, l.length, c3, l, rfl, rfl, by omega, hc7, hcm7, HR3, own_it o3 rfl, (fun a ha => by subst ha; have := (o3.lt _ rfl).1; omega), hsw3, uw3⟩
end Go.Proofs.Ythjoegoeaiemdaa
