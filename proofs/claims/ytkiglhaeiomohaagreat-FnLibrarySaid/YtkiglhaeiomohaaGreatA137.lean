/- Several parts of the proof in one text; each part says what it shows. Nothing is assumed. -/
import Derived.Test.YtkiglhaeiomohaaGreatA133
import Derived.Test.YtkiglhaeiomohaaGreatA88
/- All conjugates of a group; is one group part of another: the program's side. -/
namespace Go.Proofs.YtkiglhaeiomohaaGreat
set_option linter.unusedVariables false
set_option linter.unusedSimpArgs false
open Go.RowKit

theorem infoGrp : (Tryz.prog.info? 41).map (fun i => (i.zero, i.size, i.bytes)) = some (some (.agg #[.int .i64 0, .slice none 0 0]), 2, 32) := by kernel_rfl
/-- The cells of groups of n points. -/
def gcells (n : Nat) (vs : List Value) : List Value := vs.flatMap fun v => [.int .i64 (n : Int), v]
theorem gcells_len (n : Nat) : ∀ vs : List Value, (gcells n vs).length = vs.length * 2
  | [] => rfl
  | v :: vs => by
    have h := gcells_len n vs
    simp only [gcells, List.flatMap_cons, List.length_append, List.length_cons, List.length_nil] at h ⊢
    omega
theorem gcells_snoc (n : Nat) (vs : List Value) (v : Value) : gcells n (vs ++ [v]) = gcells n vs ++ [.int .i64 (n : Int), v] := by simp [gcells]
theorem gcells_at (n : Nat) : ∀ (vs : List Value) (k : Nat), k < vs.length → (gcells n vs)[k * 2]? = some (.int .i64 (n : Int)) ∧ (gcells n vs)[k * 2 + 1]? = some (gv vs k)
  | [], k, h => by simp at h
  | v :: vs, 0, _ => by simp [gcells, gv]
  | v :: vs, k + 1, h => by
    have h1 := gcells_at n vs k (by simpa using h)
    have e1 : (k + 1) * 2 = k * 2 + 2 := by omega
    have e2 : (k + 1) * 2 + 1 = k * 2 + 1 + 2 := by omega
    rw [e2, e1]
    simpa [gcells, gv] using h1
theorem row_moreG {base N : Nat} {wr w1 w4 : World} {vs xs : List Value} {ms : List (List Int)} {u5 v1 : Value} {b : List Int} {o : Obj}
    (hg4 : (w1.alloc o).grownBy w4 u5.ownBlock) (ho : wr.ownsRow base 41 2 u5 N xs) (hrows : RowsO wr base vs ms) (hbase : base ≤ wr.heap.size)
    (ho1 : w1.ownsRow wr.heap.size 2 1 v1 b.length (ints b)) (hb1 : Below wr.heap.size wr w1) : RowsO w4 base (vs ++ [v1]) (ms ++ [b]) := by
  have hsn := (hrows.below hb1).snoc (own_mono ho1 hbase) (fresh_ne hrows (fun g hg => (ho1.lt g hg).1))
  have hsn2 := hsn.kept (World.grownBy_alloc _ o none) (fun i _ => by cases (gv (vs ++ [v1]) i).ownBlock <;> simp)
  have hou := World.ownsRow.alloc (own_below ho hb1) o
  exact hsn2.kept hg4 (fun i hi => own_ne (hsn2.2.1 i hi) hou (by decide))
def cjA (n : Nat) (l : List Int) (k : Nat) : List (List Int) := (List.range k).map fun r => rkC (cjM n (wrL n r) l)
theorem cjA_len (n : Nat) (l : List Int) (k : Nat) : (cjA n l k).length = k := by simp [cjA]
theorem cjA_succ (n : Nat) (l : List Int) (k : Nat) : cjA n l (k + 1) = cjA n l k ++ [rkC (cjM n (wrL n k) l)] := by simp [cjA, List.range_succ]
theorem cells_two (w : World) (x y : Value) (t : TypeId) : ∀ j u, [x, y][j]? = some u → (w.alloc (.cells #[x, y] t)).cell? ((⟨w.heap.size, 0, none⟩ : Addr).add j) = some u := two_cells w x y t
set_option maxRecDepth 100000 in
set_option maxHeartbeats 4000000 in
theorem i_conjugatesOf (n : Nat) (A : Option Addr) (L c : Nat) (l : List Int) (w : World) (hn : 1 ≤ n) (hn6 : n ≤ 6) (hL : L = l.length) (h0 : 0 < L) (hl : L ≤ 1000) (hk : InK n l) (hs : IS w w.heap.size A l) :
    Calls Tryz.prog 40 #[.agg #[.int .i64 n, .slice A L c]] w (fun e w' => ∃ A' c' vs, e = .returned (.slice A' (fact n) c') ∧ w'.ownsRow w.heap.size 41 2 (.slice A' (fact n) c') (fact n) (gcells n vs) ∧ RowsO w' w.heap.size vs (cjA n l (fact n)) ∧ Below w.heap.size w w') := by
  have hF1 := fact_le hn6
  have hfa := fun W => i_factN n W hn6
  have hwith := fun r h W => i_withRank n r W hn hn6 h
  have hcon := fun r (h : r < fact n) Aa ca W h1 h2 => i_conjugateGroup n A Aa L c ca l (wrL n r) W hn hn6 hL h0 hl hk (wrL_in h) h1 h2
  have hwl := fun r (h : r < fact n) => (wrL_in h).1
  generalize fact n = F at *
  obtain ⟨hF1, hF2⟩ := hF1
  obtain ⟨i1, hi1, hy0, hy1, hy2⟩ := info_parts infoGrp
  have HWL := Lib.hid hwl
  have B0 := BK.new w 41 #[.int .i64 (n : Int), .slice A L c]
  have hb0 := (Below.refl w.heap.size w).alloc (Nat.le_refl _) (.cells #[.int .i64 (n : Int), .slice A L c] 41)
  have hz0 : (w.alloc (.cells #[.int .i64 (n : Int), .slice A L c] 41)).heap.size = w.heap.size + 1 := by simp
  have hs0 := hs.call hb0
  obtain ⟨f0, f1, _, _⟩ := B0.two
  clear hwl hs hL hk
  go_enter Tryz.func40, Tryz.ntmps40
  go_wp2_with (go_at_call 57; refine (hfa _).mono ?_; rintro e w4 ⟨rfl, nq, rfl⟩)
  clear f0 f1
  generalize w.alloc (.cells #[.int .i64 (n : Int), .slice A L c] 41) = w0 at *
  go_loopw [3, 8] (fun u3 u8 wr => ∃ (k : Nat) (vs : List Value), k ≤ F ∧ u8 = .int .i64 k ∧ wr.ownsRow w0.heap.size 41 2 u3 k (gcells n vs) ∧ RowsO wr w0.heap.size vs (cjA n l k) ∧ Below w0.heap.size w0 wr) (fun _ u8 _ => F - (intOf u8).toNat)
  case atStart => exact ⟨0, [], Nat.zero_le _, rfl, World.ownsRow_nil _ _ _ _, ⟨rfl, fun i hi => by simp at hi, fun i j _ hj => by simp at hj⟩, below_drewN (Below.refl _ _) _⟩
  case round =>
    obtain ⟨ws, rfl⟩ : ∃ ws : World, ws = wr := ⟨_, rfl⟩
    obtain ⟨k, vs, hk, rfl, hown, hrows, hb⟩ := hrel
    obtain ⟨A3, c3, rfl, _⟩ := own_slice' hown
    have hsz := hb.size
    have hbx := B0.below hb (by omega)
    obtain ⟨f0, f1, _, _⟩ := hbx.two
    by_cases hlt : k < F
    · have hwith := hwith k hlt
      have hcon := hcon k hlt
      have hwlE := HWL.out k hlt
      have hst := cjA_succ n l k
      have hsx := fun W (h : Below ws.heap.size ws W) => (hs0.call hb).call h
      have hBy := fun W (h : Below ws.heap.size ws W) => hbx.below h (by omega)
      generalize wrL n k = a at *
      generalize rkC (cjM n a l) = xr at *
      have HST := Lib.hid hst
      have HWLE := Lib.hid hwlE
      clear hst hwlE
      go_wp2_with (fail)
      go_region_law
        (first
          | ((refine step_append_own (by rfl) (.tmp 11) (.tmp 18) 64 (by rfl) w0.heap.size 41 i1 (.agg #[.int .i64 0, .slice none 0 0]) 2 32 Tryz.underlying64 hi1 hy0 hy1 hy2 rfl (by omega) (.slice A3 k c3) k (gcells n vs) (by rfl) (World.ownsRow.alloc (own_below hown hbw3) _) ⟨w3.heap.size, 0, none⟩ 1 1 [.int .i64 (n : Int), .slice A4 xr.length c4] (by rfl) (by rfl) (cells_two w3 _ _ _) (by intro u hu; simp at hu; rcases hu with rfl | rfl <;> rfl) (by simp only [maxLen]; omega) (by omega) (by have h1 := hbw3.size; simp; omega) ?_; intro v5 w5 hown5 hg5 hat5))
          | (go_simp; go_at_call 58; refine (hwith _).mono ?_; rintro e w2 ⟨v2, rfl, ho2, hb2⟩; obtain ⟨A2, c2, rfl, _⟩ := own_slice' ho2; have hbw2 : Below ws.heap.size ws w2 := ⟨hb2.os, hb2.tape, hb2.output, hb2.size, hb2.block⟩; obtain ⟨k0, k1, _, _⟩ := (hBy _ hbw2).two)
          | (go_simp; go_at_call 83; refine (hcon A2 c2 _ (hsx _ hbw2) (own_isn ho2 HWLE.out.symm)).mono ?_; rintro e w3 ⟨v3, rfl, ho3, hb3⟩; obtain ⟨A4, c4, rfl, _⟩ := own_slice' ho3; have hbw3 : Below ws.heap.size ws w3 := bel_call hbw2 hb3))
      all_goals
        go_wp2_with (fail)
        have hz3 := hbw2.size
        have hr5 := row_moreG (v1 := .slice A4 xr.length c4) (b := xr) hg5 hown hrows hsz (own_mono ho3 hz3) hbw3
        have hz5 := hbw3.size
        go_roundw
        case rel => exact ⟨k + 1, _, by omega, by go_num, by rw [gcells_snoc]; exact hown5, by rw [HST.out]; exact hr5, ((hb.trans (hbw3.mono hsz)).alloc (by omega) _).grown hg5 (by simp; omega) (fun g hg => (hown.lt g hg).1)⟩
        case measure => simp [intOf]; omega
    · obtain rfl : k = F := by omega
      go_wp2_with (fail)
      go_ret
      exact ⟨A3, c3, vs, rfl, own_mono hown (by omega), hrows.mono (by omega), bel_call hb0 hb⟩
end Go.Proofs.YtkiglhaeiomohaaGreat
/- Is one group part of another: the program's side. -/
namespace Go.Proofs.YtkiglhaeiomohaaGreat
set_option linter.unusedVariables false
set_option linter.unusedSimpArgs false
open Go.RowKit

set_option maxRecDepth 10000 in
set_option maxHeartbeats 1000000 in
theorem c_index (A : Option Addr) (L c : Nat) (x : Int) (l : List Int) (w : World) (B : Nat) (hL : L = l.length) (hl : L ≤ 1000) (hs : IS w B A l) :
    Calls Tryz.prog 125 #[.slice A L c, .int .i64 x] w (fun e w' => ∃ k : Int, e = .returned (.int .i64 k) ∧ decide (0 ≤ k) = decide (x ∈ l) ∧ ∃ m, w' = w.drewN m) := by
  have HL := Lib.hid hL
  clear hL
  go_enter Tryz.func125, Tryz.ntmps125
  go_wp2_with (fail)
  go_loopw [8] (fun u wr => ∃ k : Nat, k ≤ L ∧ u = .int .i64 k ∧ Hid (∀ j, j < k → gt l j ≠ x) ∧ ∃ m, wr = w.drewN m) (fun u _ => L - (intOf u).toNat)
  case atStart => exact ⟨0, Nat.zero_le _, rfl, fun j hj => by omega, 0, rfl⟩
  case round =>
    obtain ⟨k, hk, rfl, HI, m, rfl⟩ := hrel
    by_cases hlt : k < L
    · obtain ⟨b, off, rfl, hbb, hcell⟩ := IS.at hs (k := k) (by rw [← HL.out]; exact hlt)
      have h1 := hcell k (by rw [← HL.out]; exact hlt)
      clear hcell
      by_cases heq : gt l k = x
      · have hm : decide (x ∈ l) = true := by
          rw [decide_eq_true_eq, ← heq]
          exact gt_mem (by rw [← HL.out]; exact hlt)
        have HM := Lib.hid hm
        have ht : (x == gt l k) = true := by rw [beq_iff_eq]; exact heq.symm
        clear hm heq
        generalize gt l k = y at *
        go_wp2_with (go_quiet (fail))
        go_ret
        exact ⟨k, rfl, by rw [HM.out]; simp, by first | exact dq1 | exact dq2⟩
      · have hn : ∀ j, j < k + 1 → gt l j ≠ x := fun j hj => by
          by_cases hjk : j = k
          · subst hjk; exact heq
          · exact HI.out j (by omega)
        have HN := Lib.hid hn
        have ht : (x == gt l k) = false := by rw [beq_eq_false_iff_ne]; exact fun h => heq h.symm
        clear hn heq
        generalize gt l k = y at *
        go_wp2_with (go_quiet (fail))
        go_roundw
        case rel => exact ⟨k + 1, by omega, by go_num, HN.out, by first | exact dq1 | exact dq2⟩
        case measure => simp [intOf]; omega
    · obtain rfl : k = L := by omega
      have hm : decide (x ∈ l) = false := by
        rw [decide_eq_false_iff_not]
        intro h
        obtain ⟨j, hj, e⟩ := List.mem_iff_getElem.1 h
        exact HI.out j (by rw [HL.out]; exact hj) (by simp [gt, List.getElem?_eq_getElem hj, e])
      have HM := Lib.hid hm
      clear hm
      go_wp2_with (fail)
      go_ret
      exact ⟨-1, rfl, by rw [HM.out]; simp, by first | exact dq1 | exact dq2⟩
set_option maxHeartbeats 1000000 in
theorem c_hasInt (A : Option Addr) (L c : Nat) (x : Int) (l : List Int) (w : World) (B : Nat) (hL : L = l.length) (hl : L ≤ 1000) (hs : IS w B A l) :
    Calls Tryz.prog 87 #[.slice A L c, .int .i64 x] w (Q (.bool (decide (x ∈ l))) w) := by
  have hc := c_index A L c x l w B hL hl hs
  generalize decide (x ∈ l) = b at *
  clear hL hs
  cases b
  · have hc2 := hc.mono (R' := fun e w' => ∃ k : Int, e = .returned (.int .i64 k) ∧ k < 0 ∧ ∃ m, w' = w.drewN m) (fun e w' ⟨k, h1, h2, h3⟩ => ⟨k, h1, by have := of_decide_eq_false h2; omega, h3⟩)
    clear hc
    go_enter Tryz.func87, Tryz.ntmps87
    go_wp2_with (go_at_call 125; refine hc2.mono ?_; rintro e w1 ⟨k, rfl, hk, m, rfl⟩)
    go_ret
    exact ⟨ret_bool (by first | rfl | (simp; omega)), m, rfl⟩
  · have hc2 := hc.mono (R' := fun e w' => ∃ k : Int, e = .returned (.int .i64 k) ∧ 0 ≤ k ∧ ∃ m, w' = w.drewN m) (fun e w' ⟨k, h1, h2, h3⟩ => ⟨k, h1, of_decide_eq_true h2, h3⟩)
    clear hc
    go_enter Tryz.func87, Tryz.ntmps87
    go_wp2_with (go_at_call 125; refine hc2.mono ?_; rintro e w1 ⟨k, rfl, hk, m, rfl⟩)
    go_ret
    exact ⟨ret_bool (by first | rfl | (simp; omega)), m, rfl⟩
set_option maxHeartbeats 1000000 in
theorem i_part1 (gx : Nat) (A : Option Addr) (L c : Nat) (x : Int) (l : List Int) (w : World) (hL : L = l.length) (hl : L ≤ 1000) (hs : IS w w.heap.size A l) (h1 : w.cell? ⟨gx, 1, none⟩ = some (.slice A L c)) :
    Calls Tryz.prog 86 #[.int .i64 x, .pointer (some ⟨gx, 0, none⟩)] w (Q (.bool (!decide (x ∈ l))) w) := by
  have hc := fun W h => c_hasInt A L c x l W w.heap.size hL hl h
  generalize decide (x ∈ l) = b at *
  clear hL
  cases b
  · go_enter Tryz.func86, Tryz.ntmps86
    go_wp2_with (first | (go_at_call 87; refine (hc _ hs).mono ?_; rintro e w1 ⟨rfl, m, rfl⟩) | go_in)
    go_ret
    exact ⟨rfl, m, rfl⟩
  · go_enter Tryz.func86, Tryz.ntmps86
    go_wp2_with (first | (go_at_call 87; refine (hc _ hs).mono ?_; rintro e w1 ⟨rfl, m, rfl⟩) | go_in)
    go_ret
    exact ⟨rfl, m, rfl⟩
set_option maxRecDepth 10000 in
set_option maxHeartbeats 1000000 in
theorem c_idxPart (gx : Nat) (A' : Option Addr) (L' c' : Nat) (l' : List Int) (A : Option Addr) (L c : Nat) (l : List Int) (w : World) (hL : L = l.length) (hl : L ≤ 1000) (hs : IS w w.heap.size A l) (hL' : L' = l'.length) (hl' : L' ≤ 1000) (hs' : IS w w.heap.size A' l') (h1 : w.cell? ⟨gx, 1, none⟩ = some (.slice A' L' c')) :
    Calls Tryz.prog 124 #[.slice A L c, .func (.func 86) #[] #[.pointer (some ⟨gx, 0, none⟩)]] w (fun e w' => ∃ k : Int, e = .returned (.int .i64 k) ∧ decide (0 ≤ k) = (l.any fun x => !decide (x ∈ l')) ∧ ∃ m, w' = w.drewN m) := by
  have HL := Lib.hid hL
  have hp := fun (m : Nat) (x : Int) => i_part1 gx A' L' c' x l' (w.drewN m) hL' hl' hs' h1
  have HP := Lib.hid hp
  clear hL hL' hp hs'
  go_enter Tryz.func124, Tryz.ntmps124
  go_wp2_with (fail)
  go_loopw [8] (fun u wr => ∃ k : Nat, k ≤ L ∧ u = .int .i64 k ∧ Hid (∀ j, j < k → gt l j ∈ l') ∧ ∃ m, wr = w.drewN m) (fun u _ => L - (intOf u).toNat)
  case atStart => exact ⟨0, Nat.zero_le _, rfl, fun j hj => by omega, 0, rfl⟩
  case round =>
    obtain ⟨k, hk, rfl, HI, m, rfl⟩ := hrel
    by_cases hlt : k < L
    · obtain ⟨b, off, rfl, hbb, hcell⟩ := IS.at hs (k := k) (by rw [← HL.out]; exact hlt)
      have hc1 := hcell k (by rw [← HL.out]; exact hlt)
      clear hcell
      have hpx := fun m => HP.out m (gt l k)
      have hmem : gt l k ∈ l := gt_mem (by rw [← HL.out]; exact hlt)
      by_cases heq : gt l k ∈ l'
      · have hn : ∀ j, j < k + 1 → gt l j ∈ l' := fun j hj => by
          by_cases hjk : j = k
          · subst hjk; exact heq
          · exact HI.out j (by omega)
        have HN := Lib.hid hn
        have hd : decide (gt l k ∈ l') = true := by simpa using heq
        rw [hd] at hpx
        clear hn heq hd hmem
        generalize gt l k = y at *
        go_wp2_with (first | (go_at_call 86; refine (hpx _).mono ?_; rintro e w1 ⟨rfl, m1, rfl⟩) | go_in)
        go_roundw
        case rel => exact ⟨k + 1, by omega, by go_num, HN.out, by first | exact dq1 | exact dq2⟩
        case measure => simp [intOf]; omega
      · have hm : (l.any fun x => !decide (x ∈ l')) = true := by
          rw [List.any_eq_true]
          exact ⟨gt l k, hmem, by simpa using heq⟩
        have HM := Lib.hid hm
        have hd : decide (gt l k ∈ l') = false := by simpa using heq
        rw [hd] at hpx
        clear hm heq hd hmem
        generalize gt l k = y at *
        go_wp2_with (first | (go_at_call 86; refine (hpx _).mono ?_; rintro e w1 ⟨rfl, m1, rfl⟩) | go_in)
        go_ret
        exact ⟨k, rfl, by rw [HM.out]; simp, by first | exact dq1 | exact dq2⟩
    · obtain rfl : k = L := by omega
      have hm : (l.any fun x => !decide (x ∈ l')) = false := by
        rw [List.any_eq_false]
        intro x hx
        obtain ⟨j, hj, e⟩ := List.mem_iff_getElem.1 hx
        have h2 := HI.out j (by rw [HL.out]; exact hj)
        rw [show gt l j = x by simp [gt, List.getElem?_eq_getElem hj, e]] at h2
        simpa using h2
      have HM := Lib.hid hm
      clear hm
      go_wp2_with (fail)
      go_ret
      exact ⟨-1, rfl, by rw [HM.out]; simp, by first | exact dq1 | exact dq2⟩
def partB (l l' : List Int) : Bool := l.all fun x => decide (x ∈ l')
theorem partB_any (l l' : List Int) : (l.any fun x => !decide (x ∈ l')) = !partB l l' := by
  unfold partB
  rw [List.not_all_eq_any_not]
set_option maxHeartbeats 1000000 in
theorem c_contPart (gx : Nat) (A' : Option Addr) (L' c' : Nat) (l' : List Int) (A : Option Addr) (L c : Nat) (l : List Int) (w : World) (hL : L = l.length) (hl : L ≤ 1000) (hs : IS w w.heap.size A l) (hL' : L' = l'.length) (hl' : L' ≤ 1000) (hs' : IS w w.heap.size A' l') (h1 : w.cell? ⟨gx, 1, none⟩ = some (.slice A' L' c')) :
    Calls Tryz.prog 85 #[.slice A L c, .func (.func 86) #[] #[.pointer (some ⟨gx, 0, none⟩)]] w (Q (.bool (!partB l l')) w) := by
  have hc := c_idxPart gx A' L' c' l' A L c l w hL hl hs hL' hl' hs' h1
  rw [partB_any] at hc
  generalize partB l l' = b at *
  clear hL hs hL' hs' h1
  cases b
  · have hc2 := hc.mono (R' := fun e w' => ∃ k : Int, e = .returned (.int .i64 k) ∧ 0 ≤ k ∧ ∃ m, w' = w.drewN m) (fun e w' ⟨k, h1, h2, h3⟩ => ⟨k, h1, of_decide_eq_true h2, h3⟩)
    clear hc
    go_enter Tryz.func85, Tryz.ntmps85
    go_wp2_with (go_at_call 124; refine hc2.mono ?_; rintro e w1 ⟨k, rfl, hk, m, rfl⟩)
    go_ret
    exact ⟨ret_bool (by first | rfl | (simp; omega)), m, rfl⟩
  · have hc2 := hc.mono (R' := fun e w' => ∃ k : Int, e = .returned (.int .i64 k) ∧ k < 0 ∧ ∃ m, w' = w.drewN m) (fun e w' ⟨k, h1, h2, h3⟩ => ⟨k, h1, by have := of_decide_eq_false h2; omega, h3⟩)
    clear hc
    go_enter Tryz.func85, Tryz.ntmps85
    go_wp2_with (go_at_call 124; refine hc2.mono ?_; rintro e w1 ⟨k, rfl, hk, m, rfl⟩)
    go_ret
    exact ⟨ret_bool (by first | rfl | (simp; omega)), m, rfl⟩
set_option maxRecDepth 10000 in
set_option maxHeartbeats 1000000 in
theorem i_isPart (p p' : Int) (A A' : Option Addr) (L c L' c' : Nat) (l l' : List Int) (w : World) (hL : L = l.length) (hl : L ≤ 1000) (hs : IS w w.heap.size A l) (hL' : L' = l'.length) (hl' : L' ≤ 1000) (hs' : IS w w.heap.size A' l') :
    Calls Tryz.prog 43 #[.agg #[.int .i64 p, .slice A L c], .agg #[.int .i64 p', .slice A' L' c']] w (M (.bool (partB l l')) w) := by
  obtain ⟨B1, B2⟩ := two_boxes w 41 41 #[.int .i64 p, .slice A L c] #[.int .i64 p', .slice A' L' c']
  have hb0 := two_alloc w (.cells #[.int .i64 p, .slice A L c] 41) (.cells #[.int .i64 p', .slice A' L' c'] 41)
  have hs0 := hs.call hb0
  have hs0' := hs'.call hb0
  obtain ⟨f0, f1, _, _⟩ := B1.two
  obtain ⟨f2, f3, _, _⟩ := B2.two
  have hc := c_contPart (w.heap.size + 1) A' L' c' l' A L c l _ hL hl hs0 hL' hl' hs0' f3
  generalize partB l l' = b at *
  clear B1 B2 hL hL' hs0 hs0' hs hs'
  cases b
  · go_enter Tryz.func43, Tryz.ntmps43
    go_wp2_with (go_at_call 85; refine hc.mono ?_; rintro e w1 ⟨rfl, m, rfl⟩)
    go_ret
    exact ⟨rfl, below_drewN hb0 _⟩
  · go_enter Tryz.func43, Tryz.ntmps43
    go_wp2_with (go_at_call 85; refine hc.mono ?_; rintro e w1 ⟨rfl, m, rfl⟩)
    go_ret
    exact ⟨rfl, below_drewN hb0 _⟩
end Go.Proofs.YtkiglhaeiomohaaGreat
/- SubgroupNames: the program's closures. -/
namespace Go.Proofs.YtkiglhaeiomohaaGreat
set_option linter.unusedVariables false
set_option linter.unusedSimpArgs false
open Go.RowKit

set_option maxRecDepth 10000 in
set_option maxHeartbeats 1000000 in
theorem i_subC (gx : Nat) (p p' : Int) (A A' : Option Addr) (L c L' c' : Nat) (l l' : List Int) (w : World) (hL : L = l.length) (hl : L ≤ 1000) (hs : IS w w.heap.size A l) (hL' : L' = l'.length) (hl' : L' ≤ 1000) (hs' : IS w w.heap.size A' l') (hgx : gx < w.heap.size) (h0 : w.cell? ⟨gx, 0, none⟩ = some (.int .i64 p')) (h1 : w.cell? ⟨gx, 1, none⟩ = some (.slice A' L' c')) :
    Calls Tryz.prog 42 #[.agg #[.int .i64 p, .slice A L c], .pointer (some ⟨gx, 0, none⟩)] w (M (.bool (partB l l')) w) := by
  have hb0 := (Below.refl w.heap.size w).alloc (Nat.le_refl _) (.cells #[.int .i64 p, .slice A L c] 41)
  obtain ⟨f0, f1, _, _⟩ := (BK.new w 41 #[.int .i64 p, .slice A L c]).two
  have g0 := (hb0.cell (p := ⟨gx, 0, none⟩) hgx).trans h0
  have g1 := (hb0.cell (p := ⟨gx, 1, none⟩) hgx).trans h1
  have hc := i_isPart p p' A A' L c L' c' l l' _ hL hl (hs.call hb0) hL' hl' (hs'.call hb0)
  generalize partB l l' = b at *
  clear hL hL' hs hs' h0 h1
  go_enter Tryz.func42, Tryz.ntmps42
  go_wp2_with (first | (go_at_call 43; refine hc.mono ?_; rintro e w1 ⟨rfl, hb1⟩) | go_in)
  go_ret
  exact ⟨rfl, bel_call hb0 hb1⟩
set_option maxRecDepth 10000 in
set_option maxHeartbeats 2000000 in
theorem c_idxSub (gx n : Nat) (p' : Int) (A' : Option Addr) (L' c' : Nat) (l' : List Int) (A : Option Addr) (N c base : Nat) (vs : List Value) (ll : List (List Int)) (w : World) (hN : N = ll.length) (hl : N ≤ 1000) (ho : w.ownsRow base 41 2 (.slice A N c) N (gcells n vs)) (hr : RowsO w base vs ll) (hll : ∀ k, k < N → (gl ll k).length ≤ 1000) (hL' : L' = l'.length) (hl' : L' ≤ 1000) (hs' : IS w w.heap.size A' l') (hgx : gx < w.heap.size) (h0 : w.cell? ⟨gx, 0, none⟩ = some (.int .i64 p')) (h1 : w.cell? ⟨gx, 1, none⟩ = some (.slice A' L' c')) :
    Calls Tryz.prog 82 #[.slice A N c, .func (.func 42) #[] #[.pointer (some ⟨gx, 0, none⟩)]] w (fun e w' => ∃ k : Int, e = .returned (.int .i64 k) ∧ decide (0 ≤ k) = (ll.any fun x => partB x l') ∧ Below w.heap.size w w') := by
  have HN := Lib.hid hN
  have HLL := Lib.hid hll
  have hvl : vs.length = N := by rw [hr.1]; exact hN.symm
  have HVL := Lib.hid hvl
  have HL' := Lib.hid hL'
  clear hN hll hvl hL'
  go_enter Tryz.func82, Tryz.ntmps82
  go_wp2_with (fail)
  go_loopw [8] (fun u8 wr => ∃ k : Nat, k ≤ N ∧ u8 = .int .i64 k ∧ Hid (∀ j, j < k → partB (gl ll j) l' = false) ∧ Below w.heap.size w wr) (fun u8 _ => N - (intOf u8).toNat)
  case atStart => exact ⟨0, Nat.zero_le _, rfl, fun j hj => by omega, Below.refl _ _⟩
  case round =>
    obtain ⟨ws, rfl⟩ : ∃ ws : World, ws = wr := ⟨_, rfl⟩
    obtain ⟨k, hk, rfl, HI, hb⟩ := hrel
    have hsz := hb.size
    by_cases hlt : k < N
    · have hkv : k < vs.length := by rw [HVL.out]; exact hlt
      obtain ⟨g, rfl, _, hg, hc⟩ := own_src ho (by omega)
      obtain ⟨q1, q2⟩ := gcells_at n vs k hkv
      have e0 := (hb.cell (p := ⟨g, k * 2, none⟩) hg).trans (hc _ _ q1)
      have e1 := (hb.cell (p := ⟨g, k * 2 + 1, none⟩) hg).trans (hc _ _ q2)
      have hrow := hr.2.1 k hkv
      unfold OwnI at hrow
      obtain ⟨Ak, ck, hvk, _⟩ := own_slice' hrow
      rw [hvk] at e1 hrow
      have his := own_isn (own_below hrow hb) rfl
      have hlk := HLL.out k hlt
      have hmem : gl ll k ∈ ll := gl_mem (by rw [← HN.out]; exact hlt)
      have hp := i_subC gx (n : Int) p' Ak A' (gl ll k).length ck L' c' (gl ll k) l' ws rfl hlk his HL'.out hl' (hs'.call hb) (by omega) ((hb.cell (p := ⟨gx, 0, none⟩) hgx).trans h0) ((hb.cell (p := ⟨gx, 1, none⟩) hgx).trans h1)
      clear hc q1 q2 hvk hrow his hkv
      by_cases hneg : partB (gl ll k) l' = true
      · have hany : (ll.any fun x => partB x l') = true := by
          rw [List.any_eq_true]
          exact ⟨gl ll k, hmem, hneg⟩
        have HANY := Lib.hid hany
        rw [hneg] at hp
        clear hany hneg hmem
        generalize (gl ll k).length = K at *
        go_wp2_with (first | (go_at_call 42; refine hp.mono ?_; rintro e w2 ⟨rfl, hb2⟩) | go_in)
        go_ret
        exact ⟨k, rfl, by rw [HANY.out]; simp, hb.trans (hb2.mono hsz)⟩
      · have hneg : partB (gl ll k) l' = false := by rw [Bool.eq_false_iff]; exact hneg
        have HN' : Hid (∀ j, j < k + 1 → partB (gl ll j) l' = false) := fun j hj => by
          by_cases hjk : j = k
          · subst hjk; exact hneg
          · exact HI.out j (by omega)
        rw [hneg] at hp
        clear hneg hmem
        generalize (gl ll k).length = K at *
        go_wp2_with (first | (go_at_call 42; refine hp.mono ?_; rintro e w2 ⟨rfl, hb2⟩) | go_in)
        go_roundw
        case rel => exact ⟨k + 1, by omega, by go_num, HN'.out, hb.trans (hb2.mono hsz)⟩
        case measure => simp [intOf]; omega
    · obtain rfl : k = N := by omega
      have hany : (ll.any fun x => partB x l') = false := by
        rw [List.any_eq_false]
        intro a ha
        obtain ⟨j, hj, rfl⟩ := mem_gl.1 ha
        exact Bool.eq_false_iff.1 (HI.out j (by rw [HN.out]; exact hj))
      have HANY := Lib.hid hany
      clear hany
      go_wp2_with (fail)
      go_ret
      exact ⟨-1, rfl, by rw [HANY.out]; simp, hb⟩
set_option maxRecDepth 10000 in
set_option maxHeartbeats 1000000 in
theorem c_contSub (A : Option Addr) (L c : Nat) (v : Value) (b : Bool) (w : World) (hc : Calls Tryz.prog 82 #[.slice A L c, v] w (fun e w' => ∃ k : Int, e = .returned (.int .i64 k) ∧ decide (0 ≤ k) = b ∧ Below w.heap.size w w')) :
    Calls Tryz.prog 39 #[.slice A L c, v] w (M (.bool b) w) := by
  cases b
  · have hc2 := hc.mono (R' := fun e w' => ∃ k : Int, e = .returned (.int .i64 k) ∧ k < 0 ∧ Below w.heap.size w w') (fun e w' ⟨k, h1, h2, h3⟩ => ⟨k, h1, by have := of_decide_eq_false h2; omega, h3⟩)
    clear hc
    go_enter Tryz.func39, Tryz.ntmps39
    go_wp2_with (go_at_call 82; refine hc2.mono ?_; rintro e w1 ⟨k, rfl, hk, hb1⟩)
    go_ret
    exact ⟨ret_bool (by first | rfl | (simp; omega)), hb1⟩
  · have hc2 := hc.mono (R' := fun e w' => ∃ k : Int, e = .returned (.int .i64 k) ∧ 0 ≤ k ∧ Below w.heap.size w w') (fun e w' ⟨k, h1, h2, h3⟩ => ⟨k, h1, of_decide_eq_true h2, h3⟩)
    clear hc
    go_enter Tryz.func39, Tryz.ntmps39
    go_wp2_with (go_at_call 82; refine hc2.mono ?_; rintro e w1 ⟨k, rfl, hk, hb1⟩)
    go_ret
    exact ⟨ret_bool (by first | rfl | (simp; omega)), hb1⟩
/-- A conjugate of the first group lies in the second. -/
def sbB (n : Nat) (l l' : List Int) : Bool := (cjA n l (fact n)).any fun x => partB x l'
end Go.Proofs.YtkiglhaeiomohaaGreat
