/- Several parts of the proof in one text; each part says what it shows. Nothing is assumed. -/
import Derived.Test.YtglijcdnnaekkaaGreatA271
import Derived.Test.YtglijcdnnaekkaaGreatA101
import Derived.Shelf.Spec.SlicesInsertGrow
/- slices.Insert of one share. -/
namespace Go.Proofs.YtglijcdnnaekkaaGreat
set_option linter.unusedVariables false
set_option linter.unusedSimpArgs false
open Go.RowKit Go.Shelf Go.Lib

theorem infoSh : (Tryz.prog.info? 59).map (fun i => (i.zero, i.size, i.bytes)) = some (some (.agg #[.slice none 0 0, .int .i64 0]), 2, 32) := by kernel_rfl
theorem run_copy_rowK {P : Program} (w : World) (dT sT ty elem : TypeId) (g o dLen dCap : Nat) (a : Addr) (sLen sCap : Nat) (cur : Array Value) (t : TypeId) (cs : List Value) (size : Nat)
    (hu : P.underlying dT = some (.slice elem)) (hs : (P.info? elem).map (·.size) = some size)
    (hg : w.heap[g]? = some (.cells cur t (0, 0))) (hn : cs.length = Nat.min sLen dLen * size)
    (hsrc : ∀ j v, cs[j]? = some v → w.cell? (a.add j) = some v) (hfit : o + cs.length ≤ cur.size) (h1 : ∀ v ∈ cs, v.oneCell' = true) :
    (Builtin.copy_ #[dT, sT] ty #[.slice (some ⟨g, o, none⟩) dLen dCap, .slice (some a) sLen sCap]).run P w =
      .ok (goInt (Nat.min sLen dLen)) (w.setRow g (cur.toList.take o ++ cs ++ cur.toList.drop (o + cs.length)).toArray) := by
  have hl := run_firstCells_some (P := P) w size (Nat.min sLen dLen) a sLen sCap cs hn hsrc
  have hst := run_storeCells_at P g o t cs 0 cur w hg (by simpa using hfit) h1
  cases hq : P.info? elem with
  | none => simp [hq] at hs
  | some i =>
    have hi : i.size = size := by simpa [hq] using hs
    simp only [Nat.add_zero] at hst
    simp [Builtin.copy_, run_underlying hu, Builtin.lenOf, sizeOf, typeInfo, hq, hi, hl, hst]
/-- What one share more at place k makes of the cells. -/
def putC (xs : List Value) (k : Nat) (v : Value) : List Value := xs.take (k * 2) ++ [v, .int .i64 0] ++ xs.drop (k * 2)
theorem putC_len {xs : List Value} {n k : Nat} {v : Value} (hx : xs.length = n * 2) (hk : k ≤ n) : (putC xs k v).length = (n + 1) * 2 := by
  unfold putC
  simp only [List.length_append, List.length_take, List.length_drop, List.length_cons, List.length_nil, hx]
  omega
/-- The cells after the elements from k on have gone up, and after the new one stands. -/
def upC (cur xs : List Value) (n k : Nat) : List Value := cur.take ((k + 1) * 2) ++ xs.drop (k * 2) ++ cur.drop ((k + 1) * 2 + (n - k) * 2)
theorem upC_put {cur xs : List Value} {n k cap : Nat} {v : Value} (hc : cur.length = cap * 2) (hx : cur.take (n * 2) = xs) (hk : k ≤ n) (hn : n + 1 ≤ cap) :
    ((upC cur xs n k).take (k * 2) ++ [v, .int .i64 0] ++ (upC cur xs n k).drop (k * 2 + 2)).take ((n + 1) * 2) = putC xs k v ∧ ((upC cur xs n k).take (k * 2) ++ [v, .int .i64 0] ++ (upC cur xs n k).drop (k * 2 + 2)).length = cap * 2 ∧ (upC cur xs n k).length = cap * 2 := by
  have hxl : xs.length = n * 2 := by rw [← hx, List.length_take]; omega
  have hul : (upC cur xs n k).length = cap * 2 := by
    unfold upC
    simp only [List.length_append, List.length_take, List.length_drop, hxl, hc]
    omega
  have h1 : (upC cur xs n k).take (k * 2) = xs.take (k * 2) := by
    unfold upC
    rw [← hx, List.append_assoc, List.take_append_of_le_length (by rw [List.length_take]; omega), List.take_take, List.take_take]
    congr 1
    omega
  have h2 : (upC cur xs n k).drop (k * 2 + 2) = xs.drop (k * 2) ++ cur.drop ((k + 1) * 2 + (n - k) * 2) := by
    unfold upC
    rw [List.append_assoc, List.drop_append_of_le_length (by rw [List.length_take]; omega), List.drop_eq_nil_of_le (by rw [List.length_take]; omega), List.nil_append]
  refine ⟨?_, ?_, hul⟩
  · rw [h1, h2, ← List.append_assoc, List.take_append_of_le_length (by simp only [List.length_append, List.length_take, List.length_drop, List.length_cons, List.length_nil, hxl]; omega), List.take_of_length_le (by simp only [List.length_append, List.length_take, List.length_drop, List.length_cons, List.length_nil, hxl]; omega)]
    rfl
  · simp only [List.length_append, List.length_take, List.length_drop, List.length_cons, List.length_nil, hul]
    omega
def INS (base : Nat) (A : Option Addr) (n c k : Nat) (xs : List Value) (v : Value) (w : World) (e : Ending) (w' : World) : Prop :=
  ∃ A' c', e = .returned (.slice A' (n + 1) c') ∧ w'.ownsRow base 59 2 (.slice A' (n + 1) c') (n + 1) (putC xs k v) ∧ w.grownBy w' (Value.slice A n c).ownBlock
theorem lit_src (w : World) (v : Value) : ∀ j u, [v, Value.int .i64 0][j]? = some u → (w.alloc (.cells #[v, .int .i64 0] 59)).cell? ((⟨w.heap.size, 0, none⟩ : Addr).add j) = some u := fun j u hj => by
  rw [Go.WideShapes.add_plain, Nat.zero_add, World.cell?_alloc_at (w := w) #[v, .int .i64 0] _ w.heap.size j rfl]
  rcases j with _ | _ | j
  · simpa using hj
  · simpa using hj
  · simp at hj
set_option maxRecDepth 100000 in
set_option maxHeartbeats 4000000 in
theorem c_insEnd (A : Option Addr) (n c base : Nat) (xs : List Value) (v : Value) (w : World) (hn : n ≤ 1000) (hb : base ≤ w.heap.size) (hv : v.oneCell' = true) (ho : w.ownsRow base 59 2 (.slice A n c) n xs) :
    Calls Tryz.prog 149 #[.slice A n c, .int .i64 n, .slice (some ⟨w.heap.size, 0, none⟩) 1 1] (w.alloc (.cells #[v, .int .i64 0] 59)) (INS base A n c n xs v w) := by
  obtain ⟨i0, hi, hz0', hz1', hz2'⟩ := info_parts infoSh
  have hxl : xs.length = n * 2 := ho.1
  have hput : putC xs n v = xs ++ [v, .int .i64 0] := by unfold putC; rw [← hxl, List.take_length, List.drop_length, List.append_nil]
  have ho1 := World.ownsRow.alloc ho (.cells #[v, .int .i64 0] 59)
  have hone : ∀ u ∈ [v, Value.int .i64 0], u.oneCell' = true := fun u hu => by
    simp at hu
    rcases hu with rfl | rfl
    · exact hv
    · rfl
  have hsrc := lit_src w v
  have hz1 : ¬ ((1 : Int) = 0) := by omega
  have hg0 := World.grownBy_alloc w (.cells #[v, .int .i64 0] 59) (Value.slice A n c).ownBlock
  have hsz : w.heap.size ≤ (w.alloc (.cells #[v, .int .i64 0] 59)).heap.size := by simp
  have hnc : n ≤ c := by
    obtain ⟨A', c', he, h⟩ := own_slice' ho
    injection he with _ _ he
    omega
  have hnn : (0 : Int) ≤ (n : Int) := by omega
  clear hxl
  by_cases hcn : c = n
  · subst hcn
    go_enter Tryz.func149, Tryz.ntmps149
    generalize w.alloc (.cells #[v, .int .i64 0] 59) = w1 at *
    go_wp2_with (at_builtin; refine wpList_append_own _ rfl (.tmp 23) (.tmp 24) 47 rfl base 59 i0 (.agg #[.slice none 0 0, .int .i64 0]) 2 32 Tryz.underlying47 hi hz0' hz1' hz2' rfl (by omega) (.slice A c c) c xs rfl ho1 ⟨w.heap.size, 0, none⟩ 1 1 [v, .int .i64 0] rfl rfl hsrc hone (by simp only [maxLen]; omega) (by omega) (by omega) ?_; intro v2 w2 o2 g2 _; obtain ⟨A2, c2, rfl, _⟩ := own_slice' o2)
    go_ret
    exact ⟨A2, c2, rfl, by rw [hput]; exact o2, hg0.trans g2⟩
  · skip
    go_enter Tryz.func149, Tryz.ntmps149
    generalize w.alloc (.cells #[v, .int .i64 0] 59) = w1 at *
    go_wp2_with (at_builtin; refine wpList_append_own _ rfl (.tmp 23) (.tmp 24) 47 rfl base 59 i0 (.agg #[.slice none 0 0, .int .i64 0]) 2 32 Tryz.underlying47 hi hz0' hz1' hz2' rfl (by omega) (.slice A n c) n xs rfl ho1 ⟨w.heap.size, 0, none⟩ 1 1 [v, .int .i64 0] rfl rfl hsrc hone (by simp only [maxLen]; omega) (by omega) (by omega) ?_; intro v2 w2 o2 g2 _; obtain ⟨A2, c2, rfl, _⟩ := own_slice' o2)
    go_ret
    exact ⟨A2, c2, rfl, by rw [hput]; exact o2, hg0.trans g2⟩
theorem szSh (w : World) : (Go.sizeOf 59).run Tryz.prog w = .ok 2 w := by
  obtain ⟨i0, hi, _, hs, _⟩ := info_parts infoSh
  simp [sizeOf, typeInfo, hi, hs]
theorem sizeSh : (Tryz.prog.info? 59).map (·.size) = some 2 := by
  obtain ⟨i0, hi, _, hs, _⟩ := info_parts infoSh
  rw [hi]; simp [hs]
theorem row_at {w : World} {base n c g : Nat} {xs : List Value} (ho : w.ownsRow base 59 2 (.slice (some ⟨g, 0, none⟩) n c) n xs) : ∃ cur : Array Value, base ≤ g ∧ w.heap[g]? = some (.cells cur 59 (0, 0)) ∧ n ≤ c ∧ c ≤ maxLen ∧ cur.size = c * 2 ∧ cur.toList.take (n * 2) = xs := by
  rcases ho.2 with ⟨h, _⟩ | ⟨g', cap, cur, hA, h1, h2, h3, h4, h5, h6⟩
  · simp at h
  · simp at hA
    obtain ⟨rfl, rfl⟩ := hA
    exact ⟨cur, h1, h2, h3, h4, h5, h6⟩
set_option maxRecDepth 100000 in
set_option maxHeartbeats 4000000 in
theorem c_insShift (g n c base k : Nat) (xs : List Value) (v : Value) (w : World) (hk : k < n) (hn : n ≤ 1000) (hroom : n + 1 ≤ c) (hv : v.oneCell' = true) (hx1 : ∀ u ∈ xs, u.oneCell' = true) (ho : w.ownsRow base 59 2 (.slice (some ⟨g, 0, none⟩) n c) n xs) :
    Calls Tryz.prog 149 #[.slice (some ⟨g, 0, none⟩) n c, .int .i64 k, .slice (some ⟨w.heap.size, 0, none⟩) 1 1] (w.alloc (.cells #[v, .int .i64 0] 59)) (INS base (some ⟨g, 0, none⟩) n c k xs v w) := by
  obtain ⟨cur, hbg, hgg, hnc, hcm, hcs, htake⟩ := row_at ho
  have hcm' : c ≤ 9223372036854775807 := by have := hcm; simp only [maxLen] at this; omega
  have hglt : g < w.heap.size := (Array.getElem?_eq_some_iff.1 hgg).1
  have hne : w.heap.size ≠ g := by omega
  have hg1 : (w.alloc (.cells #[v, .int .i64 0] 59)).heap[g]? = some (.cells cur 59 (0, 0)) := (heap_alloc_old w _ hglt).trans hgg
  have hv1 : (w.alloc (.cells #[v, .int .i64 0] 59)).heap[w.heap.size]? = some (.cells #[v, .int .i64 0] 59 (0, 0)) := heap_alloc_new w _
  have hsrc := lit_src w v
  have hone : ∀ u ∈ [v, Value.int .i64 0], u.oneCell' = true := fun u hu => by
    simp at hu
    rcases hu with rfl | rfl
    · exact hv
    · rfl
  have hg0 := World.grownBy_alloc w (.cells #[v, .int .i64 0] 59) (some g)
  have hxl : xs.length = n * 2 := ho.1
  generalize w.alloc (.cells #[v, .int .i64 0] 59) = w1 at *
  have hov : ∀ lb cb, (callFunc 179 #[.slice (some ⟨w.heap.size, 0, none⟩) 1 1, .slice (some ⟨g, (k + 1) * 2, none⟩) lb cb]).run Tryz.prog w1 = .ok (.value (.bool false)) w1 := fun lb cb => by
    rw [run_callFunc_extern Tryz.func179 (by kernel_rfl) (by kernel_rfl) (by kernel_rfl) (e := Extern.SlicesOverlaps.overlaps #[47, 47] #[4]) (by kernel_rfl),
      Lib.run_overlaps_apart w1 47 4 59 Tryz.underlying47 2 szSh ⟨w.heap.size, 0, none⟩ ⟨g, (k + 1) * 2, none⟩ 1 1 lb cb hne 59 59 2 cur.size (by simp [World.shape?, hv1]) (by simp [World.shape?, hg1]) (by omega) (by simp [World.frozen?, hv1]) (by simp [World.frozen?, hv1])]
    rfl
  obtain ⟨hU1, hU2, hU3⟩ := upC_put (v := v) (k := k) (by simpa using hcs) htake (by omega) hroom
  have hcp1 : ∀ ty dc sc, (Builtin.copy_ #[47, 47] ty #[.slice (some ⟨g, (k + 1) * 2, none⟩) (n - k) dc, .slice (some ⟨g, k * 2, none⟩) (n + 1 - k) sc]).run Tryz.prog w1.drew = .ok (goInt (Nat.min (n + 1 - k) (n - k))) (w1.drew.setRow g (upC cur.toList xs n k).toArray) := fun ty dc sc => by
    have hm : Nat.min (n + 1 - k) (n - k) = n - k := by simp only [Nat.min_def]; split <;> omega
    have h := run_copy_rowK (P := Tryz.prog) w1.drew 47 47 ty 59 g ((k + 1) * 2) (n - k) dc ⟨g, k * 2, none⟩ (n + 1 - k) sc cur 59 (xs.drop (k * 2)) 2 Tryz.underlying47 sizeSh hg1 (by rw [hm, List.length_drop, hxl]; omega)
      (fun j u hj => by
        rw [Go.WideShapes.add_plain]
        show w1.cell? ⟨g, k * 2 + j, none⟩ = some u
        rw [cell_of_row w1 g _ cur _ (0, 0) hg1]
        rw [List.getElem?_drop, ← htake, List.getElem?_take] at hj
        split at hj
        · simpa using hj
        · cases hj)
      (by rw [List.length_drop, hxl, hcs]; omega) (fun u hu => hx1 u (List.mem_of_mem_drop hu))
    rw [h]
    congr 2
    unfold upC
    rw [List.length_drop, hxl]
    congr 3
    omega
  obtain ⟨W1, hW1⟩ : ∃ W1, W1 = w1.drew.setRow g (upC cur.toList xs n k).toArray := ⟨_, rfl⟩
  rw [← hW1] at hcp1
  have hgW : W1.heap[g]? = some (.cells (upC cur.toList xs n k).toArray 59 (0, 0)) := by rw [hW1]; exact setRow_heap w1.drew g cur _ _ _ hg1
  have hvW : W1.heap[w.heap.size]? = w1.heap[w.heap.size]? := by rw [hW1]; exact setRow_other w1.drew g _ _ hne
  have hcp2 : ∀ ty dc, (Builtin.copy_ #[47, 47] ty #[.slice (some ⟨g, k * 2, none⟩) (n + 1 - k) dc, .slice (some ⟨w.heap.size, 0, none⟩) 1 1]).run Tryz.prog W1 = .ok (goInt (Nat.min 1 (n + 1 - k))) (W1.setRow g ((upC cur.toList xs n k).take (k * 2) ++ [v, .int .i64 0] ++ (upC cur.toList xs n k).drop (k * 2 + 2)).toArray) := fun ty dc => by
    have hm : Nat.min 1 (n + 1 - k) = 1 := by simp only [Nat.min_def]; split <;> omega
    have h := run_copy_rowK (P := Tryz.prog) W1 47 47 ty 59 g (k * 2) (n + 1 - k) dc ⟨w.heap.size, 0, none⟩ 1 1 (upC cur.toList xs n k).toArray 59 [v, .int .i64 0] 2 Tryz.underlying47 sizeSh hgW (by rw [hm]; rfl)
      (fun j u hj => by
        rw [← hsrc j u hj]
        exact World.cell?_of_block (by rw [Go.WideShapes.add_plain]; exact hvW))
      (by simp [hU3]; omega) hone
    rw [h]
    rfl
  have mixed : Tryz.prog.follows Departure.mixedOrders = true := by kernel_rfl
  have hkn : k ≤ n := by omega
  have hz1 : ¬ ((1 : Int) = 0) := by omega
  have hz2 : ¬ ((k : Int) = (n : Int)) := by omega
  have hz3 : ¬ ((c : Int) < (n : Int) + 1) := by omega
  have hw1 : IntKind.i64.wrap ((k : Int) + 1) = (k : Int) + 1 := IntWalk.i64_in _ (by omega)
  have hw2 : IntKind.i64.wrap ((n : Int) + 1) = (n : Int) + 1 := IntWalk.i64_in _ (by omega)
  have hb1 : (0 : Int) ≤ (k : Int) + 1 := by omega
  have htn : ((k : Int) + 1).toNat = k + 1 := by omega
  have htn2 : ((n : Int) + 1).toNat = n + 1 := by omega
  have hb2 : ¬ (c = k + 1) := by omega
  have hb3 : (k : Int) ≤ (n : Int) + 1 := by omega
  have hb4 : ¬ (c = k) := by omega
  have hgrown : w.grownBy (W1.setRow g ((upC cur.toList xs n k).take (k * 2) ++ [v, .int .i64 0] ++ (upC cur.toList xs n k).drop (k * 2 + 2)).toArray) (some g) := by
    rw [hW1]
    exact hg0.trans ⟨rfl, rfl, rfl, by simp [World.setRow], fun j hj hne' => by rw [setRow_other _ _ _ _ (fun e => hne' (by rw [e])), setRow_other _ _ _ _ (fun e => hne' (by rw [e]))]; rfl⟩
  have hown : (W1.setRow g ((upC cur.toList xs n k).take (k * 2) ++ [v, .int .i64 0] ++ (upC cur.toList xs n k).drop (k * 2 + 2)).toArray).ownsRow base 59 2 (.slice (some ⟨g, 0, none⟩) (n + 1) c) (n + 1) (putC xs k v) :=
    ⟨putC_len hxl (by omega), .inr ⟨g, c, _, rfl, hbg, setRow_heap W1 g _ _ _ _ hgW, hroom, hcm, by simpa using hU2, by simpa using hU1⟩⟩
  generalize W1.setRow g ((upC cur.toList xs n k).take (k * 2) ++ [v, .int .i64 0] ++ (upC cur.toList xs n k).drop (k * 2 + 2)).toArray = W2 at *
  clear hU1 hU2 hU3 hgW hvW hW1 hsrc hone hg0 hg1 hv1 hcs htake hgg ho hx1 hv hxl hne
  go_enter Tryz.func149, Tryz.ntmps149
  go_wp2_with (simp only [hov])
  go_region_law_o (refine step_copy_runI rfl _ _ 47 47 rfl _ _ (by simp [Act.eval, Act.put]) (by simp [Act.eval, Act.put]) (hcp1 _ _ _) ?_)
  go_wp2_with (at_builtin; refine wpList_copy_runI _ rfl _ _ 47 47 rfl _ _ rfl rfl (hcp2 _ _) ?_)
  go_ret
  exact ⟨_, _, rfl, hown, hgrown⟩
set_option maxRecDepth 100000 in
set_option maxHeartbeats 4000000 in
theorem c_insGrow (g n c base k : Nat) (xs : List Value) (v : Value) (w : World) (hk : k < n) (hn : n ≤ 1000) (hroom : c < n + 1) (hb : base ≤ w.heap.size) (hv : v.oneCell' = true) (hx1 : ∀ u ∈ xs, u.oneCell' = true) (ho : w.ownsRow base 59 2 (.slice (some ⟨g, 0, none⟩) n c) n xs) :
    Calls Tryz.prog 149 #[.slice (some ⟨g, 0, none⟩) n c, .int .i64 k, .slice (some ⟨w.heap.size, 0, none⟩) 1 1] (w.alloc (.cells #[v, .int .i64 0] 59)) (INS base (some ⟨g, 0, none⟩) n c k xs v w) := by
  obtain ⟨cur, hbg, hgg, hnc, hcm, hcs, htake⟩ := row_at ho
  have hcn : c = n := by omega
  subst hcn
  have hglt : g < w.heap.size := (Array.getElem?_eq_some_iff.1 hgg).1
  have hg1 : (w.alloc (.cells #[v, .int .i64 0] 59)).heap[g]? = some (.cells cur 59 (0, 0)) := (heap_alloc_old w _ hglt).trans hgg
  have hsz1 : (w.alloc (.cells #[v, .int .i64 0] 59)).heap.size = w.heap.size + 1 := World.size_alloc _ _
  have hsrc := lit_src w v
  have hone : ∀ u ∈ [v, Value.int .i64 0], u.oneCell' = true := fun u hu => by
    simp at hu
    rcases hu with rfl | rfl
    · exact hv
    · rfl
  have hg0 := World.grownBy_alloc w (.cells #[v, .int .i64 0] 59) (some g)
  have hxl : xs.length = c * 2 := ho.1
  generalize w.alloc (.cells #[v, .int .i64 0] 59) = w1 at *
  have hcell1 : ∀ j u, xs[j]? = some u → w1.cell? ⟨g, j, none⟩ = some u := fun j u hj => by
    rw [cell_of_row w1 g j cur _ (0, 0) hg1]
    rw [← htake, List.getElem?_take] at hj
    split at hj
    · simpa using hj
    · cases hj
  obtain ⟨i0, hi, hz0', hz1', hz2'⟩ := info_parts infoSh
  have hkk : (c : Int) + 1 - (k : Int) = ((c + 1 - k : Nat) : Int) := by omega
  have hik : k + (c + 1 - k) = c + 1 := by omega
  have hold : (Builtin.firstCells i0.size k (.slice (some ⟨g, 0, none⟩) k c)).run Tryz.prog w1.drew = .ok (xs.take (k * 2)).toArray w1.drew := by
    rw [hz1']
    exact run_firstCells_some w1.drew 2 k ⟨g, 0, none⟩ k c (xs.take (k * 2)) (by rw [List.length_take, hxl]; omega) (fun j u hj => by
      rw [Go.WideShapes.add_plain, Nat.zero_add]
      rw [List.getElem?_take] at hj
      split at hj
      · exact hcell1 j u hj
      · cases hj)
  obtain ⟨G, hG⟩ : ∃ G, G = grownCap w1 (c + 1) c 59 := ⟨_, rfl⟩
  obtain ⟨ROW, hROW⟩ : ∃ ROW : Array Value, ROW = (xs.take (k * 2)).toArray ++ Builtin.zeroCells (Value.agg #[.slice none 0 0, .int .i64 0]).cells (c + 1 - k) ++ Builtin.zeroCells (Value.agg #[.slice none 0 0, .int .i64 0]).cells (G - (c + 1)) := ⟨_, rfl⟩
  have hGn : c + 1 ≤ G := by rw [hG]; exact grownCap_ge w1 _ _ _
  have hGm : G ≤ maxLen := by rw [hG]; exact grownCap_le_maxLen w1 (c + 1) c _ (by unfold maxLen; omega)
  have hG63 : G ≤ 9223372036854775807 := by simp only [maxLen] at hGm; omega
  have hRl : ROW.size = G * 2 := by
    rw [hROW]
    simp only [Array.size_append, List.size_toArray, size_zeroCells, List.length_take, hxl]
    rw [show (Value.agg #[.slice none 0 0, .int .i64 0]).cells.size = 2 from rfl]
    omega
  have hrz : ∀ ty, (Builtin.append_ #[47, 3] ty #[.slice (some ⟨g, 0, none⟩) k c, .int .i64 ((c : Int) + 1 - (k : Int))]).run Tryz.prog w1 =
      .ok (.slice (some ⟨w1.heap.size, 0, none⟩) (c + 1) G) (w1.drew.alloc (.cells ROW 59)) := fun ty => by
    have h := Lib.run_append_grow_zeros w1 47 3 ty 59 i0 _ .i64 .i64 Tryz.underlying47 Tryz.underlying3 hi hz0' (some ⟨g, 0, none⟩) k c (xs.take (k * 2)) hold (c + 1 - k) (by omega) (by omega) (by omega) (by omega) (by rw [hz2']; omega) (by rw [hz2', hik]; exact growslice_fits (by omega) (by omega))
    rw [hik, ← hG, ← hROW] at h
    rw [hkk]
    exact h
  obtain ⟨W1, hW1⟩ : ∃ W1, W1 = (w1.alloc (.cells ROW 59)).drew := ⟨_, rfl⟩
  have hgW : W1.heap[w1.heap.size]? = some (.cells ROW 59 (0, 0)) := by rw [hW1]; exact heap_alloc_new w1 _
  have hold1 : ∀ b, b < w1.heap.size → W1.heap[b]? = w1.heap[b]? := fun b hb' => by rw [hW1]; exact heap_alloc_old w1 _ hb'
  have hvlt : w.heap.size < w1.heap.size := by omega
  have hglt1 : g < w1.heap.size := by omega
  obtain ⟨R1, hR1⟩ : ∃ R1, R1 = (ROW.toList.take (k * 2) ++ [v, .int .i64 0] ++ ROW.toList.drop (k * 2 + 2)).toArray := ⟨_, rfl⟩
  have hR1l : R1.size = G * 2 := by
    rw [hR1]
    simp only [List.size_toArray, List.length_append, List.length_take, List.length_drop, List.length_cons, List.length_nil, Array.length_toList, hRl]
    omega
  have hcpA : ∀ ty dc, (Builtin.copy_ #[47, 47] ty #[.slice (some ⟨w1.heap.size, k * 2, none⟩) (c + 1 - k) dc, .slice (some ⟨w.heap.size, 0, none⟩) 1 1]).run Tryz.prog W1 = .ok (goInt (Nat.min 1 (c + 1 - k))) (W1.setRow w1.heap.size R1) := fun ty dc => by
    have hm : Nat.min 1 (c + 1 - k) = 1 := by simp only [Nat.min_def]; split <;> omega
    have h := run_copy_rowK (P := Tryz.prog) W1 47 47 ty 59 w1.heap.size (k * 2) (c + 1 - k) dc ⟨w.heap.size, 0, none⟩ 1 1 ROW 59 [v, .int .i64 0] 2 Tryz.underlying47 sizeSh hgW (by rw [hm]; rfl)
      (fun j u hj => by
        rw [← hsrc j u hj]
        exact World.cell?_of_block (by rw [Go.WideShapes.add_plain]; exact hold1 _ hvlt))
      (by simp [hRl]; omega) hone
    rw [h, hR1]
    rfl
  obtain ⟨W2, hW2⟩ : ∃ W2, W2 = (W1.setRow w1.heap.size R1).drew := ⟨_, rfl⟩
  have hgW2 : W2.heap[w1.heap.size]? = some (.cells R1 59 (0, 0)) := by rw [hW2]; exact setRow_heap W1 _ _ _ _ _ hgW
  have hold2 : ∀ b, b < w1.heap.size → W2.heap[b]? = w1.heap[b]? := fun b hb' => by rw [hW2]; exact (setRow_other W1 _ _ _ (by omega)).trans (hold1 b hb')
  obtain ⟨R2, hR2⟩ : ∃ R2, R2 = (R1.toList.take ((k + 1) * 2) ++ xs.drop (k * 2) ++ R1.toList.drop ((k + 1) * 2 + (xs.drop (k * 2)).length)).toArray := ⟨_, rfl⟩
  have hcpB : ∀ ty dc sc, (Builtin.copy_ #[47, 47] ty #[.slice (some ⟨w1.heap.size, (k + 1) * 2, none⟩) (c - k) dc, .slice (some ⟨g, k * 2, none⟩) (c - k) sc]).run Tryz.prog W2 = .ok (goInt (Nat.min (c - k) (c - k))) (W2.setRow w1.heap.size R2) := fun ty dc sc => by
    have hm : Nat.min (c - k) (c - k) = c - k := by simp only [Nat.min_def]; split <;> omega
    have h := run_copy_rowK (P := Tryz.prog) W2 47 47 ty 59 w1.heap.size ((k + 1) * 2) (c - k) dc ⟨g, k * 2, none⟩ (c - k) sc R1 59 (xs.drop (k * 2)) 2 Tryz.underlying47 sizeSh hgW2 (by rw [hm, List.length_drop, hxl]; omega)
      (fun j u hj => by
        rw [Go.WideShapes.add_plain]
        rw [List.getElem?_drop] at hj
        rw [← hcell1 _ u hj]
        exact World.cell?_of_block (hold2 g hglt1))
      (by rw [List.length_drop, hxl, hR1l]; omega) (fun u hu => hx1 u (List.mem_of_mem_drop hu))
    rw [h, hR2]
  have hR2t : R2.toList.take ((c + 1) * 2) = putC xs k v ∧ R2.size = G * 2 := by
    have e1 : R1.toList.take ((k + 1) * 2) = xs.take (k * 2) ++ [v, .int .i64 0] := by
      rw [hR1, List.toList_toArray, List.take_append_of_le_length (by simp only [List.length_append, List.length_take, List.length_cons, List.length_nil, Array.length_toList, hRl]; omega), List.take_of_length_le (by simp only [List.length_append, List.length_take, List.length_cons, List.length_nil, Array.length_toList, hRl]; omega)]
      congr 1
      rw [hROW]
      simp only [Array.toList_append, List.append_assoc]
      rw [List.take_append_of_le_length (by simp only [List.length_take, hxl]; omega), List.take_of_length_le (by simp only [List.length_take, hxl]; omega)]
    refine ⟨?_, ?_⟩
    · rw [hR2, List.toList_toArray, e1, List.take_append_of_le_length (by simp only [List.length_append, List.length_take, List.length_drop, List.length_cons, List.length_nil, hxl]; omega), List.take_of_length_le (by simp only [List.length_append, List.length_take, List.length_drop, List.length_cons, List.length_nil, hxl]; omega)]
      rfl
    · rw [hR2]
      simp only [List.size_toArray, List.length_append, List.length_take, List.length_drop, Array.length_toList, hR1l, hxl]
      omega
  have hown : (W2.setRow w1.heap.size R2).ownsRow base 59 2 (.slice (some ⟨w1.heap.size, 0, none⟩) (c + 1) G) (c + 1) (putC xs k v) :=
    ⟨putC_len hxl (by omega), .inr ⟨w1.heap.size, G, R2, rfl, by omega, setRow_heap W2 _ _ _ _ _ hgW2, hGn, hGm, hR2t.2, hR2t.1⟩⟩
  have hs1 : ∀ (W : World) g cs, (W.setRow g cs).heap.size = W.heap.size := fun W g cs => by simp [World.setRow]
  have hgrown : w.grownBy (W2.setRow w1.heap.size R2) (some g) := by
    refine hg0.trans ⟨?_, ?_, ?_, ?_, fun j hj _ => ?_⟩
    · rw [hW2, hW1]; rfl
    · rw [hW2, hW1]; rfl
    · rw [hW2, hW1]; rfl
    · rw [hW2, hs1]
      show w1.heap.size ≤ (W1.setRow w1.heap.size R1).heap.size
      rw [hs1, hW1]
      show w1.heap.size ≤ (w1.alloc (.cells ROW 59)).heap.size
      rw [World.size_alloc]
      exact Nat.le_succ _
    · rw [setRow_other _ _ _ _ (by omega)]; exact hold2 j hj
  subst hW1
  generalize hX : ((w1.alloc (.cells ROW 59)).drew).setRow w1.heap.size R1 = X at *
  subst hW2
  generalize X.drew.setRow w1.heap.size R2 = Y at *
  have mixed : Tryz.prog.follows Departure.mixedOrders = true := by kernel_rfl
  have hkn : k ≤ c := by omega
  have hz1 : ¬ ((1 : Int) = 0) := by omega
  have hz2 : ¬ ((k : Int) = (c : Int)) := by omega
  have hz3 : (c : Int) < (c : Int) + 1 := by omega
  have hw1 : IntKind.i64.wrap ((k : Int) + 1) = (k : Int) + 1 := IntWalk.i64_in _ (by omega)
  have hw2 : IntKind.i64.wrap ((c : Int) + 1) = (c : Int) + 1 := IntWalk.i64_in _ (by omega)
  have hw3 : IntKind.i64.wrap ((c : Int) + 1 - (k : Int)) = (c : Int) + 1 - (k : Int) := IntWalk.i64_in _ (by omega)
  have hb1 : (0 : Int) ≤ (k : Int) + 1 := by omega
  have htn : ((k : Int) + 1).toNat = k + 1 := by omega
  have htn2 : ((c : Int) + 1).toNat = c + 1 := by omega
  have hb3 : (k : Int) ≤ (c : Int) + 1 := by omega
  have hGi : ¬ (G = k) := by omega
  have hGim : ¬ (G = k + 1) := by omega
  have hci : ¬ (c = k) := by omega
  clear hkk hik hold hROW hG hRl hR1 hR1l hR2 hR2t hgW hgW2 hold1 hold2 hcell1 hsrc hone hg0 hg1 hgg hcs htake ho hx1 hv hxl hroom hsz1
  go_enter Tryz.func149, Tryz.ntmps149
  go_wp2_with (first
    | (at_builtin; refine Lib.wpList_append_run _ rfl _ _ _ _ rfl _ _ rfl rfl _ _ (hrz _) ?_)
    | (at_builtin; refine wpList_copy_runI _ rfl _ _ 47 47 rfl _ _ rfl rfl (hcpA _ _) ?_))
  go_region_law_o (refine step_copy_runI rfl _ _ 47 47 rfl _ _ (by simp [Act.eval, Act.put]) (by simp [Act.eval, Act.put]) (hcpB _ _ _) ?_)
  go_wp2
  go_ret
  exact ⟨_, _, rfl, hown, hgrown⟩
end Go.Proofs.YtglijcdnnaekkaaGreat
/- Shares: one share more at its place; the program's shares of a group. -/
namespace Go.Proofs.YtglijcdnnaekkaaGreat
set_option linter.unusedVariables false
set_option linter.unusedSimpArgs false
open Go.RowKit

theorem rows_ins {w : World} {base : Nat} {vs : List Value} {ll : List (List Int)} {v : Value} {l : List Int} (h : RowsO w base vs ll) (hr : OwnI w base v l) (hne : ∀ i, i < vs.length → (gv vs i).ownBlock = none ∨ (gv vs i).ownBlock ≠ v.ownBlock) {a : Nat} (ha : a ≤ ll.length) : RowsO w base (vs.take a ++ [v] ++ vs.drop a) (ll.take a ++ [l] ++ ll.drop a) := by
  have hl := h.1
  have h1 : (vs.take a).length = a := by rw [List.length_take]; omega
  have h2 : (ll.take a).length = a := by rw [List.length_take]; omega
  refine RowsO.perm (fun k => if k < a then k else if k = a then vs.length else if k ≤ vs.length then k - 1 else k) (h.snoc hr hne) (by simp; omega) (by simp; omega) (fun k hk => ?_) (fun k hk => ?_) (fun k hk => ?_) (fun x y e => ?_)
  · rw [List.length_append, List.length_singleton] at hk
    rw [gv_app, gv_app, gv_app, List.length_append, h1, List.length_singleton]
    try rw [← hl]
    by_cases e1 : k < a
    · have e3 : k < a + 1 := by omega
      have e4 : k < vs.length := by omega
      simp only [e1, e3, e4, if_true]
      exact gv_take e1
    · by_cases e2 : k = a
      · have e3 : k < a + 1 := by omega
        have e5 : ¬ vs.length < vs.length := by omega
        simp only [e1, e3, if_true, if_false, e2, Nat.sub_self, Nat.lt_irrefl, Nat.lt_succ_self]
      · have e3 : ¬ k < a + 1 := by omega
        have e4 : k ≤ vs.length := by omega
        have e5 : k - 1 < vs.length := by omega
        simp only [e1, e2, e3, e4, e5, if_true, if_false]
        rw [gv_drop]
        congr 1; omega
  · rw [List.length_append, List.length_singleton] at hk
    rw [gl_app, gl_app, gl_app, List.length_append, h2, List.length_singleton]
    try rw [← hl]
    by_cases e1 : k < a
    · have e3 : k < a + 1 := by omega
      have e4 : k < vs.length := by omega
      simp only [e1, e3, e4, if_true]
      exact gl_take e1
    · by_cases e2 : k = a
      · have e3 : k < a + 1 := by omega
        have e5 : ¬ vs.length < vs.length := by omega
        simp only [e1, e3, if_true, if_false, e2, Nat.sub_self, Nat.lt_irrefl, Nat.lt_succ_self]
      · have e3 : ¬ k < a + 1 := by omega
        have e4 : k ≤ vs.length := by omega
        have e5 : k - 1 < vs.length := by omega
        simp only [e1, e2, e3, e4, e5, if_true, if_false]
        rw [gl_drop]
        congr 1; omega
  · rw [List.length_append, List.length_singleton] at hk ⊢
    split
    · omega
    · split
      · omega
      · split <;> omega
  · split at e <;> (try split at e) <;> (try split at e) <;> (try split at e) <;> (try split at e) <;> (try split at e) <;> omega
theorem shC_one {vs : List Value} : ∀ {cs : List Int}, (∀ v ∈ vs, v.oneCell' = true) → ∀ u ∈ shC vs cs, u.oneCell' = true := by
  induction vs with
  | nil => intro cs _ u hu; simp [shC] at hu
  | cons v vs ih =>
    intro cs h u hu
    cases cs with
    | nil => simp [shC] at hu
    | cons c cs =>
      simp only [shC, List.mem_cons] at hu
      rcases hu with rfl | rfl | hu
      · exact h _ (by simp)
      · rfl
      · exact ih (fun v hv => h v (by simp [hv])) u hu
theorem rows_one {w : World} {base : Nat} {vs : List Value} {ts : List (List Int)} (hr : RowsO w base vs ts) : ∀ v ∈ vs, v.oneCell' = true := fun v hv => by
  obtain ⟨j, hj, e⟩ := List.mem_iff_getElem.1 hv
  obtain ⟨Aj, cj, ej, _⟩ := own_slice' (hr.2.1 j hj)
  have e2 : gv vs j = v := by simp [gv, List.getElem?_eq_getElem hj, e]
  rw [← e2, ej]; rfl
theorem sh_ne : (2 : TypeId) ≠ 59 := by decide
theorem c_insert (A : Option Addr) (n c base k : Nat) (xs : List Value) (v : Value) (w : World) (hk : k ≤ n) (hn : n ≤ 1000) (hb : base ≤ w.heap.size) (hv : v.oneCell' = true) (hx1 : ∀ u ∈ xs, u.oneCell' = true) (ho : w.ownsRow base 59 2 (.slice A n c) n xs) :
    Calls Tryz.prog 149 #[.slice A n c, .int .i64 k, .slice (some ⟨w.heap.size, 0, none⟩) 1 1] (w.alloc (.cells #[v, .int .i64 0] 59)) (INS base A n c k xs v w) := by
  rcases Nat.lt_or_ge k n with h | h
  · obtain ⟨g, rfl, _⟩ := own_src ho (by omega)
    rcases Nat.lt_or_ge c (n + 1) with h2 | h2
    · exact c_insGrow g n c base k xs v w h hn h2 hb hv hx1 ho
    · exact c_insShift g n c base k xs v w h hn h2 hv hx1 ho
  · obtain rfl : k = n := by omega
    exact c_insEnd A k c base xs v w hn hb hv ho
theorem sh_put {w : World} {base g n c k : Nat} {vs : List Value} {cs : List Int} {ts : List (List Int)} (ho : w.ownsRow base 59 2 (.slice (some ⟨g, 0, none⟩) n c) n (shC vs cs)) (hr : RowsO w base vs ts) (hn : n = ts.length) (hcs : cs.length = n) (hk : k < n) (x : Int) :
    (w.setCell ⟨g, k * 2 + 1, none⟩ (.int .i64 x)).ownsRow base 59 2 (.slice (some ⟨g, 0, none⟩) n c) n (shC vs (cs.set k x)) ∧ RowsO (w.setCell ⟨g, k * 2 + 1, none⟩ (.int .i64 x)) base vs ts ∧ w.grownBy (w.setCell ⟨g, k * 2 + 1, none⟩ (.int .i64 x)) (some g) := by
  obtain ⟨h1, h2⟩ := ho.stored (k * 2 + 1) (.int .i64 x)
  have hvl := hr.1
  rw [shC_set (by omega) (by omega)] at h1
  exact ⟨h1, hr.kept h2 fun i hi => own_ne (hr.2.1 i hi) ho sh_ne, h2⟩
/-- One new share among the rows. -/
theorem sh_ins {w w' : World} {base n c k c' : Nat} {A A' : Option Addr} {vs : List Value} {cs : List Int} {ts : List (List Int)} {v : Value} {t : List Int} (ho : w.ownsRow base 59 2 (.slice A n c) n (shC vs cs)) (hr : RowsO w base vs ts) (hn : n = ts.length) (hcs : cs.length = n) (hk : k ≤ n) (hv : OwnI w base v t) (hne : ∀ i, i < vs.length → (gv vs i).ownBlock = none ∨ (gv vs i).ownBlock ≠ v.ownBlock)
    (ho' : w'.ownsRow base 59 2 (.slice A' (n + 1) c') (n + 1) (putC (shC vs cs) k v)) (hg : w.grownBy w' (Value.slice A n c).ownBlock) :
    w'.ownsRow base 59 2 (.slice A' (n + 1) c') (n + 1) (shC (vs.take k ++ [v] ++ vs.drop k) (cs.take k ++ [0] ++ cs.drop k)) ∧ RowsO w' base (vs.take k ++ [v] ++ vs.drop k) (ts.take k ++ [t] ++ ts.drop k) := by
  have hvl := hr.1
  have e : putC (shC vs cs) k v = shC (vs.take k ++ [v] ++ vs.drop k) (cs.take k ++ [0] ++ cs.drop k) := by
    unfold putC
    rw [shC_take, shC_drop, shC_app (by simp; omega), shC_app (by simp; omega)]
    rfl
  rw [e] at ho'
  exact ⟨ho', (rows_ins hr hv hne (by omega)).kept hg fun i hi => own_ne ((rows_ins hr hv hne (a := k) (by omega)).2.1 i hi) ho sh_ne⟩
def tyM (n : Nat) (l : List Int) : List (List Int) := (memL n l).map tyS
theorem tyM_len (n : Nat) (l : List Int) : (tyM n l).length = l.length := by simp [tyM, memL_len]
theorem gl_tyM {n : Nat} {l : List Int} {k : Nat} (h : k < l.length) : gl (tyM n l) k = tyS (gl (memL n l) k) := by
  have h' : k < (memL n l).length := by rw [memL_len]; exact h
  simp [tyM, gl, List.getElem?_eq_getElem h']
theorem gl_memW {n : Nat} {l : List Int} {k : Nat} (h : k < l.length) : gl (memL n l) k = wrL n (gt l k).toNat := by
  simp [memL, gl, gt, List.getElem?_eq_getElem h]
theorem gl_memR {n : Nat} {l : List Int} (hk : InK n l) {k : Nat} (h : k < l.length) : InR n (gl (memL n l) k) := by
  rw [gl_memW h]
  have := hk k h
  exact wrL_in (by omega)
/-- The shares of a group. -/
def SHR (n : Nat) (l : List Int) (w : World) (e : Ending) (w' : World) : Prop :=
  ∃ (A : Option Addr) (m c : Nat) (vs : List Value), m = (shO (tyM n l) l.length).length ∧ e = .returned (.slice A m c) ∧ w'.ownsRow w.heap.size 59 2 (.slice A m c) m (shC vs (ctL (tyM n l) l.length (shO (tyM n l) l.length))) ∧ RowsO w' w.heap.size vs (shO (tyM n l) l.length) ∧ Below w.heap.size w w'
theorem shI_at' (ts : List (List Int)) (k : Nat) : atS (gl ts k) (shO ts k) < (shO ts (k + 1)).length ∧ gl (shO ts (k + 1)) (atS (gl ts k) (shO ts k)) = gl ts k := shrI_at (shO ts k) (gl ts k)
theorem shO_has {ts : List (List Int)} {k : Nat} (h : hasS (gl ts k) (shO ts k) = true) : shO ts (k + 1) = shO ts k := by
  show shrI _ _ = _
  unfold shrI
  rw [if_pos h]
theorem shO_new {ts : List (List Int)} {k : Nat} (h : hasS (gl ts k) (shO ts k) = false) : shO ts (k + 1) = (shO ts k).take (atS (gl ts k) (shO ts k)) ++ [gl ts k] ++ (shO ts k).drop (atS (gl ts k) (shO ts k)) := by
  show shrI _ _ = _
  unfold shrI
  rw [if_neg (by rw [h]; simp)]
theorem sh_fin {ts : List (List Int)} {k g m c base : Nat} {w1 w : World} {vs : List Value} (hm : m = (shO ts (k + 1)).length) (ho : w.ownsRow base 59 2 (.slice (some ⟨g, 0, none⟩) m c) m (shC vs (ctL ts k (shO ts (k + 1))))) (hr : RowsO w base vs (shO ts (k + 1))) (hb : Below base w1 w) (hB : base ≤ w.heap.size) :
    atS (gl ts k) (shO ts k) < m ∧ w.cell? ⟨g, atS (gl ts k) (shO ts k) * 2 + 1, none⟩ = some (.int .i64 ((cntT ts k (gl ts k) : Nat) : Int)) ∧ w.frozen? ⟨g, atS (gl ts k) (shO ts k) * 2 + 1, none⟩ = false ∧
    (w.setCell ⟨g, atS (gl ts k) (shO ts k) * 2 + 1, none⟩ (.int .i64 ((cntT ts k (gl ts k) : Nat) + 1 : Int))).ownsRow base 59 2 (.slice (some ⟨g, 0, none⟩) m c) m (shC vs (ctL ts (k + 1) (shO ts (k + 1)))) ∧
    RowsO (w.setCell ⟨g, atS (gl ts k) (shO ts k) * 2 + 1, none⟩ (.int .i64 ((cntT ts k (gl ts k) : Nat) + 1 : Int))) base vs (shO ts (k + 1)) ∧ Below base w1 (w.setCell ⟨g, atS (gl ts k) (shO ts k) * 2 + 1, none⟩ (.int .i64 ((cntT ts k (gl ts k) : Nat) + 1 : Int))) := by
  obtain ⟨h1, h2⟩ := shI_at' ts k
  have hg := ctL_gt (ts := ts) (i := k) h1
  rw [h2] at hg
  have hlt : atS (gl ts k) (shO ts k) < m := by rw [hm]; exact h1
  obtain ⟨_, _, _, e2, _, _⟩ := sh_cell ho hr hm (by rw [ctL_len, hm]) hlt
  rw [hg] at e2
  have hp := sh_put ho hr hm (by rw [ctL_len, hm]) hlt ((cntT ts k (gl ts k) : Nat) + 1 : Int)
  rw [ctL_more, hg]
  exact ⟨hlt, e2, ho.frozenAt _, hp.1, hp.2.1, hb.grown hp.2.2 hB (fun x hx => by injection hx with hx; subst hx; exact (ho.lt _ rfl).1)⟩
set_option maxRecDepth 20000 in
set_option maxHeartbeats 4000000 in
theorem i_shares (n : Nat) (A : Option Addr) (L c : Nat) (l : List Int) (w : World) (hn1 : 1 ≤ n) (hn6 : n ≤ 6) (hL : L = l.length) (hl : L ≤ 720) (hk : InK n l) (hs : IS w w.heap.size A l) :
    Calls Tryz.prog 79 #[.agg #[.int .i64 n, .slice A L c]] w (SHR n l w) := by
  have B0 := BK.new w 26 #[.int .i64 n, .slice A L c]
  obtain ⟨c0, c1, _, _⟩ := B0.two
  have hb0 := (Below.refl w.heap.size w).alloc (Nat.le_refl _) (.cells #[.int .i64 n, .slice A L c] 26)
  have hme := i_members n A L c l _ hn1 hn6 hL (by omega) hk (hs.call hb0)
  have HL := Lib.hid hL
  have HMR := Lib.hid (fun k (h : k < l.length) => gl_memR hk h)
  have HTY := Lib.hid (fun k (h : k < l.length) => gl_tyM (n := n) h)
  unfold MII at hme
  rw [memL_len, ← hL] at hme
  have hsl := fun i => shO_len (tyM n l) i
  have HMS := Lib.hid (show L = (memL n l).length by rw [memL_len, hL])
  have HT6 := Lib.hid (show ∀ j, j < L → (gl (tyM n l) j).length ≤ 6 from fun j hj => by
    rw [gl_tyM (by omega), tyS_len]
    have := cycL_len (gl (memL n l) j)
    rw [(gl_memR hk (by omega)).1] at this
    omega)
  unfold SHR
  rw [← hL]
  generalize tyM n l = ts at *
  generalize memL n l = ms at *
  clear hL hk hs B0
  go_enter Tryz.func79, Tryz.ntmps79
  go_wp2_with (fail)
  refine hme.mono ?_
  rintro e w1 ⟨Am, cm, vm, rfl, om, rm, hb1⟩
  have b1 := bel_call hb0 hb1
  have im := OwnII.ii om rm
  clear hme c0 c1 om rm hb0 hb1
  generalize w.alloc (.cells #[.int .i64 n, .slice A L c] 26) = w0 at *
  go_wp2_with (fail)
  go_loopw [3, 12] (fun u3 u12 wr => ∃ (k m : Nat) (A3 : Option Addr) (c3 : Nat) (vs : List Value), k ≤ L ∧ u12 = .int .i64 (k : Int) ∧ u3 = .slice A3 m c3 ∧ Hid (m = (shO ts k).length) ∧ Hid (wr.ownsRow w1.heap.size 59 2 (.slice A3 m c3) m (shC vs (ctL ts k (shO ts k)))) ∧ Hid (RowsO wr w1.heap.size vs (shO ts k)) ∧ Below w1.heap.size w1 wr) (fun _ u12 _ => L - (intOf u12).toNat)
  case atStart => exact ⟨0, 0, none, 0, [], Nat.zero_le _, rfl, rfl, rfl, World.ownsRow_nil _ _ _ _, ⟨rfl, fun i hi => by simp at hi, fun i j _ hj => by simp at hj⟩, Below.refl _ _⟩
  case round =>
    obtain ⟨ws, rfl⟩ : ∃ ws : World, ws = wr := ⟨_, rfl⟩
    obtain ⟨k, m, A3, c3, vs, hkL, rfl, rfl, HM, HOW, HRW, hb⟩ := hrel
    by_cases hlt : k < L
    · have ims := im.below hb
      have hzb := hb.size
      have hkl : k < l.length := by rw [← HL.out]; exact hlt
      obtain ⟨b, off, rfl, hbb, hcell⟩ := ims.at (k := k) (by rw [← HMS.out]; exact hlt)
      obtain ⟨Ar, cr, h1, _, _, i1⟩ := hcell k (by rw [← HMS.out]; exact hlt)
      have hin := HMR.out k hkl
      rw [hin.1] at h1
      have hct := i_cycleType Ar n cr (gl ms k) ws hn1 hn6 hin (i1.more hzb)
      have hty := HTY.out k hkl
      have htl : (cycL (gl ms k)).length = (gl ts k).length := by rw [hty, tyS_len]
      rw [← hty] at hct
      have ht6 := HT6.out k hlt
      generalize (cycL (gl ms k)).length = tl at *
      have HTL := Lib.hid htl
      have htl6 : tl ≤ 6 := by omega
      have hml : m ≤ k := by rw [HM.out]; exact shO_len ts k
      have hrow6 : ∀ j, j < m → (gl (shO ts k) j).length ≤ 6 := fun j hj => by
        obtain ⟨q, hq, e⟩ := shO_mem.1 (gl_mem (ll := shO ts k) (i := j) (by rw [← HM.out]; exact hj))
        rw [← e]
        exact HT6.out q (by omega)
      have HR6 := Lib.hid hrow6
      clear hcell i1 hin hty htl ht6 hrow6
      go_wp2_with (fail)
      refine hct.mono ?_
      rintro e w2 ⟨v, rfl, ov, hb2⟩
      obtain ⟨At, ct, rfl, _⟩ := own_slice' ov
      have ow2 := own_below HOW.out hb2
      have rw2 := HRW.out.below hb2
      have hst := own_isn ov HTL.out
      have hbs := c_bsf A3 At m c3 w1.heap.size tl ct vs (ctL ts k (shO ts k)) (shO ts k) (gl ts k) w2 HM.out (by omega) (shO_strict ts k) HR6.out (by rw [ctL_len, ← HM.out]) ow2 rw2 HTL.out htl6 hst
      have b2 := hb.trans (hb2.mono hzb)
      have hz2 := hb2.size
      clear hct
      go_wp2_with (fail)
      refine hbs.mono ?_
      rintro e w3 ⟨rfl, hb3⟩
      have ow3 := own_below ow2 hb3
      have rw3 := rw2.below hb3
      have ov3 := own_below ov hb3
      have b3 := b2.trans (hb3.mono (by omega))
      have hz3 := hb3.size
      have hw720 : IntKind.i64.wrap (((cntT ts k (gl ts k) : Nat) : Int) + 1) = ((cntT ts k (gl ts k) : Nat) : Int) + 1 := IntWalk.i64_in _ (by have := cntT_le ts k (gl ts k); omega)
      clear hbs ow2 rw2 hst ov
      cases hf : hasS (gl ts k) (shO ts k)
      · have e1 := shO_new hf
        have e2 := ctL_new hf
        have hal := atS_le (gl ts k) (shO ts k)
        rw [← HM.out] at hal
        have hins := c_insert A3 m c3 w1.heap.size (atS (gl ts k) (shO ts k)) (shC vs (ctL ts k (shO ts k))) (.slice At tl ct) w3 hal (by omega) (by omega) rfl (shC_one (rows_one rw3)) ow3
        have HI := Lib.hid (fun A' c' w' ho' hg' => sh_ins (A' := A') (c' := c') (w' := w') ow3 rw3 HM.out (by rw [ctL_len, ← HM.out]) hal (t := gl ts k) (v := .slice At tl ct) (by unfold OwnI; rw [← HTL.out]; exact own_mono ov3 hzb) (fresh_ne HRW.out (fun g hg => (ov3.lt g hg).1)) ho' hg')
        have HM2 := Lib.hid (show m + 1 = (shO ts (k + 1)).length by
          rw [e1]; simp only [List.length_append, List.length_take, List.length_drop, List.length_singleton, ← HM.out]; omega)
        rw [← e1, ← e2] at HI
        clear e1 e2 hf
        go_wp2_with (fail)
        refine hins.mono ?_
        rintro e w4 ⟨A4, c4, rfl, o4, g4⟩
        obtain ⟨ow4, rw4⟩ := HI.out A4 c4 w4 o4 g4
        have b4 := b3.grown g4 (by omega) (fun x hx => (ow3.lt x hx).1)
        have hz4 := g4.size
        obtain ⟨g, rfl, _⟩ := own_src ow4 (by omega)
        obtain ⟨f1, f2, f3, f4, f5, f6⟩ := sh_fin HM2.out ow4 rw4 b4 (by omega)
        generalize atS (gl ts k) (shO ts k) = a at *
        generalize cntT ts k (gl ts k) = y at *
        have F4 := Lib.hid f4
        have F5 := Lib.hid f5
        clear f4 f5 hins HI ow3 rw3 ov3 ow4 rw4 o4
        go_wp2_with (fail)
        go_roundw
        case rel => exact ⟨k + 1, m + 1, _, c4, _, by omega, by go_num, rfl, HM2.out, F4.out, F5.out, f6⟩
        case measure => simp [intOf]; omega
      · have e1 := shO_has hf
        rw [← e1] at ow3 rw3
        have HM2 := Lib.hid (show m = (shO ts (k + 1)).length by rw [e1]; exact HM.out)
        have hpos : 0 < m := by rw [HM2.out]; exact Nat.lt_of_le_of_lt (Nat.zero_le _) (shI_at' ts k).1
        obtain ⟨g, rfl, _⟩ := own_src ow3 hpos
        obtain ⟨f1, f2, f3, f4, f5, f6⟩ := sh_fin HM2.out ow3 rw3 b3 (by omega)
        clear e1 hf
        generalize atS (gl ts k) (shO ts k) = a at *
        generalize cntT ts k (gl ts k) = y at *
        have F4 := Lib.hid f4
        have F5 := Lib.hid f5
        clear f4 f5 ow3 rw3 ov3
        go_wp2_with (fail)
        go_roundw
        case rel => exact ⟨k + 1, m, _, c3, _, by omega, by go_num, rfl, HM2.out, F4.out, F5.out, f6⟩
        case measure => simp [intOf]; omega
    · obtain rfl : k = L := by omega
      go_wp2_with (fail)
      go_ret
      have hz := b1.size
      exact ⟨A3, m, c3, vs, HM.out, rfl, own_mono HOW.out (by omega), HRW.out.mono (by omega), b1.trans (hb.mono (by omega))⟩
end Go.Proofs.YtglijcdnnaekkaaGreat
