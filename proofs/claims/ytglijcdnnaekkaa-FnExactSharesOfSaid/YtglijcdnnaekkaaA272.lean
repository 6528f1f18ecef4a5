/- slices.Insert of one share. -/
import Derived.Test.YtglijcdnnaekkaaA270
import Derived.Shelf.Spec.SlicesInsertGrow
namespace Go.Proofs.Ytglijcdnnaekkaa
set_option linter.unusedVariables false
set_option linter.unusedSimpArgs false
open Go.RowKit Go.Shelf Go.Lib

theorem infoSh : (Try.prog.info? 60).map (fun i => (i.zero, i.size, i.bytes)) = some (some (.agg #[.slice none 0 0, .int .i64 0]), 2, 32) := by kernel_rfl
theorem run_copy_rowK {P : Program} (w : World) (dT sT ty elem : TypeId) (g o dLen dCap : Nat) (a : Addr) (sLen sCap : Nat) (cur : Array Value) (t : TypeId) (cs : List Value) (size : Nat)
    (hu : P.underlying dT = some (.slice elem)) (hs : (P.info? elem).map (·.size) = some size)
    (hg : w.heap[g]? = some (.cells cur t (0, 0))) (hn : cs.length = Nat.min sLen dLen * size)
    (hsrc : ∀ j v, cs[j]? = some v → w.cell? (a.add j) = some v) (hfit : o + cs.length ≤ cur.size) (h1 : ∀ v ∈ cs, v.oneCell' = true) :
    (Builtin.copy_ #[dT, sT] ty #[.slice (some ⟨g, o, none⟩) dLen dCap, .slice (some a) sLen sCap]).run P w =
      .ok (goInt (Nat.min sLen dLen)) (w.setRow g (cur.toList.take o ++ cs ++ cur.toList.drop (o + cs.length)).toArray) := by
  have hl := run_firstCells_some (P := P) w size (Nat.min sLen dLen) a sLen sCap cs hn hsrc
  have hst := run_storeCells_at P g o t cs 0 cur w hg (by simpa using hfit) h1
  cases hq : P.info? elem with
  | none => simp [hq] at hs
  | some i =>
    have hi : i.size = size := by simpa [hq] using hs
    simp only [Nat.add_zero] at hst
    simp [Builtin.copy_, run_underlying hu, Builtin.lenOf, sizeOf, typeInfo, hq, hi, hl, hst]
/-- What one share more at place k makes of the cells. -/
def putC (xs : List Value) (k : Nat) (v : Value) : List Value := xs.take (k * 2) ++ [v, .int .i64 0] ++ xs.drop (k * 2)
theorem putC_len {xs : List Value} {n k : Nat} {v : Value} (hx : xs.length = n * 2) (hk : k ≤ n) : (putC xs k v).length = (n + 1) * 2 := by
  unfold putC
  simp only [List.length_append, List.length_take, List.length_drop, List.length_cons, List.length_nil, hx]
  omega
/-- The cells after the elements from k on have gone up, and after the new one stands. -/
def upC (cur xs : List Value) (n k : Nat) : List Value := cur.take ((k + 1) * 2) ++ xs.drop (k * 2) ++ cur.drop ((k + 1) * 2 + (n - k) * 2)
theorem upC_put {cur xs : List Value} {n k cap : Nat} {v : Value} (hc : cur.length = cap * 2) (hx : cur.take (n * 2) = xs) (hk : k ≤ n) (hn : n + 1 ≤ cap) :
    ((upC cur xs n k).take (k * 2) ++ [v, .int .i64 0] ++ (upC cur xs n k).drop (k * 2 + 2)).take ((n + 1) * 2) = putC xs k v ∧ ((upC cur xs n k).take (k * 2) ++ [v, .int .i64 0] ++ (upC cur xs n k).drop (k * 2 + 2)).length = cap * 2 ∧ (upC cur xs n k).length = cap * 2 := by
  have hxl : xs.length = n * 2 := by rw [← hx, List.length_take]; omega
  have hul : (upC cur xs n k).length = cap * 2 := by
    unfold upC
    simp only [List.length_append, List.length_take, List.length_drop, hxl, hc]
    omega
  have h1 : (upC cur xs n k).take (k * 2) = xs.take (k * 2) := by
    unfold upC
    rw [← hx, List.append_assoc, List.take_append_of_le_length (by rw [List.length_take]; omega), List.take_take, List.take_take]
    congr 1
    omega
  have h2 : (upC cur xs n k).drop (k * 2 + 2) = xs.drop (k * 2) ++ cur.drop ((k + 1) * 2 + (n - k) * 2) := by
    unfold upC
    rw [List.append_assoc, List.drop_append_of_le_length (by rw [List.length_take]; omega), List.drop_eq_nil_of_le (by rw [List.length_take]; omega), List.nil_append]
  refine ⟨?_, ?_, hul⟩
  · rw [h1, h2, ← List.append_assoc, List.take_append_of_le_length (by simp only [List.length_append, List.length_take, List.length_drop, List.length_cons, List.length_nil, hxl]; omega), List.take_of_length_le (by simp only [List.length_append, List.length_take, List.length_drop, List.length_cons, List.length_nil, hxl]; omega)]
    rfl
  · simp only [List.length_append, List.length_take, List.length_drop, List.length_cons, List.length_nil, hul]
    omega
def INS (base : Nat) (A : Option Addr) (n c k : Nat) (xs : List Value) (v : Value) (w : World) (e : Ending) (w' : World) : Prop :=
  ∃ A' c', e = .returned (.slice A' (n + 1) c') ∧ w'.ownsRow base 60 2 (.slice A' (n + 1) c') (n + 1) (putC xs k v) ∧ w.grownBy w' (Value.slice A n c).ownBlock
theorem lit_src (w : World) (v : Value) : ∀ j u, [v, Value.int .i64 0][j]? = some u → (w.alloc (.cells #[v, .int .i64 0] 60)).cell? ((⟨w.heap.size, 0, none⟩ : Addr).add j) = some u := fun j u hj => by
  rw [Go.WideShapes.add_plain, Nat.zero_add, World.cell?_alloc_at (w := w) #[v, .int .i64 0] _ w.heap.size j rfl]
  rcases j with _ | _ | j
  · simpa using hj
  · simpa using hj
  · simp at hj
set_option maxRecDepth 100000 in
set_option maxHeartbeats 4000000 in
theorem c_insEnd (A : Option Addr) (n c base : Nat) (xs : List Value) (v : Value) (w : World) (hn : n ≤ 1000) (hb : base ≤ w.heap.size) (hv : v.oneCell' = true) (ho : w.ownsRow base 60 2 (.slice A n c) n xs) :
    Calls Try.prog 92 #[.slice A n c, .int .i64 n, .slice (some ⟨w.heap.size, 0, none⟩) 1 1] (w.alloc (.cells #[v, .int .i64 0] 60)) (INS base A n c n xs v w) := by
  obtain ⟨i0, hi, hz0', hz1', hz2'⟩ := info_parts infoSh
  have hxl : xs.length = n * 2 := ho.1
  have hput : putC xs n v = xs ++ [v, .int .i64 0] := by unfold putC; rw [← hxl, List.take_length, List.drop_length, List.append_nil]
  have ho1 := World.ownsRow.alloc ho (.cells #[v, .int .i64 0] 60)
  have hone : ∀ u ∈ [v, Value.int .i64 0], u.oneCell' = true := fun u hu => by
    simp at hu
    rcases hu with rfl | rfl
    · exact hv
    · rfl
  have hsrc := lit_src w v
  have hz1 : ¬ ((1 : Int) = 0) := by omega
  have hg0 := World.grownBy_alloc w (.cells #[v, .int .i64 0] 60) (Value.slice A n c).ownBlock
  have hsz : w.heap.size ≤ (w.alloc (.cells #[v, .int .i64 0] 60)).heap.size := by simp
  have hnc : n ≤ c := by
    obtain ⟨A', c', he, h⟩ := own_slice' ho
    injection he with _ _ he
    omega
  have hnn : (0 : Int) ≤ (n : Int) := by omega
  clear hxl
  by_cases hcn : c = n
  · subst hcn
    go_enter Try.func92, Try.ntmps92
    generalize w.alloc (.cells #[v, .int .i64 0] 60) = w1 at *
    go_wp2_with (at_builtin; refine wpList_append_own _ rfl (.tmp 23) (.tmp 24) 35 rfl base 60 i0 (.agg #[.slice none 0 0, .int .i64 0]) 2 32 Try.underlying35 hi hz0' hz1' hz2' rfl (by omega) (.slice A c c) c xs rfl ho1 ⟨w.heap.size, 0, none⟩ 1 1 [v, .int .i64 0] rfl rfl hsrc hone (by simp only [maxLen]; omega) (by omega) (by omega) ?_; intro v2 w2 o2 g2 _; obtain ⟨A2, c2, rfl, _⟩ := own_slice' o2)
    go_ret
    exact ⟨A2, c2, rfl, by rw [hput]; exact o2, hg0.trans g2⟩
  · skip
    go_enter Try.func92, Try.ntmps92
    generalize w.alloc (.cells #[v, .int .i64 0] 60) = w1 at *
    go_wp2_with (at_builtin; refine wpList_append_own _ rfl (.tmp 23) (.tmp 24) 35 rfl base 60 i0 (.agg #[.slice none 0 0, .int .i64 0]) 2 32 Try.underlying35 hi hz0' hz1' hz2' rfl (by omega) (.slice A n c) n xs rfl ho1 ⟨w.heap.size, 0, none⟩ 1 1 [v, .int .i64 0] rfl rfl hsrc hone (by simp only [maxLen]; omega) (by omega) (by omega) ?_; intro v2 w2 o2 g2 _; obtain ⟨A2, c2, rfl, _⟩ := own_slice' o2)
    go_ret
    exact ⟨A2, c2, rfl, by rw [hput]; exact o2, hg0.trans g2⟩
theorem szSh (w : World) : (Go.sizeOf 60).run Try.prog w = .ok 2 w := by
  obtain ⟨i0, hi, _, hs, _⟩ := info_parts infoSh
  simp [sizeOf, typeInfo, hi, hs]
theorem sizeSh : (Try.prog.info? 60).map (·.size) = some 2 := by
  obtain ⟨i0, hi, _, hs, _⟩ := info_parts infoSh
  rw [hi]; simp [hs]
theorem row_at {w : World} {base n c g : Nat} {xs : List Value} (ho : w.ownsRow base 60 2 (.slice (some ⟨g, 0, none⟩) n c) n xs) : ∃ cur : Array Value, base ≤ g ∧ w.heap[g]? = some (.cells cur 60 (0, 0)) ∧ n ≤ c ∧ c ≤ maxLen ∧ cur.size = c * 2 ∧ cur.toList.take (n * 2) = xs := by
  rcases ho.2 with ⟨h, _⟩ | ⟨g', cap, cur, hA, h1, h2, h3, h4, h5, h6⟩
  · simp at h
  · simp at hA
    obtain ⟨rfl, rfl⟩ := hA
    exact ⟨cur, h1, h2, h3, h4, h5, h6⟩
set_option maxRecDepth 100000 in
set_option maxHeartbeats 4000000 in
theorem c_insShift (g n c base k : Nat) (xs : List Value) (v : Value) (w : World) (hk : k < n) (hn : n ≤ 1000) (hroom : n + 1 ≤ c) (hv : v.oneCell' = true) (hx1 : ∀ u ∈ xs, u.oneCell' = true) (ho : w.ownsRow base 60 2 (.slice (some ⟨g, 0, none⟩) n c) n xs) :
    Calls Try.prog 92 #[.slice (some ⟨g, 0, none⟩) n c, .int .i64 k, .slice (some ⟨w.heap.size, 0, none⟩) 1 1] (w.alloc (.cells #[v, .int .i64 0] 60)) (INS base (some ⟨g, 0, none⟩) n c k xs v w) := by
  obtain ⟨cur, hbg, hgg, hnc, hcm, hcs, htake⟩ := row_at ho
  have hcm' : c ≤ 9223372036854775807 := by have := hcm; simp only [maxLen] at this; omega
  have hglt : g < w.heap.size := (Array.getElem?_eq_some_iff.1 hgg).1
  have hne : w.heap.size ≠ g := by omega
  have hg1 : (w.alloc (.cells #[v, .int .i64 0] 60)).heap[g]? = some (.cells cur 60 (0, 0)) := (heap_alloc_old w _ hglt).trans hgg
  have hv1 : (w.alloc (.cells #[v, .int .i64 0] 60)).heap[w.heap.size]? = some (.cells #[v, .int .i64 0] 60 (0, 0)) := heap_alloc_new w _
  have hsrc := lit_src w v
  have hone : ∀ u ∈ [v, Value.int .i64 0], u.oneCell' = true := fun u hu => by
    simp at hu
    rcases hu with rfl | rfl
    · exact hv
    · rfl
  have hg0 := World.grownBy_alloc w (.cells #[v, .int .i64 0] 60) (some g)
  have hxl : xs.length = n * 2 := ho.1
  generalize w.alloc (.cells #[v, .int .i64 0] 60) = w1 at *
  have hov : ∀ lb cb, (callFunc 131 #[.slice (some ⟨w.heap.size, 0, none⟩) 1 1, .slice (some ⟨g, (k + 1) * 2, none⟩) lb cb]).run Try.prog w1 = .ok (.value (.bool false)) w1 := fun lb cb => by
    rw [run_callFunc_extern Try.func131 (by kernel_rfl) (by kernel_rfl) (by kernel_rfl) (e := Extern.SlicesOverlaps.overlaps #[35, 35] #[4]) (by kernel_rfl),
      Lib.run_overlaps_apart w1 35 4 60 Try.underlying35 2 szSh ⟨w.heap.size, 0, none⟩ ⟨g, (k + 1) * 2, none⟩ 1 1 lb cb hne 60 60 2 cur.size (by simp [World.shape?, hv1]) (by simp [World.shape?, hg1]) (by omega) (by simp [World.frozen?, hv1]) (by simp [World.frozen?, hv1])]
    rfl
  obtain ⟨hU1, hU2, hU3⟩ := upC_put (v := v) (k := k) (by simpa using hcs) htake (by omega) hroom
  have hcp1 : ∀ ty dc sc, (Builtin.copy_ #[35, 35] ty #[.slice (some ⟨g, (k + 1) * 2, none⟩) (n - k) dc, .slice (some ⟨g, k * 2, none⟩) (n + 1 - k) sc]).run Try.prog w1.drew = .ok (goInt (Nat.min (n + 1 - k) (n - k))) (w1.drew.setRow g (upC cur.toList xs n k).toArray) := fun ty dc sc => by
    have hm : Nat.min (n + 1 - k) (n - k) = n - k := by simp only [Nat.min_def]; split <;> omega
    have h := run_copy_rowK (P := Try.prog) w1.drew 35 35 ty 60 g ((k + 1) * 2) (n - k) dc ⟨g, k * 2, none⟩ (n + 1 - k) sc cur 60 (xs.drop (k * 2)) 2 Try.underlying35 sizeSh hg1 (by rw [hm, List.length_drop, hxl]; omega)
      (fun j u hj => by
        rw [Go.WideShapes.add_plain]
        show w1.cell? ⟨g, k * 2 + j, none⟩ = some u
        rw [cell_of_row w1 g _ cur _ (0, 0) hg1]
        rw [List.getElem?_drop, ← htake, List.getElem?_take] at hj
        split at hj
        · simpa using hj
        · cases hj)
      (by rw [List.length_drop, hxl, hcs]; omega) (fun u hu => hx1 u (List.mem_of_mem_drop hu))
    rw [h]
    congr 2
    unfold upC
    rw [List.length_drop, hxl]
    congr 3
    omega
  obtain ⟨W1, hW1⟩ : ∃ W1, W1 = w1.drew.setRow g (upC cur.toList xs n k).toArray := ⟨_, rfl⟩
  rw [← hW1] at hcp1
  have hgW : W1.heap[g]? = some (.cells (upC cur.toList xs n k).toArray 60 (0, 0)) := by rw [hW1]; exact setRow_heap w1.drew g cur _ _ _ hg1
  have hvW : W1.heap[w.heap.size]? = w1.heap[w.heap.size]? := by rw [hW1]; exact setRow_other w1.drew g _ _ hne
  have hcp2 : ∀ ty dc, (Builtin.copy_ #[35, 35] ty #[.slice (some ⟨g, k * 2, none⟩) (n + 1 - k) dc, .slice (some ⟨w.heap.size, 0, none⟩) 1 1]).run Try.prog W1 = .ok (goInt (Nat.min 1 (n + 1 - k))) (W1.setRow g ((upC cur.toList xs n k).take (k * 2) ++ [v, .int .i64 0] ++ (upC cur.toList xs n k).drop (k * 2 + 2)).toArray) := fun ty dc => by
    have hm : Nat.min 1 (n + 1 - k) = 1 := by simp only [Nat.min_def]; split <;> omega
    have h := run_copy_rowK (P := Try.prog) W1 35 35 ty 60 g (k * 2) (n + 1 - k) dc ⟨w.heap.size, 0, none⟩ 1 1 (upC cur.toList xs n k).toArray 60 [v, .int .i64 0] 2 Try.underlying35 sizeSh hgW (by rw [hm]; rfl)
      (fun j u hj => by
        rw [← hsrc j u hj]
        exact World.cell?_of_block (by rw [Go.WideShapes.add_plain]; exact hvW))
      (by simp [hU3]; omega) hone
    rw [h]
    rfl
  have mixed : Try.prog.follows Departure.mixedOrders = true := by kernel_rfl
  have hkn : k ≤ n := by omega
  have hz1 : ¬ ((1 : Int) = 0) := by omega
  have hz2 : ¬ ((k : Int) = (n : Int)) := by omega
  have hz3 : ¬ ((c : Int) < (n : Int) + 1) := by omega
  have hw1 : IntKind.i64.wrap ((k : Int) + 1) = (k : Int) + 1 := IntWalk.i64_in _ (by omega)
  have hw2 : IntKind.i64.wrap ((n : Int) + 1) = (n : Int) + 1 := IntWalk.i64_in _ (by omega)
  have hb1 : (0 : Int) ≤ (k : Int) + 1 := by omega
  have htn : ((k : Int) + 1).toNat = k + 1 := by omega
  have htn2 : ((n : Int) + 1).toNat = n + 1 := by omega
  have hb2 : ¬ (c = k + 1) := by omega
  have hb3 : (k : Int) ≤ (n : Int) + 1 := by omega
  have hb4 : ¬ (c = k) := by omega
  have hgrown : w.grownBy (W1.setRow g ((upC cur.toList xs n k).take (k * 2) ++ [v, .int .i64 0] ++ (upC cur.toList xs n k).drop (k * 2 + 2)).toArray) (some g) := by
    rw [hW1]
    exact hg0.trans ⟨rfl, rfl, rfl, by simp [World.setRow], fun j hj hne' => by rw [setRow_other _ _ _ _ (fun e => hne' (by rw [e])), setRow_other _ _ _ _ (fun e => hne' (by rw [e]))]; rfl⟩
  have hown : (W1.setRow g ((upC cur.toList xs n k).take (k * 2) ++ [v, .int .i64 0] ++ (upC cur.toList xs n k).drop (k * 2 + 2)).toArray).ownsRow base 60 2 (.slice (some ⟨g, 0, none⟩) (n + 1) c) (n + 1) (putC xs k v) :=
    ⟨putC_len hxl (by omega), .inr ⟨g, c, _, rfl, hbg, setRow_heap W1 g _ _ _ _ hgW, hroom, hcm, by simpa using hU2, by simpa using hU1⟩⟩
  generalize W1.setRow g ((upC cur.toList xs n k).take (k * 2) ++ [v, .int .i64 0] ++ (upC cur.toList xs n k).drop (k * 2 + 2)).toArray = W2 at *
  clear hU1 hU2 hU3 hgW hvW hW1 hsrc hone hg0 hg1 hv1 hcs htake hgg ho hx1 hv hxl hne
  go_enter Try.func92, Try.ntmps92
  go_wp2_with (simp only [hov])
  go_region_law_o (refine step_copy_runI rfl _ _ 35 35 rfl _ _ (by simp [Act.eval, Act.put]) (by simp [Act.eval, Act.put]) (hcp1 _ _ _) ?_)
  go_wp2_with (at_builtin; refine wpList_copy_runI _ rfl _ _ 35 35 rfl _ _ rfl rfl (hcp2 _ _) ?_)
  go_ret
  exact ⟨_, _, rfl, hown, hgrown⟩
set_option maxRecDepth 100000 in
set_option maxHeartbeats 4000000 in
theorem c_insGrow (g n c base k : Nat) (xs : List Value) (v : Value) (w : World) (hk : k < n) (hn : n ≤ 1000) (hroom : c < n + 1) (hb : base ≤ w.heap.size) (hv : v.oneCell' = true) (hx1 : ∀ u ∈ xs, u.oneCell' = true) (ho : w.ownsRow base 60 2 (.slice (some ⟨g, 0, none⟩) n c) n xs) :
    Calls Try.prog 92 #[.slice (some ⟨g, 0, none⟩) n c, .int .i64 k, .slice (some ⟨w.heap.size, 0, none⟩) 1 1] (w.alloc (.cells #[v, .int .i64 0] 60)) (INS base (some ⟨g, 0, none⟩) n c k xs v w) := by
  obtain ⟨cur, hbg, hgg, hnc, hcm, hcs, htake⟩ := row_at ho
  have hcn : c = n := by omega
  subst hcn
  have hglt : g < w.heap.size := (Array.getElem?_eq_some_iff.1 hgg).1
  have hg1 : (w.alloc (.cells #[v, .int .i64 0] 60)).heap[g]? = some (.cells cur 60 (0, 0)) := (heap_alloc_old w _ hglt).trans hgg
  have hsz1 : (w.alloc (.cells #[v, .int .i64 0] 60)).heap.size = w.heap.size + 1 := World.size_alloc _ _
  have hsrc := lit_src w v
  have hone : ∀ u ∈ [v, Value.int .i64 0], u.oneCell' = true := fun u hu => by
    simp at hu
    rcases hu with rfl | rfl
    · exact hv
    · rfl
  have hg0 := World.grownBy_alloc w (.cells #[v, .int .i64 0] 60) (some g)
  have hxl : xs.length = c * 2 := ho.1
  generalize w.alloc (.cells #[v, .int .i64 0] 60) = w1 at *
  have hcell1 : ∀ j u, xs[j]? = some u → w1.cell? ⟨g, j, none⟩ = some u := fun j u hj => by
    rw [cell_of_row w1 g j cur _ (0, 0) hg1]
    rw [← htake, List.getElem?_take] at hj
    split at hj
    · simpa using hj
    · cases hj
  obtain ⟨i0, hi, hz0', hz1', hz2'⟩ := info_parts infoSh
  have hkk : (c : Int) + 1 - (k : Int) = ((c + 1 - k : Nat) : Int) := by omega
  have hik : k + (c + 1 - k) = c + 1 := by omega
  have hold : (Builtin.firstCells i0.size k (.slice (some ⟨g, 0, none⟩) k c)).run Try.prog w1.drew = .ok (xs.take (k * 2)).toArray w1.drew := by
    rw [hz1']
    exact run_firstCells_some w1.drew 2 k ⟨g, 0, none⟩ k c (xs.take (k * 2)) (by rw [List.length_take, hxl]; omega) (fun j u hj => by
      rw [Go.WideShapes.add_plain, Nat.zero_add]
      rw [List.getElem?_take] at hj
      split at hj
      · exact hcell1 j u hj
      · cases hj)
  obtain ⟨G, hG⟩ : ∃ G, G = grownCap w1 (c + 1) c 60 := ⟨_, rfl⟩
  obtain ⟨ROW, hROW⟩ : ∃ ROW : Array Value, ROW = (xs.take (k * 2)).toArray ++ Builtin.zeroCells (Value.agg #[.slice none 0 0, .int .i64 0]).cells (c + 1 - k) ++ Builtin.zeroCells (Value.agg #[.slice none 0 0, .int .i64 0]).cells (G - (c + 1)) := ⟨_, rfl⟩
  have hGn : c + 1 ≤ G := by rw [hG]; exact grownCap_ge w1 _ _ _
  have hGm : G ≤ maxLen := by rw [hG]; exact grownCap_le_maxLen w1 (c + 1) c _ (by unfold maxLen; omega)
  have hG63 : G ≤ 9223372036854775807 := by simp only [maxLen] at hGm; omega
  have hRl : ROW.size = G * 2 := by
    rw [hROW]
    simp only [Array.size_append, List.size_toArray, size_zeroCells, List.length_take, hxl]
    rw [show (Value.agg #[.slice none 0 0, .int .i64 0]).cells.size = 2 from rfl]
    omega
  have hrz : ∀ ty, (Builtin.append_ #[35, 3] ty #[.slice (some ⟨g, 0, none⟩) k c, .int .i64 ((c : Int) + 1 - (k : Int))]).run Try.prog w1 =
      .ok (.slice (some ⟨w1.heap.size, 0, none⟩) (c + 1) G) (w1.drew.alloc (.cells ROW 60)) := fun ty => by
    have h := Lib.run_append_grow_zeros w1 35 3 ty 60 i0 _ .i64 .i64 Try.underlying35 Try.underlying3 hi hz0' (some ⟨g, 0, none⟩) k c (xs.take (k * 2)) hold (c + 1 - k) (by omega) (by omega) (by omega) (by omega) (by rw [hz2']; omega) (by rw [hz2', hik]; exact growslice_fits (by omega) (by omega))
    rw [hik, ← hG, ← hROW] at h
    rw [hkk]
    exact h
  obtain ⟨W1, hW1⟩ : ∃ W1, W1 = (w1.alloc (.cells ROW 60)).drew := ⟨_, rfl⟩
  have hgW : W1.heap[w1.heap.size]? = some (.cells ROW 60 (0, 0)) := by rw [hW1]; exact heap_alloc_new w1 _
  have hold1 : ∀ b, b < w1.heap.size → W1.heap[b]? = w1.heap[b]? := fun b hb' => by rw [hW1]; exact heap_alloc_old w1 _ hb'
  have hvlt : w.heap.size < w1.heap.size := by omega
  have hglt1 : g < w1.heap.size := by omega
  obtain ⟨R1, hR1⟩ : ∃ R1, R1 = (ROW.toList.take (k * 2) ++ [v, .int .i64 0] ++ ROW.toList.drop (k * 2 + 2)).toArray := ⟨_, rfl⟩
  have hR1l : R1.size = G * 2 := by
    rw [hR1]
    simp only [List.size_toArray, List.length_append, List.length_take, List.length_drop, List.length_cons, List.length_nil, Array.length_toList, hRl]
    omega
  have hcpA : ∀ ty dc, (Builtin.copy_ #[35, 35] ty #[.slice (some ⟨w1.heap.size, k * 2, none⟩) (c + 1 - k) dc, .slice (some ⟨w.heap.size, 0, none⟩) 1 1]).run Try.prog W1 = .ok (goInt (Nat.min 1 (c + 1 - k))) (W1.setRow w1.heap.size R1) := fun ty dc => by
    have hm : Nat.min 1 (c + 1 - k) = 1 := by simp only [Nat.min_def]; split <;> omega
    have h := run_copy_rowK (P := Try.prog) W1 35 35 ty 60 w1.heap.size (k * 2) (c + 1 - k) dc ⟨w.heap.size, 0, none⟩ 1 1 ROW 60 [v, .int .i64 0] 2 Try.underlying35 sizeSh hgW (by rw [hm]; rfl)
      (fun j u hj => by
        rw [← hsrc j u hj]
        exact World.cell?_of_block (by rw [Go.WideShapes.add_plain]; exact hold1 _ hvlt))
      (by simp [hRl]; omega) hone
    rw [h, hR1]
    rfl
  obtain ⟨W2, hW2⟩ : ∃ W2, W2 = (W1.setRow w1.heap.size R1).drew := ⟨_, rfl⟩
  have hgW2 : W2.heap[w1.heap.size]? = some (.cells R1 60 (0, 0)) := by rw [hW2]; exact setRow_heap W1 _ _ _ _ _ hgW
  have hold2 : ∀ b, b < w1.heap.size → W2.heap[b]? = w1.heap[b]? := fun b hb' => by rw [hW2]; exact (setRow_other W1 _ _ _ (by omega)).trans (hold1 b hb')
  obtain ⟨R2, hR2⟩ : ∃ R2, R2 = (R1.toList.take ((k + 1) * 2) ++ xs.drop (k * 2) ++ R1.toList.drop ((k + 1) * 2 + (xs.drop (k * 2)).length)).toArray := ⟨_, rfl⟩
  have hcpB : ∀ ty dc sc, (Builtin.copy_ #[35, 35] ty #[.slice (some ⟨w1.heap.size, (k + 1) * 2, none⟩) (c - k) dc, .slice (some ⟨g, k * 2, none⟩) (c - k) sc]).run Try.prog W2 = .ok (goInt (Nat.min (c - k) (c - k))) (W2.setRow w1.heap.size R2) := fun ty dc sc => by
    have hm : Nat.min (c - k) (c - k) = c - k := by simp only [Nat.min_def]; split <;> omega
    have h := run_copy_rowK (P := Try.prog) W2 35 35 ty 60 w1.heap.size ((k + 1) * 2) (c - k) dc ⟨g, k * 2, none⟩ (c - k) sc R1 60 (xs.drop (k * 2)) 2 Try.underlying35 sizeSh hgW2 (by rw [hm, List.length_drop, hxl]; omega)
      (fun j u hj => by
        rw [Go.WideShapes.add_plain]
        rw [List.getElem?_drop] at hj
        rw [← hcell1 _ u hj]
        exact World.cell?_of_block (hold2 g hglt1))
      (by rw [List.length_drop, hxl, hR1l]; omega) (fun u hu => hx1 u (List.mem_of_mem_drop hu))
    rw [h, hR2]
  have hR2t : R2.toList.take ((c + 1) * 2) = putC xs k v ∧ R2.size = G * 2 := by
    have e1 : R1.toList.take ((k + 1) * 2) = xs.take (k * 2) ++ [v, .int .i64 0] := by
      rw [hR1, List.toList_toArray, List.take_append_of_le_length (by simp only [List.length_append, List.length_take, List.length_cons, List.length_nil, Array.length_toList, hRl]; omega), List.take_of_length_le (by simp only [List.length_append, List.length_take, List.length_cons, List.length_nil, Array.length_toList, hRl]; omega)]
      congr 1
      rw [hROW]
      simp only [Array.toList_append, List.append_assoc]
      rw [List.take_append_of_le_length (by simp only [List.length_take, hxl]; omega), List.take_of_length_le (by simp only [List.length_take, hxl]; omega)]
    refine ⟨?_, ?_⟩
    · rw [hR2, List.toList_toArray, e1, List.take_append_of_le_length (by simp only [List.length_append, List.length_take, List.length_drop, List.length_cons, List.length_nil, hxl]; omega), List.take_of_length_le (by simp only [List.length_append, List.length_take, List.length_drop, List.length_cons, List.length_nil, hxl]; omega)]
      rfl
    · rw [hR2]
      simp only [List.size_toArray, List.length_append, List.length_take, List.length_drop, Array.length_toList, hR1l, hxl]
      omega
  have hown : (W2.setRow w1.heap.size R2).ownsRow base 60 2 (.slice (some ⟨w1.heap.size, 0, none⟩) (c + 1) G) (c + 1) (putC xs k v) :=
    ⟨putC_len hxl (by omega), .inr ⟨w1.heap.size, G, R2, rfl, by omega, setRow_heap W2 _ _ _ _ _ hgW2, hGn, hGm, hR2t.2, hR2t.1⟩⟩
  have hs1 : ∀ (W : World) g cs, (W.setRow g cs).heap.size = W.heap.size := fun W g cs => by simp [World.setRow]
  have hgrown : w.grownBy (W2.setRow w1.heap.size R2) (some g) := by
    refine hg0.trans ⟨?_, ?_, ?_, ?_, fun j hj _ => ?_⟩
    · rw [hW2, hW1]; rfl
    · rw [hW2, hW1]; rfl
    · rw [hW2, hW1]; rfl
    · rw [hW2, hs1]
      show w1.heap.size ≤ (W1.setRow w1.heap.size R1).heap.size
      rw [hs1, hW1]
      show w1.heap.size ≤ (w1.alloc (.cells ROW 60)).heap.size
      rw [World.size_alloc]
      exact Nat.le_succ _
    · rw [setRow_other _ _ _ _ (by omega)]; exact hold2 j hj
  subst hW1
  generalize hX : ((w1.alloc (.cells ROW 60)).drew).setRow w1.heap.size R1 = X at *
  subst hW2
  generalize X.drew.setRow w1.heap.size R2 = Y at *
  have mixed : Try.prog.follows Departure.mixedOrders = true := by kernel_rfl
  have hkn : k ≤ c := by omega
  have hz1 : ¬ ((1 : Int) = 0) := by omega
  have hz2 : ¬ ((k : Int) = (c : Int)) := by omega
  have hz3 : (c : Int) < (c : Int) + 1 := by omega
  have hw1 : IntKind.i64.wrap ((k : Int) + 1) = (k : Int) + 1 := IntWalk.i64_in _ (by omega)
  have hw2 : IntKind.i64.wrap ((c : Int) + 1) = (c : Int) + 1 := IntWalk.i64_in _ (by omega)
  have hw3 : IntKind.i64.wrap ((c : Int) + 1 - (k : Int)) = (c : Int) + 1 - (k : Int) := IntWalk.i64_in _ (by omega)
  have hb1 : (0 : Int) ≤ (k : Int) + 1 := by omega
  have htn : ((k : Int) + 1).toNat = k + 1 := by omega
  have htn2 : ((c : Int) + 1).toNat = c + 1 := by omega
  have hb3 : (k : Int) ≤ (c : Int) + 1 := by omega
  have hGi : ¬ (G = k) := by omega
  have hGim : ¬ (G = k + 1) := by omega
  have hci : ¬ (c = k) := by omega
  clear hkk hik hold hROW hG hRl hR1 hR1l hR2 hR2t hgW hgW2 hold1 hold2 hcell1 hsrc hone hg0 hg1 hgg hcs htake ho hx1 hv hxl hroom hsz1
  go_enter Try.func92, Try.ntmps92
  go_wp2_with (first
    | (at_builtin; refine Lib.wpList_append_run _ rfl _ _ _ _ rfl _ _ rfl rfl _ _ (hrz _) ?_)
    | (at_builtin; refine wpList_copy_runI _ rfl _ _ 35 35 rfl _ _ rfl rfl (hcpA _ _) ?_))
  go_region_law_o (refine step_copy_runI rfl _ _ 35 35 rfl _ _ (by simp [Act.eval, Act.put]) (by simp [Act.eval, Act.put]) (hcpB _ _ _) ?_)
  go_wp2
  go_ret
  exact ⟨_, _, rfl, hown, hgrown⟩
end Go.Proofs.Ytglijcdnnaekkaa
