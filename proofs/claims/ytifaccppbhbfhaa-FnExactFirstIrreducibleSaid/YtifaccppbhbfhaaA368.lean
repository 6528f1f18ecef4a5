/- Contract: one more factor put into a list that is in order, by the reference. -/
import Derived.Test.YtifaccppbhbfhaaA367
import Derived.Test.YtifaccppbhbfhaaA266
namespace Go.Proofs.Ytifaccppbhbfhaa
set_option linter.unusedVariables false
set_option linter.unusedSimpArgs false
open Go.RowKit

def shC : List Value → List Int → List Value
  | v :: vs, c :: cs => v :: .int .i64 c :: shC vs cs
  | _, _ => []
theorem shC_len : ∀ {vs : List Value} {cs : List Int}, vs.length = cs.length → (shC vs cs).length = vs.length * 2
  | [], [], _ => rfl
  | v :: vs, c :: cs, h => by simp [shC, shC_len (vs := vs) (cs := cs) (by simpa using h)]; omega
  | [], _ :: _, h => by simp at h
  | _ :: _, [], h => by simp at h
theorem shC_at : ∀ {vs : List Value} {cs : List Int} {k : Nat}, vs.length = cs.length → k < vs.length → (shC vs cs)[k * 2]? = some (gv vs k) ∧ (shC vs cs)[k * 2 + 1]? = some (.int .i64 (gt cs k))
  | [], _, _, _, h => by simp at h
  | v :: vs, [], _, h, _ => by simp at h
  | v :: vs, c :: cs, 0, _, _ => ⟨rfl, rfl⟩
  | v :: vs, c :: cs, k + 1, h, hk => by
    have := shC_at (vs := vs) (cs := cs) (k := k) (by simpa using h) (by simpa using hk)
    rw [show (k + 1) * 2 = k * 2 + 1 + 1 by omega]
    refine ⟨?_, ?_⟩
    · show (shC vs cs)[k * 2]? = _
      rw [this.1]; simp [gv]
    · show (shC vs cs)[k * 2 + 1]? = _
      rw [this.2]; simp [gt]
theorem shC_take : ∀ {vs : List Value} {cs : List Int} (k : Nat), (shC vs cs).take (k * 2) = shC (vs.take k) (cs.take k)
  | [], _, k => by simp [shC]
  | v :: vs, [], k => by cases k <;> simp [shC]
  | v :: vs, c :: cs, 0 => by simp [shC]
  | v :: vs, c :: cs, k + 1 => by
    rw [show (k + 1) * 2 = k * 2 + 1 + 1 by omega]
    simp [shC, shC_take (vs := vs) (cs := cs) k]
theorem shC_nil (vs : List Value) : shC vs [] = [] := by cases vs <;> rfl
theorem shC_drop : ∀ {vs : List Value} {cs : List Int} (k : Nat), (shC vs cs).drop (k * 2) = shC (vs.drop k) (cs.drop k)
  | [], _, k => by simp [shC]
  | v :: vs, [], k => by simp [shC_nil]
  | v :: vs, c :: cs, 0 => by simp
  | v :: vs, c :: cs, k + 1 => by
    rw [show (k + 1) * 2 = k * 2 + 1 + 1 by omega]
    simp [shC, shC_drop (vs := vs) (cs := cs) k]
theorem shC_app : ∀ {v1 v2 : List Value} {c1 c2 : List Int}, v1.length = c1.length → shC (v1 ++ v2) (c1 ++ c2) = shC v1 c1 ++ shC v2 c2
  | [], _, [], _, _ => rfl
  | v :: v1, v2, c :: c1, c2, h => by simp [shC, shC_app (v1 := v1) (v2 := v2) (c1 := c1) (c2 := c2) (by simpa using h)]
  | [], _, _ :: _, _, h => by simp at h
  | _ :: _, _, [], _, h => by simp at h
theorem shC_one {vs : List Value} : ∀ {cs : List Int}, (∀ v ∈ vs, v.oneCell' = true) → ∀ u ∈ shC vs cs, u.oneCell' = true := by
  induction vs with
  | nil => intro cs _ u hu; simp [shC] at hu
  | cons v vs ih =>
    intro cs h u hu
    cases cs with
    | nil => simp [shC] at hu
    | cons c cs =>
      simp only [shC, List.mem_cons] at hu
      rcases hu with rfl | rfl | hu
      · exact h _ (by simp)
      · rfl
      · exact ih (fun v hv => h v (by simp [hv])) u hu
theorem put1 {vs : List Value} {cs : List Int} {v : Value} {k : Nat} (hl : vs.length = cs.length) (hk : k ≤ vs.length) (x : Int) : (shC vs cs).take (k * 2) ++ [v, .int .i64 x] ++ (shC vs cs).drop (k * 2) = shC (vs.take k ++ [v] ++ vs.drop k) (cs.take k ++ [x] ++ cs.drop k) := by
  rw [shC_take, shC_drop, shC_app (by simp; omega), shC_app (by simp; omega)]
  rfl
theorem infoFa : (Try.prog.info? 36).map (fun i => (i.zero, i.size, i.bytes)) = some (some (.agg #[.slice none 0 0, .int .i64 0]), 2, 32) := by kernel_rfl
theorem sh_one (w : World) (v : Value) (x : Int) : ∀ j u, [v, Value.int .i64 x][j]? = some u → (w.alloc (.cells #[v, .int .i64 x] 36)).cell? ((⟨w.heap.size, 0, none⟩ : Addr).add j) = some u := fun j u hj => by
  rw [Go.WideShapes.add_plain, Nat.zero_add, World.cell?_alloc_at (w := w) #[v, .int .i64 x] _ w.heap.size j rfl]
  rcases j with _ | _ | j
  · simpa using hj
  · simpa using hj
  · simp at hj
theorem sh_nilT (w : World) (base : Nat) (h : base ≤ w.heap.size) : (w.alloc (.cells #[] 36)).ownsRow base 36 2 (.slice (some ⟨w.heap.size, 0, none⟩) 0 0) 0 [] :=
  World.ownsRow_lit (base := base) w #[] 0 h (by simp [maxLen]) rfl
theorem sh_nil1 (w : World) (cs : Array Value) : ((w.drew.alloc (.cells cs 36)).alloc (.cells #[] 36)).ownsRow w.heap.size 36 2 (.slice (some ⟨w.heap.size + 1, 0, none⟩) 0 0) 0 [] := by
  have h := sh_nilT (w.drew.alloc (.cells cs 36)) w.heap.size (by simp)
  rwa [World.size_alloc] at h
theorem sh_keep2 {w w7 : World} {v : Value} {x : Int} (hg : ((w.drew.alloc (.cells #[] 36)).alloc (.cells #[v, .int .i64 x] 36)).grownBy w7 (Value.slice (some ⟨w.heap.size, 0, none⟩) 0 0).ownBlock) : ∀ j u, [v, Value.int .i64 x][j]? = some u → w7.cell? ((⟨w.heap.size + 1, 0, none⟩ : Addr).add j) = some u := fun j u hj => by
  have h := sh_one (w.drew.alloc (.cells #[] 36)) v x j u hj
  rw [World.size_alloc] at h
  rw [Go.WideShapes.add_plain] at h ⊢
  exact hg.cell h (by simp [Value.ownBlock])
theorem sh_keep1 {w w7 : World} {v : Value} {x : Int} (hg : ((w.drew.alloc (.cells #[v, .int .i64 x] 36)).alloc (.cells #[] 36)).grownBy w7 (Value.slice (some ⟨w.heap.size + 1, 0, none⟩) 0 0).ownBlock) : ∀ j u, [v, Value.int .i64 x][j]? = some u → w7.cell? ((⟨w.heap.size, 0, none⟩ : Addr).add j) = some u := fun j u hj => by
  have h := sh_one w.drew v x j u hj
  rw [Go.WideShapes.add_plain] at h ⊢
  have h2 : ((w.drew.alloc (.cells #[v, .int .i64 x] 36)).alloc (.cells #[] 36)).cell? ⟨w.heap.size, 0 + j, none⟩ = some u := (World.cell?_alloc_past (w := w.drew.alloc (.cells #[v, .int .i64 x] 36)) _ w.heap.size (0 + j) (by simp)).trans h
  exact hg.cell h2 (by simp [Value.ownBlock])
/-- What the putting in answers. -/
def PUTR (w : World) (vs : List Value) (cs : List Int) (ll : List (List Int)) (f : List Int) (v : Value) (tm : Int) (m : Nat) (e : Ending) (w' : World) : Prop :=
  ∃ a g9 c9 : Nat, a ≤ m ∧ (∀ i, i < a → cmpPol (gl ll i) f < 0) ∧ (a < m → 0 ≤ cmpPol (gl ll a) f) ∧ e = .returned (.slice (some ⟨g9, 0, none⟩) (m + 1) c9) ∧ w'.ownsRow w.heap.size 36 2 (.slice (some ⟨g9, 0, none⟩) (m + 1) c9) (m + 1) (shC (vs.take a ++ [v] ++ vs.drop a) (cs.take a ++ [tm] ++ cs.drop a)) ∧ Below w.heap.size w w'
set_option maxRecDepth 20000 in
set_option maxHeartbeats 8000000 in
theorem s_put (g m c3 tl ct : Nat) (At : Option Addr) (vs : List Value) (cs : List Int) (ll : List (List Int)) (f : List Int) (tm : Int) (w : World) (hm : m = ll.length) (hcl : cs.length = m) (hml : m ≤ 100) (htl : tl = f.length) (hfl : tl ≤ 100) (hll : ∀ i, i < m → (gl ll i).length ≤ 100)
    (ho : w.ownsRow 0 36 2 (.slice (some ⟨g, 0, none⟩) m c3) m (shC vs cs)) (hr : RR w vs ll) (hf : w.ownsRow 0 2 1 (.slice At tl ct) tl (ints f)) :
    Calls Try.prog 71 #[.slice (some ⟨g, 0, none⟩) m c3, .slice At tl ct, .int .i64 tm] w (PUTR w vs cs ll f (.slice At tl ct) tm m) := by
  obtain ⟨i0, hi, hy0, hy1, hy2⟩ := info_parts infoFa
  have HM := Lib.hid hm
  have HTL := Lib.hid htl
  have HLL := Lib.hid hll
  clear hm htl hll
  go_enter Try.func71, Try.ntmps71
  go_wp2_with (fail)
  go_loopw [7] (fun u wr => ∃ t : Nat, t ≤ m ∧ u = .int .i64 (t : Int) ∧ Hid (∀ i, i < t → cmpPol (gl ll i) f < 0) ∧ ∃ q, wr = w.drewN q) (fun u _ => m - (intOf u).toNat)
  case atStart => exact ⟨0, Nat.zero_le _, rfl, fun i hi => by omega, 0, rfl⟩
  case round =>
  obtain ⟨t, ht, rfl, HPRE, q, rfl⟩ := hrel
  by_cases hlt : t < m
  · obtain ⟨A1, c1, hv1, ha1⟩ := hr.2 t (by rw [← HM.out]; exact hlt)
    have hvl : vs.length = m := hr.1.trans HM.out.symm
    obtain ⟨z1, z2⟩ := shC_at (vs := vs) (cs := cs) (k := t) (by omega) (by omega)
    have hgv : gv vs t = .slice A1 (gl ll t).length c1 := by
      unfold gv
      rw [List.getD_eq_getElem?_getD, hv1]; rfl
    rw [hgv] at z1
    have e1 := own_hsrc (own_below ho (below_drewN (Below.refl _ _) q)) ⟨g, 0, none⟩ rfl (t * 2) _ z1
    rw [Go.WideShapes.add_plain, Nat.zero_add] at e1
    have hcmp := fun W (h1 : IS W W.heap.size A1 (gl ll t)) (h2 : IS W W.heap.size At f) => s_l09Compare A1 At (gl ll t).length c1 tl ct (gl ll t) f W _ _ rfl HTL.out (by have := HLL.out t hlt; omega) (by omega) h1 h2
    have hc := hcmp (w.drewN q) (ha1.drewN q).is (own_isn hf HTL.out)
    clear hcmp z1 z2 hgv hv1
    by_cases hneg : cmpPol (gl ll t) f < 0
    · have HP2 : Hid (∀ i, i < t + 1 → cmpPol (gl ll i) f < 0) := fun i hi => by
        by_cases e : i = t
        · rw [e]; exact hneg
        · exact HPRE.out i (by omega)
      generalize cmpPol (gl ll t) f = cv at *
      generalize (gl ll t).length = nn at *
      go_wp2_with (go_at_call 86; refine hc.mono ?_; clear hc; rintro e w5 ⟨rfl, q5, rfl⟩)
      go_roundw
      case rel => exact ⟨t + 1, by omega, by go_num, HP2, _, rfl⟩
      case measure => simp [intOf]; omega
    · have HPOST : Hid (t < m → 0 ≤ cmpPol (gl ll t) f) := fun _ => by omega
      have hneg2 : ¬ cmpPol (gl ll t) f < 0 := hneg
      generalize hcv : cmpPol (gl ll t) f = cv at hc hneg2
      clear hneg hcv
      generalize (gl ll t).length = nn at *
      go_wp2_with (go_at_call 86; refine hc.mono ?_; clear hc; rintro e w5 ⟨rfl, q5, rfl⟩)
      have hbz := below_drewN (Below.refl w.heap.size w) (q + q5)
      clear e1 ha1
      generalize hwz : w.drewN (q + q5) = wz at *
      clear hwz
      have hoT : wz.ownsRow 0 36 2 (.slice (some ⟨g, 0, none⟩) m c3) m (shC vs cs) := own_below ho hbz
      have hrT := hr.call hbz
      have hvl : vs.length = m := hrT.1.trans HM.out.symm
      have HFIN := Lib.hid (show ∀ g9 c9 w9, w9.ownsRow wz.heap.size 36 2 (.slice (some ⟨g9, 0, none⟩) (m + 1) c9) (m + 1) ((shC vs cs).take (t * 2) ++ [.slice At tl ct, .int .i64 tm] ++ (shC vs cs).drop (t * 2)) → Below wz.heap.size wz w9 → PUTR w vs cs ll f (.slice At tl ct) tm m (.returned (.slice (some ⟨g9, 0, none⟩) (m + 1) c9)) w9 from fun g9 c9 w9 ho9 hb9 => by
        rw [put1 (by omega) (by omega)] at ho9
        exact ⟨t, g9, c9, ht, HPRE.out, HPOST.out, rfl, own_mono ho9 hbz.size, bel_call hbz hb9⟩)
      have HONE := Lib.hid (shC_one (cs := cs) hrT.one)
      have hcap : m ≤ c3 := by
        obtain ⟨A', c', he, h⟩ := own_slice' hoT
        injection he with _ _ he
        omega
      have hxl : (shC vs cs).length = m * 2 := hoT.1
      generalize hX : shC vs cs = xs at *
      have HTK := Lib.hid (show (xs.take (t * 2)).length = t * 2 by rw [List.length_take, hxl]; omega)
      have HDP := Lib.hid (show (xs.drop (t * 2)).length = (m - t) * 2 by rw [List.length_drop, hxl]; omega)
      have hsB : ∀ W : World, Below wz.heap.size wz W → ∀ j u, xs[j]? = some u → W.cell? ⟨g, j, none⟩ = some u := fun W hW j u hj => by
        have h9 := World.ownsRow.cells (own_below hoT hW) (g := g) rfl j u hj
        rw [Go.WideShapes.add_plain] at h9
        simpa using h9
      have hs1 : ∀ W : World, Below wz.heap.size wz W → ∀ j u, (xs.take (t * 2))[j]? = some u → W.cell? ((⟨g, 0, none⟩ : Addr).add j) = some u := fun W hW j u hj => by
        rw [Go.WideShapes.add_plain, Nat.zero_add]
        rw [List.getElem?_take] at hj
        split at hj
        · exact hsB W hW j u hj
        · cases hj
      have p1 : t ≤ c3 := by omega
      have p2 : (t : Int) ≤ (c3 : Int) := by omega
      have p3 : (t : Int) ≤ (m : Int) := by omega
      have hmx : m + 1 ≤ maxLen := by simp only [maxLen]; omega
      clear hrT hX hxl hvl ho hr hbz
      by_cases hca : c3 = t
      ·
        exfalso; omega
      · have hs3 : ∀ W : World, Below wz.heap.size wz W → ∀ j u, (xs.drop (t * 2))[j]? = some u → W.cell? ((⟨g, t * 2, none⟩ : Addr).add j) = some u := fun W hW j u hj => by
          rw [Go.WideShapes.add_plain]
          rw [List.getElem?_drop] at hj
          exact hsB W hW (t * 2 + j) u hj
        clear hsB hoT
        go_region_law
          (first
            | ((refine step_append_own (by rfl) (.tmp 33) (.tmp 36) 37 (by rfl) wz.heap.size 36 i0 (.agg #[.slice none 0 0, .int .i64 0]) 2 32 Try.underlying37 hi hy0 hy1 hy2 rfl (by omega) v8 (t + 1) (xs.take (t * 2) ++ [.slice At tl ct, .int .i64 tm]) (by rfl) hown8 ⟨g, t * 2, none⟩ (m - t) (c3 - t) (xs.drop (t * 2)) (by rfl) HDP.out (hs3 _ hb8) (fun u hu => HONE.out u (List.mem_of_mem_drop hu)) (by have := hmx; omega) (by omega) hb8.size ?_; intro v9 w9 hown9 hg9 hat9; have hb9 := hb8.grown hg9 hb8.size (fun g' hg' => (hown8.lt g' hg').1)))
            | ((refine step_append_own (by rfl) (.tmp 28) (.tmp 32) 37 (by rfl) wz.heap.size 36 i0 (.agg #[.slice none 0 0, .int .i64 0]) 2 32 Try.underlying37 hi hy0 hy1 hy2 rfl (by omega) v7 t (xs.take (t * 2)) (by rfl) (World.ownsRow.alloc hown7 _) ⟨w7.heap.size, 0, none⟩ 1 1 [.slice At tl ct, .int .i64 tm] (by rfl) (by rfl) (fun j u hj => sh_one w7 (.slice At tl ct) tm j u hj) (by intro u hu; simp at hu; rcases hu with rfl | rfl <;> rfl) (by have := hmx; omega) (by omega) (by have := hb7.size; simp; omega) ?_; intro v8 w8 hown8 hg8 hat8; have hb8 := (hb7.alloc hb7.size _).grown hg8 (by have := hb7.size; simp; omega) (fun g' hg' => (hown7.lt g' hg').1)))
            | ((refine step_append_own (by rfl) (.tmp 28) (.tmp 32) 37 (by rfl) wz.heap.size 36 i0 (.agg #[.slice none 0 0, .int .i64 0]) 2 32 Try.underlying37 hi hy0 hy1 hy2 rfl (by omega) v7 t (xs.take (t * 2)) (by rfl) hown7 ⟨wz.heap.size + 1, 0, none⟩ 1 1 [.slice At tl ct, .int .i64 tm] (by rfl) (by rfl) hX7 (by intro u hu; simp at hu; rcases hu with rfl | rfl <;> rfl) (by have := hmx; omega) (by omega) hb7.size ?_; intro v8 w8 hown8 hg8 hat8; have hb8 := hb7.grown hg8 hb7.size (fun g' hg' => (hown7.lt g' hg').1)))
            | ((refine step_append_own (by rfl) (.tmp 28) (.tmp 32) 37 (by rfl) wz.heap.size 36 i0 (.agg #[.slice none 0 0, .int .i64 0]) 2 32 Try.underlying37 hi hy0 hy1 hy2 rfl (by omega) v7 t (xs.take (t * 2)) (by rfl) hown7 ⟨wz.heap.size, 0, none⟩ 1 1 [.slice At tl ct, .int .i64 tm] (by rfl) (by rfl) hX7 (by intro u hu; simp at hu; rcases hu with rfl | rfl <;> rfl) (by have := hmx; omega) (by omega) hb7.size ?_; intro v8 w8 hown8 hg8 hat8; have hb8 := hb7.grown hg8 hb7.size (fun g' hg' => (hown7.lt g' hg').1)))
            | ((refine step_append_own (by rfl) (.tmp 24) (.tmp 27) 37 (by rfl) wz.heap.size 36 i0 (.agg #[.slice none 0 0, .int .i64 0]) 2 32 Try.underlying37 hi hy0 hy1 hy2 rfl (by omega) (.slice (some ⟨wz.heap.size, 0, none⟩) 0 0) 0 [] (by rfl) (sh_nilT wz.drew wz.heap.size (Nat.le_refl _)) ⟨g, 0, none⟩ t c3 (xs.take (t * 2)) (by rfl) HTK.out (hs1 _ ((Below.refl _ _).drew.alloc (Nat.le_refl _) _)) (fun u hu => HONE.out u (List.mem_of_mem_take hu)) (by have := hmx; omega) (by omega) (by simp; try omega) ?_; intro v7 w7 hown7 hg7 hat7; have hb7 := ((Below.refl wz.heap.size wz).drew.alloc (Nat.le_refl _) _).grown hg7 (by simp; try omega) (fun g' hg' => (by simp [Value.ownBlock] at hg'; omega)); rw [Nat.zero_add, List.nil_append] at hown7))
            | ((refine step_append_own (by rfl) (.tmp 24) (.tmp 27) 37 (by rfl) wz.heap.size 36 i0 (.agg #[.slice none 0 0, .int .i64 0]) 2 32 Try.underlying37 hi hy0 hy1 hy2 rfl (by omega) (.slice (some ⟨wz.heap.size, 0, none⟩) 0 0) 0 [] (by rfl) (World.ownsRow.alloc (sh_nilT wz.drew wz.heap.size (Nat.le_refl _)) _) ⟨g, 0, none⟩ t c3 (xs.take (t * 2)) (by rfl) HTK.out (hs1 _ (((Below.refl _ _).drew.alloc (Nat.le_refl _) _).alloc (by simp) _)) (fun u hu => HONE.out u (List.mem_of_mem_take hu)) (by have := hmx; omega) (by omega) (by simp; try omega) ?_; intro v7 w7 hown7 hg7 hat7; have hb7 := (((Below.refl wz.heap.size wz).drew.alloc (Nat.le_refl _) _).alloc (by simp) _).grown hg7 (by simp; try omega) (fun g' hg' => (by simp [Value.ownBlock] at hg'; omega)); have hX7 := sh_keep2 hg7; rw [Nat.zero_add, List.nil_append] at hown7))
            | ((refine step_append_own (by rfl) (.tmp 24) (.tmp 27) 37 (by rfl) wz.heap.size 36 i0 (.agg #[.slice none 0 0, .int .i64 0]) 2 32 Try.underlying37 hi hy0 hy1 hy2 rfl (by omega) (.slice (some ⟨wz.heap.size + 1, 0, none⟩) 0 0) 0 [] (by rfl) (sh_nil1 wz #[.slice At tl ct, .int .i64 tm]) ⟨g, 0, none⟩ t c3 (xs.take (t * 2)) (by rfl) HTK.out (hs1 _ (((Below.refl _ _).drew.alloc (Nat.le_refl _) _).alloc (by simp) _)) (fun u hu => HONE.out u (List.mem_of_mem_take hu)) (by have := hmx; omega) (by omega) (by simp; try omega) ?_; intro v7 w7 hown7 hg7 hat7; have hb7 := (((Below.refl wz.heap.size wz).drew.alloc (Nat.le_refl _) _).alloc (by simp) _).grown hg7 (by simp; try omega) (fun g' hg' => (by simp [Value.ownBlock] at hg'; omega)); have hX7 := sh_keep1 hg7; rw [Nat.zero_add, List.nil_append] at hown7)))
        all_goals
          have hlen : t + 1 + (m - t) = m + 1 := by omega
          rw [hlen] at hown9
          obtain ⟨A9, c9, rfl, _⟩ := own_slice' hown9
          obtain ⟨g9, rfl, _, _, _⟩ := own_src hown9 (by omega)
          have hf9 := HFIN.out _ _ _ hown9 hb9
          clear hown9 hown8 hown7 hb9 hb8 hb7 hlen hs1 hs3
          go_wp2_with (fail)
          go_ret
          exact hf9
  · have HPOST : Hid (t < m → 0 ≤ cmpPol (gl ll t) f) := fun h => absurd h hlt
    go_wp2_with (fail)
    have hbz := below_drewN (Below.refl w.heap.size w) q
    generalize hwz : w.drewN q = wz at *
    clear hwz
    have hoT : wz.ownsRow 0 36 2 (.slice (some ⟨g, 0, none⟩) m c3) m (shC vs cs) := own_below ho hbz
    have hrT := hr.call hbz
    have hvl : vs.length = m := hrT.1.trans HM.out.symm
    have HFIN := Lib.hid (show ∀ g9 c9 w9, w9.ownsRow wz.heap.size 36 2 (.slice (some ⟨g9, 0, none⟩) (m + 1) c9) (m + 1) ((shC vs cs).take (t * 2) ++ [.slice At tl ct, .int .i64 tm] ++ (shC vs cs).drop (t * 2)) → Below wz.heap.size wz w9 → PUTR w vs cs ll f (.slice At tl ct) tm m (.returned (.slice (some ⟨g9, 0, none⟩) (m + 1) c9)) w9 from fun g9 c9 w9 ho9 hb9 => by
      rw [put1 (by omega) (by omega)] at ho9
      exact ⟨t, g9, c9, ht, HPRE.out, HPOST.out, rfl, own_mono ho9 hbz.size, bel_call hbz hb9⟩)
    have HONE := Lib.hid (shC_one (cs := cs) hrT.one)
    have hcap : m ≤ c3 := by
      obtain ⟨A', c', he, h⟩ := own_slice' hoT
      injection he with _ _ he
      omega
    have hxl : (shC vs cs).length = m * 2 := hoT.1
    generalize hX : shC vs cs = xs at *
    have HTK := Lib.hid (show (xs.take (t * 2)).length = t * 2 by rw [List.length_take, hxl]; omega)
    have HDP := Lib.hid (show (xs.drop (t * 2)).length = (m - t) * 2 by rw [List.length_drop, hxl]; omega)
    have hsB : ∀ W : World, Below wz.heap.size wz W → ∀ j u, xs[j]? = some u → W.cell? ⟨g, j, none⟩ = some u := fun W hW j u hj => by
      have h9 := World.ownsRow.cells (own_below hoT hW) (g := g) rfl j u hj
      rw [Go.WideShapes.add_plain] at h9
      simpa using h9
    have hs1 : ∀ W : World, Below wz.heap.size wz W → ∀ j u, (xs.take (t * 2))[j]? = some u → W.cell? ((⟨g, 0, none⟩ : Addr).add j) = some u := fun W hW j u hj => by
      rw [Go.WideShapes.add_plain, Nat.zero_add]
      rw [List.getElem?_take] at hj
      split at hj
      · exact hsB W hW j u hj
      · cases hj
    have p1 : t ≤ c3 := by omega
    have p2 : (t : Int) ≤ (c3 : Int) := by omega
    have p3 : (t : Int) ≤ (m : Int) := by omega
    have hmx : m + 1 ≤ maxLen := by simp only [maxLen]; omega
    clear hrT hX hxl hvl ho hr hbz
    by_cases hca : c3 = t
    ·
      have hmt : m = t := by omega
      have hs3 : ∀ W : World, Below wz.heap.size wz W → ∀ j u, (xs.drop (t * 2))[j]? = some u → W.cell? ((⟨g, 0, none⟩ : Addr).add j) = some u := fun W hW j u hj => by
        rw [List.getElem?_eq_none (by rw [HDP.out]; omega)] at hj; cases hj
      subst hca
      subst hmt
      clear hsB hoT
      go_region_law
        (first
          | ((refine step_append_own (by rfl) (.tmp 33) (.tmp 36) 37 (by rfl) wz.heap.size 36 i0 (.agg #[.slice none 0 0, .int .i64 0]) 2 32 Try.underlying37 hi hy0 hy1 hy2 rfl (by omega) v8 (m + 1) (xs.take (m * 2) ++ [.slice At tl ct, .int .i64 tm]) (by rfl) hown8 ⟨g, 0, none⟩ 0 0 (xs.drop (m * 2)) (by rfl) (by rw [HDP.out]; omega) (hs3 _ hb8) (fun u hu => HONE.out u (List.mem_of_mem_drop hu)) (by have := hmx; omega) (by omega) hb8.size ?_; intro v9 w9 hown9 hg9 hat9; have hb9 := hb8.grown hg9 hb8.size (fun g' hg' => (hown8.lt g' hg').1)))
          | ((refine step_append_own (by rfl) (.tmp 28) (.tmp 32) 37 (by rfl) wz.heap.size 36 i0 (.agg #[.slice none 0 0, .int .i64 0]) 2 32 Try.underlying37 hi hy0 hy1 hy2 rfl (by omega) v7 m (xs.take (m * 2)) (by rfl) (World.ownsRow.alloc hown7 _) ⟨w7.heap.size, 0, none⟩ 1 1 [.slice At tl ct, .int .i64 tm] (by rfl) (by rfl) (fun j u hj => sh_one w7 (.slice At tl ct) tm j u hj) (by intro u hu; simp at hu; rcases hu with rfl | rfl <;> rfl) (by have := hmx; omega) (by omega) (by have := hb7.size; simp; omega) ?_; intro v8 w8 hown8 hg8 hat8; have hb8 := (hb7.alloc hb7.size _).grown hg8 (by have := hb7.size; simp; omega) (fun g' hg' => (hown7.lt g' hg').1)))
          | ((refine step_append_own (by rfl) (.tmp 28) (.tmp 32) 37 (by rfl) wz.heap.size 36 i0 (.agg #[.slice none 0 0, .int .i64 0]) 2 32 Try.underlying37 hi hy0 hy1 hy2 rfl (by omega) v7 m (xs.take (m * 2)) (by rfl) hown7 ⟨wz.heap.size + 1, 0, none⟩ 1 1 [.slice At tl ct, .int .i64 tm] (by rfl) (by rfl) hX7 (by intro u hu; simp at hu; rcases hu with rfl | rfl <;> rfl) (by have := hmx; omega) (by omega) hb7.size ?_; intro v8 w8 hown8 hg8 hat8; have hb8 := hb7.grown hg8 hb7.size (fun g' hg' => (hown7.lt g' hg').1)))
          | ((refine step_append_own (by rfl) (.tmp 28) (.tmp 32) 37 (by rfl) wz.heap.size 36 i0 (.agg #[.slice none 0 0, .int .i64 0]) 2 32 Try.underlying37 hi hy0 hy1 hy2 rfl (by omega) v7 m (xs.take (m * 2)) (by rfl) hown7 ⟨wz.heap.size, 0, none⟩ 1 1 [.slice At tl ct, .int .i64 tm] (by rfl) (by rfl) hX7 (by intro u hu; simp at hu; rcases hu with rfl | rfl <;> rfl) (by have := hmx; omega) (by omega) hb7.size ?_; intro v8 w8 hown8 hg8 hat8; have hb8 := hb7.grown hg8 hb7.size (fun g' hg' => (hown7.lt g' hg').1)))
          | ((refine step_append_own (by rfl) (.tmp 24) (.tmp 27) 37 (by rfl) wz.heap.size 36 i0 (.agg #[.slice none 0 0, .int .i64 0]) 2 32 Try.underlying37 hi hy0 hy1 hy2 rfl (by omega) (.slice (some ⟨wz.heap.size, 0, none⟩) 0 0) 0 [] (by rfl) (sh_nilT wz.drew wz.heap.size (Nat.le_refl _)) ⟨g, 0, none⟩ m m (xs.take (m * 2)) (by rfl) HTK.out (hs1 _ ((Below.refl _ _).drew.alloc (Nat.le_refl _) _)) (fun u hu => HONE.out u (List.mem_of_mem_take hu)) (by have := hmx; omega) (by omega) (by simp; try omega) ?_; intro v7 w7 hown7 hg7 hat7; have hb7 := ((Below.refl wz.heap.size wz).drew.alloc (Nat.le_refl _) _).grown hg7 (by simp; try omega) (fun g' hg' => (by simp [Value.ownBlock] at hg'; omega)); rw [Nat.zero_add, List.nil_append] at hown7))
          | ((refine step_append_own (by rfl) (.tmp 24) (.tmp 27) 37 (by rfl) wz.heap.size 36 i0 (.agg #[.slice none 0 0, .int .i64 0]) 2 32 Try.underlying37 hi hy0 hy1 hy2 rfl (by omega) (.slice (some ⟨wz.heap.size, 0, none⟩) 0 0) 0 [] (by rfl) (World.ownsRow.alloc (sh_nilT wz.drew wz.heap.size (Nat.le_refl _)) _) ⟨g, 0, none⟩ m m (xs.take (m * 2)) (by rfl) HTK.out (hs1 _ (((Below.refl _ _).drew.alloc (Nat.le_refl _) _).alloc (by simp) _)) (fun u hu => HONE.out u (List.mem_of_mem_take hu)) (by have := hmx; omega) (by omega) (by simp; try omega) ?_; intro v7 w7 hown7 hg7 hat7; have hb7 := (((Below.refl wz.heap.size wz).drew.alloc (Nat.le_refl _) _).alloc (by simp) _).grown hg7 (by simp; try omega) (fun g' hg' => (by simp [Value.ownBlock] at hg'; omega)); have hX7 := sh_keep2 hg7; rw [Nat.zero_add, List.nil_append] at hown7))
          | ((refine step_append_own (by rfl) (.tmp 24) (.tmp 27) 37 (by rfl) wz.heap.size 36 i0 (.agg #[.slice none 0 0, .int .i64 0]) 2 32 Try.underlying37 hi hy0 hy1 hy2 rfl (by omega) (.slice (some ⟨wz.heap.size + 1, 0, none⟩) 0 0) 0 [] (by rfl) (sh_nil1 wz #[.slice At tl ct, .int .i64 tm]) ⟨g, 0, none⟩ m m (xs.take (m * 2)) (by rfl) HTK.out (hs1 _ (((Below.refl _ _).drew.alloc (Nat.le_refl _) _).alloc (by simp) _)) (fun u hu => HONE.out u (List.mem_of_mem_take hu)) (by have := hmx; omega) (by omega) (by simp; try omega) ?_; intro v7 w7 hown7 hg7 hat7; have hb7 := (((Below.refl wz.heap.size wz).drew.alloc (Nat.le_refl _) _).alloc (by simp) _).grown hg7 (by simp; try omega) (fun g' hg' => (by simp [Value.ownBlock] at hg'; omega)); have hX7 := sh_keep1 hg7; rw [Nat.zero_add, List.nil_append] at hown7)))
      all_goals
        have hlen : m + 1 + 0 = m + 1 := by omega
        rw [hlen] at hown9
        obtain ⟨A9, c9, rfl, _⟩ := own_slice' hown9
        obtain ⟨g9, rfl, _, _, _⟩ := own_src hown9 (by omega)
        have hf9 := HFIN.out _ _ _ hown9 hb9
        clear hown9 hown8 hown7 hb9 hb8 hb7 hlen hs1 hs3
        go_wp2_with (fail)
        go_ret
        exact hf9
    · have hs3 : ∀ W : World, Below wz.heap.size wz W → ∀ j u, (xs.drop (t * 2))[j]? = some u → W.cell? ((⟨g, t * 2, none⟩ : Addr).add j) = some u := fun W hW j u hj => by
        rw [Go.WideShapes.add_plain]
        rw [List.getElem?_drop] at hj
        exact hsB W hW (t * 2 + j) u hj
      clear hsB hoT
      go_region_law
        (first
          | ((refine step_append_own (by rfl) (.tmp 33) (.tmp 36) 37 (by rfl) wz.heap.size 36 i0 (.agg #[.slice none 0 0, .int .i64 0]) 2 32 Try.underlying37 hi hy0 hy1 hy2 rfl (by omega) v8 (t + 1) (xs.take (t * 2) ++ [.slice At tl ct, .int .i64 tm]) (by rfl) hown8 ⟨g, t * 2, none⟩ (m - t) (c3 - t) (xs.drop (t * 2)) (by rfl) HDP.out (hs3 _ hb8) (fun u hu => HONE.out u (List.mem_of_mem_drop hu)) (by have := hmx; omega) (by omega) hb8.size ?_; intro v9 w9 hown9 hg9 hat9; have hb9 := hb8.grown hg9 hb8.size (fun g' hg' => (hown8.lt g' hg').1)))
          | ((refine step_append_own (by rfl) (.tmp 28) (.tmp 32) 37 (by rfl) wz.heap.size 36 i0 (.agg #[.slice none 0 0, .int .i64 0]) 2 32 Try.underlying37 hi hy0 hy1 hy2 rfl (by omega) v7 t (xs.take (t * 2)) (by rfl) (World.ownsRow.alloc hown7 _) ⟨w7.heap.size, 0, none⟩ 1 1 [.slice At tl ct, .int .i64 tm] (by rfl) (by rfl) (fun j u hj => sh_one w7 (.slice At tl ct) tm j u hj) (by intro u hu; simp at hu; rcases hu with rfl | rfl <;> rfl) (by have := hmx; omega) (by omega) (by have := hb7.size; simp; omega) ?_; intro v8 w8 hown8 hg8 hat8; have hb8 := (hb7.alloc hb7.size _).grown hg8 (by have := hb7.size; simp; omega) (fun g' hg' => (hown7.lt g' hg').1)))
          | ((refine step_append_own (by rfl) (.tmp 28) (.tmp 32) 37 (by rfl) wz.heap.size 36 i0 (.agg #[.slice none 0 0, .int .i64 0]) 2 32 Try.underlying37 hi hy0 hy1 hy2 rfl (by omega) v7 t (xs.take (t * 2)) (by rfl) hown7 ⟨wz.heap.size + 1, 0, none⟩ 1 1 [.slice At tl ct, .int .i64 tm] (by rfl) (by rfl) hX7 (by intro u hu; simp at hu; rcases hu with rfl | rfl <;> rfl) (by have := hmx; omega) (by omega) hb7.size ?_; intro v8 w8 hown8 hg8 hat8; have hb8 := hb7.grown hg8 hb7.size (fun g' hg' => (hown7.lt g' hg').1)))
          | ((refine step_append_own (by rfl) (.tmp 28) (.tmp 32) 37 (by rfl) wz.heap.size 36 i0 (.agg #[.slice none 0 0, .int .i64 0]) 2 32 Try.underlying37 hi hy0 hy1 hy2 rfl (by omega) v7 t (xs.take (t * 2)) (by rfl) hown7 ⟨wz.heap.size, 0, none⟩ 1 1 [.slice At tl ct, .int .i64 tm] (by rfl) (by rfl) hX7 (by intro u hu; simp at hu; rcases hu with rfl | rfl <;> rfl) (by have := hmx; omega) (by omega) hb7.size ?_; intro v8 w8 hown8 hg8 hat8; have hb8 := hb7.grown hg8 hb7.size (fun g' hg' => (hown7.lt g' hg').1)))
          | ((refine step_append_own (by rfl) (.tmp 24) (.tmp 27) 37 (by rfl) wz.heap.size 36 i0 (.agg #[.slice none 0 0, .int .i64 0]) 2 32 Try.underlying37 hi hy0 hy1 hy2 rfl (by omega) (.slice (some ⟨wz.heap.size, 0, none⟩) 0 0) 0 [] (by rfl) (sh_nilT wz.drew wz.heap.size (Nat.le_refl _)) ⟨g, 0, none⟩ t c3 (xs.take (t * 2)) (by rfl) HTK.out (hs1 _ ((Below.refl _ _).drew.alloc (Nat.le_refl _) _)) (fun u hu => HONE.out u (List.mem_of_mem_take hu)) (by have := hmx; omega) (by omega) (by simp; try omega) ?_; intro v7 w7 hown7 hg7 hat7; have hb7 := ((Below.refl wz.heap.size wz).drew.alloc (Nat.le_refl _) _).grown hg7 (by simp; try omega) (fun g' hg' => (by simp [Value.ownBlock] at hg'; omega)); rw [Nat.zero_add, List.nil_append] at hown7))
          | ((refine step_append_own (by rfl) (.tmp 24) (.tmp 27) 37 (by rfl) wz.heap.size 36 i0 (.agg #[.slice none 0 0, .int .i64 0]) 2 32 Try.underlying37 hi hy0 hy1 hy2 rfl (by omega) (.slice (some ⟨wz.heap.size, 0, none⟩) 0 0) 0 [] (by rfl) (World.ownsRow.alloc (sh_nilT wz.drew wz.heap.size (Nat.le_refl _)) _) ⟨g, 0, none⟩ t c3 (xs.take (t * 2)) (by rfl) HTK.out (hs1 _ (((Below.refl _ _).drew.alloc (Nat.le_refl _) _).alloc (by simp) _)) (fun u hu => HONE.out u (List.mem_of_mem_take hu)) (by have := hmx; omega) (by omega) (by simp; try omega) ?_; intro v7 w7 hown7 hg7 hat7; have hb7 := (((Below.refl wz.heap.size wz).drew.alloc (Nat.le_refl _) _).alloc (by simp) _).grown hg7 (by simp; try omega) (fun g' hg' => (by simp [Value.ownBlock] at hg'; omega)); have hX7 := sh_keep2 hg7; rw [Nat.zero_add, List.nil_append] at hown7))
          | ((refine step_append_own (by rfl) (.tmp 24) (.tmp 27) 37 (by rfl) wz.heap.size 36 i0 (.agg #[.slice none 0 0, .int .i64 0]) 2 32 Try.underlying37 hi hy0 hy1 hy2 rfl (by omega) (.slice (some ⟨wz.heap.size + 1, 0, none⟩) 0 0) 0 [] (by rfl) (sh_nil1 wz #[.slice At tl ct, .int .i64 tm]) ⟨g, 0, none⟩ t c3 (xs.take (t * 2)) (by rfl) HTK.out (hs1 _ (((Below.refl _ _).drew.alloc (Nat.le_refl _) _).alloc (by simp) _)) (fun u hu => HONE.out u (List.mem_of_mem_take hu)) (by have := hmx; omega) (by omega) (by simp; try omega) ?_; intro v7 w7 hown7 hg7 hat7; have hb7 := (((Below.refl wz.heap.size wz).drew.alloc (Nat.le_refl _) _).alloc (by simp) _).grown hg7 (by simp; try omega) (fun g' hg' => (by simp [Value.ownBlock] at hg'; omega)); have hX7 := sh_keep1 hg7; rw [Nat.zero_add, List.nil_append] at hown7)))
      all_goals
        have hlen : t + 1 + (m - t) = m + 1 := by omega
        rw [hlen] at hown9
        obtain ⟨A9, c9, rfl, _⟩ := own_slice' hown9
        obtain ⟨g9, rfl, _, _, _⟩ := own_src hown9 (by omega)
        have hf9 := HFIN.out _ _ _ hown9 hb9
        clear hown9 hown8 hown7 hb9 hb8 hb7 hlen hs1 hs3
        go_wp2_with (fail)
        go_ret
        exact hf9
end Go.Proofs.Ytifaccppbhbfhaa
