/- Own lists next to rows in memory; exchange of two rows. -/
import Derived.Test.YtifaccppbhbfhaaA358
import Derived.Test.YtifaccppbhbfhaaA357
namespace Go.Proofs.Ytifaccppbhbfhaa
set_option linter.unusedVariables false
set_option linter.unusedSimpArgs false
open Go.RowKit

theorem infoIntF : (Try.prog.info? 3).map (fun i => (i.zero, i.size, i.bytes)) = some (some (.int .i64 0), 1, 8) := by kernel_rfl
theorem own_block_ne {w : World} {base n size g : Nat} {e t : TypeId} {v : Value} {xs : List Value} {cs : Array Value} (h : w.ownsRow base e size v n xs) (hk : BK w g t cs) (hne : e ≠ t) : v.ownBlock ≠ some g := fun hv => by
  rcases h.2 with ⟨h1, _⟩ | ⟨g', cap, cur, h1, _, hh, _⟩
  · rw [h1] at hv; cases hv
  · rw [h1] at hv
    injection hv with hv
    have hv' : g' = g := hv
    subst hv'
    have : some (Obj.cells cur e (0, 0)) = some (Obj.cells cs t (0, 0)) := hh.symm.trans hk
    injection this with this
    injection this with _ h3
    exact hne h3
theorem own_far {w : World} {base n size : Nat} {e t : TypeId} {v : Value} {xs : List Value} {cs : Array Value} {p : Addr} (h : w.ownsRow base e size v n xs) (hk : BK w p.block t cs) (hne : e ≠ t) (u : Value) : (w.setCell p u).ownsRow base e size v n xs := ownsRow_setCell_other h (own_block_ne h hk hne) u
theorem own_keep {w w' : World} {base n size : Nat} {e : TypeId} {v : Value} {xs : List Value} {row : Option Nat} (h : w.ownsRow base e size v n xs) (hg : w.grownBy w' row) (hne : v.ownBlock ≠ row ∨ v.ownBlock = none) : w'.ownsRow base e size v n xs := by
  refine ⟨h.1, ?_⟩
  rcases h.2 with h1 | ⟨g, cap, cur, h1, hb, hh, r⟩
  · exact .inl h1
  · refine .inr ⟨g, cap, cur, h1, hb, ?_, r⟩
    rw [hg.block g (by
      rcases Nat.lt_or_ge g w.heap.size with h3 | h3
      · exact h3
      · rw [Array.getElem?_eq_none h3] at hh; cases hh) (fun e2 => by
      rcases hne with h3 | h3
      · exact h3 (by rw [h1]; exact e2)
      · rw [h1] at h3; cases h3)]
    exact hh
theorem BK.keep {w w' : World} {g : Nat} {t : TypeId} {cs : Array Value} {row : Option Nat} (h : BK w g t cs) (hg : w.grownBy w' row) (hne : row ≠ some g) : BK w' g t cs := (hg.block g h.lt (fun e => hne e.symm)).trans h
/-- Headers that read as lists. -/
def RR (w : World) (vs : List Value) (ll : List (List Int)) : Prop := vs.length = ll.length ∧ ∀ i, i < ll.length → ∃ (A : Option Addr) (c : Nat), vs[i]? = some (.slice A (gl ll i).length c) ∧ OA w A c (gl ll i)
/-- An own list of lists. -/
def OLL (w : World) (B : Nat) (A : Option Addr) (c : Nat) (ll : List (List Int)) : Prop := ∃ vs, w.ownsRow B 22 1 (.slice A ll.length c) ll.length vs ∧ RR w vs ll
theorem RR.call {w w' : World} {vs : List Value} {ll : List (List Int)} (h : RR w vs ll) (hb : Below w.heap.size w w') : RR w' vs ll := ⟨h.1, fun i hi => by
  obtain ⟨A, c, h1, h2⟩ := h.2 i hi
  exact ⟨A, c, h1, h2.call hb⟩⟩
theorem OLL.call {w w' : World} {B : Nat} {A : Option Addr} {c : Nat} {ll : List (List Int)} (h : OLL w B A c ll) (hb : Below w.heap.size w w') : OLL w' B A c ll := by
  obtain ⟨vs, h1, h2⟩ := h
  exact ⟨vs, own_below h1 hb, h2.call hb⟩
theorem OLL.mono {w : World} {B B' : Nat} {A : Option Addr} {c : Nat} {ll : List (List Int)} (h : OLL w B A c ll) (hb : B' ≤ B) : OLL w B' A c ll := by
  obtain ⟨vs, h1, h2⟩ := h
  exact ⟨vs, own_mono h1 hb, h2⟩
theorem OLL.nil (w : World) (B : Nat) : OLL w B none 0 [] := ⟨[], World.ownsRow_nil _ _ _ _, rfl, fun i hi => by simp at hi⟩
theorem gl_sn_lt {ll : List (List Int)} {l : List Int} {i : Nat} (h : i < ll.length) : gl (ll ++ [l]) i = gl ll i := by
  unfold gl
  rw [List.getD_eq_getElem?_getD, List.getD_eq_getElem?_getD, List.getElem?_append_left h]
theorem gl_sn_eq (ll : List (List Int)) (l : List Int) : gl (ll ++ [l]) ll.length = l := by
  unfold gl
  rw [List.getD_eq_getElem?_getD, List.getElem?_append_right (Nat.le_refl _)]
  simp
/-- One more list behind an append. -/
theorem OLL.push {w w' : World} {B : Nat} {A A' A1 : Option Addr} {c c' c1 : Nat} {ll : List (List Int)} {l : List Int} {vs : List Value} (ho : w.ownsRow B 22 1 (.slice A ll.length c) ll.length vs) (hr : RR w vs ll) (hl : OA w A1 c1 l)
    (ho' : w'.ownsRow B 22 1 (.slice A' (ll.length + 1) c') (ll.length + 1) (vs ++ [.slice A1 l.length c1])) (hg : w.grownBy w' (Value.slice A ll.length c).ownBlock) : OLL w' B A' c' (ll ++ [l]) := by
  have hne : ∀ {A2 : Option Addr} {c2 : Nat} {l2 : List Int}, OA w A2 c2 l2 → OA w' A2 c2 l2 := fun {A2 c2 l2} h => own_keep h hg (by
    cases hx : (Value.slice A ll.length c).ownBlock with
    | none =>
      by_cases e : (Value.slice A2 l2.length c2).ownBlock = none
      · exact .inr e
      · exact .inl e
    | some g =>
      refine .inl ?_
      rcases ho.2 with ⟨h1, _⟩ | ⟨g', cap, cur, h1, _, hh, _⟩
      · rw [h1] at hx; cases hx
      · rw [h1] at hx
        injection hx with hx
        have hx' : g' = g := hx
        subst hx'
        exact own_block_ne h hh (by decide))
  refine ⟨vs ++ [.slice A1 l.length c1], ?_, ?_, fun i hi => ?_⟩
  · rw [List.length_append]; exact ho'
  · rw [List.length_append, List.length_append, hr.1]; rfl
  · rw [List.length_append] at hi
    have hi' : i < ll.length + 1 := hi
    by_cases e : i = ll.length
    · subst e
      rw [gl_sn_eq]
      refine ⟨A1, c1, ?_, hne hl⟩
      rw [List.getElem?_append_right (by rw [hr.1]; exact Nat.le_refl _), hr.1]
      simp
    · obtain ⟨A2, c2, h1, h2⟩ := hr.2 i (by omega)
      rw [gl_sn_lt (by omega)]
      exact ⟨A2, c2, by rw [List.getElem?_append_left (by rw [hr.1]; omega)]; exact h1, hne h2⟩
theorem HS.set {w : World} {hb n m : Nat} {b : Nat → Nat} (h : HS w hb b n m) {i : Nat} (hi : i < n) (x : Nat) : HS (w.setCell ⟨hb, i, none⟩ (.slice (some ⟨x, 0, none⟩) m m)) hb (upd b i x) n m := by
  obtain ⟨cs, h1, h2⟩ := h
  refine ⟨_, h1.set i _, fun j hj => ?_⟩
  have h3 := h2 i hi
  have hsz : i < cs.size := by
    rcases Nat.lt_or_ge i cs.size with h4 | h4
    · exact h4
    · rw [Array.getElem?_eq_none h4] at h3; cases h3
  rw [Array.getElem?_setIfInBounds]
  by_cases e : i = j
  · subst e; rw [if_pos rfl, if_pos hsz, upd_same]
  · rw [if_neg e, upd_ne _ _ (fun e2 => e e2.symm)]; exact h2 j hj
theorem upd_swp {α : Type} (R : Nat → α) (a k : Nat) : upd (upd R a (R k)) k (R a) = swp R a k := by
  funext j
  unfold swp
  by_cases e : j = k
  · rw [e, upd_same]
    by_cases e2 : k = a
    · rw [if_pos e2, e2]
    · rw [if_neg e2, if_pos rfl]
  · rw [upd_ne _ _ e]
    by_cases e2 : j = a
    · rw [e2, upd_same, if_pos rfl]
    · rw [upd_ne _ _ e2, if_neg e2, if_neg e]
theorem swp_comm {α : Type} (R : Nat → α) (a k : Nat) : swp R a k = swp R k a := by
  funext j
  unfold swp
  by_cases e : j = a
  · rw [if_pos e]
    by_cases e2 : j = k
    · rw [if_pos e2, ← e, e2]
    · rw [if_neg e2, if_pos e]
  · rw [if_neg e, if_neg e]
theorem MX.swap {w : World} {base hb n m : Nat} {b : Nat → Nat} {R : Nat → List Int} (h : MX w base hb b R n m) {a k : Nat} (ha : a < n) (hk : k < n) : MX ((w.setCell ⟨hb, a, none⟩ (.slice (some ⟨b k, 0, none⟩) m m)).setCell ⟨hb, k, none⟩ (.slice (some ⟨b a, 0, none⟩) m m)) base hb (swp b a k) (swp R a k) n m := by
  refine ⟨?_, fun i hi => ?_, fun i j hi hj e => ?_⟩
  · have h1 := (h.hs.set ha (b k)).set hk (b a)
    rw [upd_swp] at h1
    exact h1
  · obtain ⟨j, hj, e⟩ := swp_of ha hk hi
    rw [e, e]
    obtain ⟨r1, r2, r3, r4⟩ := h.row j hj
    exact ⟨r1, r2, (r3.far (fun e => r2 e) _).far (fun e => r2 e) _, r4⟩
  · unfold swp at e
    by_cases e1 : i = a
    · rw [if_pos e1] at e
      by_cases e2 : j = a
      · omega
      · rw [if_neg e2] at e
        by_cases e3 : j = k
        · rw [if_pos e3] at e; have := h.inj k a hk ha e; omega
        · rw [if_neg e3] at e; have := h.inj k j hk hj e; omega
    · rw [if_neg e1] at e
      by_cases e4 : i = k
      · rw [if_pos e4] at e
        by_cases e2 : j = a
        · rw [if_pos e2] at e; have := h.inj a k ha hk e; omega
        · rw [if_neg e2] at e
          by_cases e3 : j = k
          · omega
          · rw [if_neg e3] at e; have := h.inj a j ha hj e; omega
      · rw [if_neg e4] at e
        by_cases e2 : j = a
        · rw [if_pos e2] at e; have := h.inj i k hi hk e; omega
        · rw [if_neg e2] at e
          by_cases e3 : j = k
          · rw [if_pos e3] at e; have := h.inj i a hi ha e; omega
          · rw [if_neg e3] at e; exact h.inj i j hi hj e
/-- The pivots' cells. -/
def pints (pv : Nat → Nat) (a : Nat) : List Value := (List.range a).map fun i => .int .i64 ((pv i : Nat) : Int)
theorem pints_len (pv : Nat → Nat) (a : Nat) : (pints pv a).length = a := by simp [pints]
theorem pints_at (pv : Nat → Nat) (a k : Nat) (h : k < a) : (pints pv a)[k]? = some (.int .i64 ((pv k : Nat) : Int)) := by simp [pints, h]
theorem pints_upd (pv : Nat → Nat) (a x : Nat) : pints (upd pv a x) (a + 1) = pints pv a ++ [.int .i64 ((x : Nat) : Int)] := by
  unfold pints
  rw [List.range_succ, List.map_append, List.map_singleton, upd_same]
  congr 1
  refine List.map_congr_left fun k hk => ?_
  rw [List.mem_range] at hk
  rw [upd_ne _ _ (by omega)]
/-- An own row of T's, as a block. -/
theorem own_cell {w : World} {base n c : Nat} {e : TypeId} {A : Option Addr} {xs : List Value} (h : w.ownsRow base e 1 (.slice A n c) n xs) {k : Nat} {u : Value} (hk : xs[k]? = some u) (h0 : 0 < n) : ∃ g, A = some ⟨g, 0, none⟩ ∧ g < w.heap.size ∧ w.cell? ⟨g, k, none⟩ = some u := by
  obtain ⟨g, h1, _, h2, h3⟩ := own_src h h0
  exact ⟨g, h1, h2, h3 k u hk⟩
set_option maxHeartbeats 1000000 in
theorem i_indexI (A : Option Addr) (a c col : Nat) (pv : Nat → Nat) (w : World) (ha : a ≤ 100) (hc : col ≤ 100) (ho : w.ownsRow 0 3 1 (.slice A a c) a (pints pv a)) :
    Calls Try.prog 117 #[.slice A a c, .int .i64 (col : Int)] w (fun e w' => ∃ k : Int, e = .returned (.int .i64 k) ∧ (0 ≤ k ↔ ∃ i, i < a ∧ pv i = col) ∧ w' = w) := by
  go_enter Try.func117, Try.ntmps117
  go_wp2_with (fail)
  go_loopw [8] (fun u8 wr => ∃ k : Nat, k ≤ a ∧ u8 = .int .i64 (k : Int) ∧ Hid (∀ i, i < k → pv i ≠ col) ∧ wr = w) (fun u8 _ => a - (intOf u8).toNat)
  case atStart => exact ⟨0, Nat.zero_le _, rfl, fun i hi => by omega, rfl⟩
  case round =>
  obtain ⟨k, hk, rfl, HX, rfl⟩ := hrel
  obtain ⟨w, rfl⟩ : ∃ w' : World, w' = wr := ⟨_, rfl⟩
  by_cases hlt : k < a
  · obtain ⟨g, rfl, _, e1⟩ := own_cell ho (pints_at pv a k hlt) (by omega)
    by_cases he : col = pv k
    · have hb : ((col : Int) == ((pv k : Nat) : Int)) = true := by rw [he]; simp
      have HE := Lib.hid he
      clear he
      go_wp2_with (fail)
      go_ret
      exact ⟨(k : Int), rfl, ⟨fun _ => ⟨k, hlt, HE.out.symm⟩, fun _ => by omega⟩, rfl⟩
    · have hb : ((col : Int) == ((pv k : Nat) : Int)) = false := by rw [beq_eq_false_iff_ne]; omega
      have HE := Lib.hid he
      clear he
      go_wp2_with (fail)
      go_roundw
      case rel => exact ⟨k + 1, by omega, by go_num, fun i hi => (by
        by_cases e : i = k
        · rw [e]; exact fun e2 => HE.out e2.symm
        · exact HX.out i (by omega)), trivial⟩
      case measure => simp [intOf]; omega
  · obtain rfl : k = a := by omega
    go_wp2_with (fail)
    go_ret
    exact ⟨-1, rfl, ⟨fun h => by omega, fun ⟨i, hi, e⟩ => absurd e (HX.out i hi)⟩, rfl⟩
theorem i_containsI (A : Option Addr) (a c col : Nat) (pv : Nat → Nat) (w : World) (ha : a ≤ 100) (hc : col ≤ 100) (ho : w.ownsRow 0 3 1 (.slice A a c) a (pints pv a)) :
    Calls Try.prog 109 #[.slice A a c, .int .i64 (col : Int)] w (fun e w' => ∃ r : Bool, e = .returned (.bool r) ∧ (r = true ↔ ∃ i, i < a ∧ pv i = col) ∧ w' = w) := by
  have hx := i_indexI A a c col pv w ha hc ho
  clear ho
  go_enter Try.func109, Try.ntmps109
  go_wp2_with (go_at_call 117; refine hx.mono ?_; clear hx; rintro e w5 ⟨k, rfl, hk, rfl⟩; have HK := Lib.hid hk; clear hk)
  go_ret
  exact ⟨decide (0 ≤ k), rfl, by rw [decide_eq_true_iff]; exact HK.out, rfl⟩
end Go.Proofs.Ytifaccppbhbfhaa
