/- Contracts: products by p and inverses, both sides, told by polynomials. -/
import Derived.Test.YtifaccppbhbfhaaA346
namespace Go.Proofs.Ytifaccppbhbfhaa
set_option linter.unusedVariables false
set_option linter.unusedSimpArgs false
open Go.RowKit

/-- A slice of a call's own that reads as a list of a kind. -/
def RVE (Q : List Int → Prop) (w : World) (e : Ending) (w' : World) : Prop := ∃ l, Q l ∧ RV l w e w'
theorem RVE.mono {Q R : List Int → Prop} {w : World} {e : Ending} {w' : World} (h : RVE Q w e w') (hq : ∀ l, Q l → R l) : RVE R w e w' := by
  obtain ⟨l, h1, h2⟩ := h; exact ⟨l, hq l h1, h2⟩
theorem RVE.pre {Q : List Int → Prop} {w w1 : World} {e : Ending} {w' : World} (h : RVE Q w1 e w') (hb : Below w.heap.size w w1) : RVE Q w e w' := by
  obtain ⟨l, h1, h2⟩ := h; exact ⟨l, h1, h2.pre hb⟩
theorem gt_mapmod (P : Int) (f : List Int) (k : Nat) : gt (f.map (· % P)) k = gt f k % P := by
  unfold gt
  rw [List.getD_eq_getElem?_getD, List.getD_eq_getElem?_getD, List.getElem?_map]
  cases f[k]? <;> simp
section
variable (P : Nat) [NeZero P]
theorem can_red (f : List Int) : FX.Can P (trimL (f.map (· % (P : Int)))) := by
  have hP : 0 < P := Nat.pos_of_ne_zero (NeZero.ne P)
  refine ⟨fun k => ?_, fun h => ?_⟩
  · rw [gt_trim, gt_mapmod]
    exact ⟨Int.emod_nonneg _ (by omega), Int.emod_lt_of_pos _ (by omega)⟩
  · rw [gt_trim, trimL_len]
    rw [trimL_len] at h
    exact trimN_last _ _ h
theorem toP_red (f : List Int) : FX.toP P (trimL (f.map (· % (P : Int)))) = FX.toP P f := FX.toP_ext P fun k => by
  rw [gt_trim, gt_mapmod]
  exact Int.emod_emod_of_dvd _ (Int.dvd_refl _)
omit [NeZero P] in
theorem can_bd {l : List Int} (h : FX.Can P l) (hP : P ≤ 97) (k : Nat) : (gt l k).natAbs ≤ 97 := by
  have := h.1 k; omega
end
theorem red_len (P : Int) (f : List Int) : (trimL (f.map (· % P))).length ≤ f.length := by
  have := trimL_le (f.map (· % P))
  rwa [List.length_map] at this
theorem RV.is {l : List Int} {w : World} {A : Option Addr} {c : Nat} {w' : World} (h : w'.ownsRow w.heap.size 2 1 (.slice A l.length c) l.length (ints l)) : IS w' w'.heap.size A l := own_isn h rfl
set_option maxHeartbeats 1000000 in
theorem i_times (P : Nat) [NeZero P] (hP : P ≤ 97) (A A' : Option Addr) (n c n' c' : Nat) (f g : List Int) (w : World) (hn : n = f.length) (hn' : n' = g.length) (hl : n ≤ 10) (hl' : n' ≤ 10) (hf : FX.Can P f) (hg : FX.Can P g) (hs : IS w w.heap.size A f) (hs' : IS w w.heap.size A' g) :
    Calls Try.prog 74 #[.int .i64 (P : Int), .slice A n c, .slice A' n' c'] w (RVE (fun l => FX.Can P l ∧ FX.toP P l = FX.toP P f * FX.toP P g ∧ l.length ≤ n + n') w) := by
  have h1 : 0 < P := Nat.pos_of_ne_zero (NeZero.ne P)
  have hpr : ∀ W : World, IS W W.heap.size A f → IS W W.heap.size A' g → Calls Try.prog 89 #[.slice A n c, .slice A' n' c'] W (RV (mulL f g) W) := fun W h2 h3 => by
    by_cases h0 : n = 0 ∨ n' = 0
    · have he : mulL f g = [] := by
        rcases h0 with h0 | h0
        · rw [List.eq_nil_of_length_eq_zero (hn.symm.trans h0), mulL_nil']
        · rw [List.eq_nil_of_length_eq_zero (hn'.symm.trans h0), mulL_nilR]
      rw [he]
      exact i_prod0 A A' n c n' c' W h0
    · exact i_productOf A A' n c n' c' 97 97 f g W hn hn' (by omega) (by omega) hl hl' (fun k => can_bd P hf hP k) (fun k => can_bd P hg hP k) (by omega) h2 h3
  have hrd := fun A n c l W => i_red (P : Int) A n c l W (by omega) (by omega)
  have hml := mulL_len f g
  have hK : ∃ l, (FX.Can P l ∧ FX.toP P l = FX.toP P f * FX.toP P g ∧ l.length ≤ n + n') ∧ trimL ((mulL f g).map (· % (P : Int))) = l := ⟨_, ⟨can_red P _, by rw [toP_red, FX.toP_mulL], by have := red_len (P : Int) (mulL f g); omega⟩, rfl⟩
  have hln : (mulL f g).length ≤ 1000 := by omega
  generalize mulL f g = l at *
  obtain ⟨l2, hk, he⟩ := hK
  have HK := Lib.hid hk
  have HE := Lib.hid he
  have hpw := hpr w hs hs'
  clear hk hn hn' hf hg hl hl' hml hpr he
  go_enter Try.func74, Try.ntmps74
  go_wp2_with (first
    | (go_at_call 89; refine hpw.mono ?_; rintro e w1 ⟨A1, c1, rfl, ho1, hb1⟩)
    | (go_at_call 24; go_loud (refine (hrd A1 l.length c1 l w1 rfl hln (own_isn ho1 rfl)).mono ?_; rw [HE.out]; rintro e w2 ⟨A2, c2, rfl, ho2, hb2⟩)))
  go_ret
  exact ⟨l2, HK.out, RV.pre ⟨A2, c2, rfl, ho2, hb2⟩ hb1⟩
set_option maxHeartbeats 1000000 in
theorem s_times (P : Nat) [NeZero P] (hP : P ≤ 97) (A A' : Option Addr) (n c n' c' : Nat) (f g : List Int) (w : World) (hn : n = f.length) (hn' : n' = g.length) (hl : n ≤ 10) (hl' : n' ≤ 10) (hf : FX.Can P f) (hg : FX.Can P g) (hs : IS w w.heap.size A f) (hs' : IS w w.heap.size A' g) :
    Calls Try.prog 72 #[.int .i64 (P : Int), .slice A n c, .slice A' n' c'] w (RVE (fun l => FX.Can P l ∧ FX.toP P l = FX.toP P f * FX.toP P g ∧ l.length ≤ n + n') w) := by
  have h1 : 0 < P := Nat.pos_of_ne_zero (NeZero.ne P)
  have hpr : ∀ W : World, IS W W.heap.size A f → IS W W.heap.size A' g → Calls Try.prog 87 #[.slice A n c, .slice A' n' c'] W (RV (mulL f g) W) := fun W h2 h3 => by
    by_cases h0 : n = 0 ∨ n' = 0
    · have he : mulL f g = [] := by
        rcases h0 with h0 | h0
        · rw [List.eq_nil_of_length_eq_zero (hn.symm.trans h0), mulL_nil']
        · rw [List.eq_nil_of_length_eq_zero (hn'.symm.trans h0), mulL_nilR]
      rw [he]
      exact s_prod0 A A' n c n' c' W h0
    · exact s_l06Multiply A A' n c n' c' 97 97 f g W hn hn' (by omega) (by omega) hl hl' (fun k => can_bd P hf hP k) (fun k => can_bd P hg hP k) (by omega) h2 h3
  have hrd := fun A n c l W => s_red (P : Int) A n c l W (by omega) (by omega)
  have hml := mulL_len f g
  have hK : ∃ l, (FX.Can P l ∧ FX.toP P l = FX.toP P f * FX.toP P g ∧ l.length ≤ n + n') ∧ trimL ((mulL f g).map (· % (P : Int))) = l := ⟨_, ⟨can_red P _, by rw [toP_red, FX.toP_mulL], by have := red_len (P : Int) (mulL f g); omega⟩, rfl⟩
  have hln : (mulL f g).length ≤ 1000 := by omega
  generalize mulL f g = l at *
  obtain ⟨l2, hk, he⟩ := hK
  have HK := Lib.hid hk
  have HE := Lib.hid he
  have hpw := hpr w hs hs'
  clear hk hn hn' hf hg hl hl' hml hpr he
  go_enter Try.func72, Try.ntmps72
  go_wp2_with (first
    | (go_at_call 87; refine hpw.mono ?_; rintro e w1 ⟨A1, c1, rfl, ho1, hb1⟩)
    | (go_at_call 21; go_loud (refine (hrd A1 l.length c1 l w1 rfl hln (own_isn ho1 rfl)).mono ?_; rw [HE.out]; rintro e w2 ⟨A2, c2, rfl, ho2, hb2⟩)))
  go_ret
  exact ⟨l2, HK.out, RV.pre ⟨A2, c2, rfl, ho2, hb2⟩ hb1⟩
theorem i_inverseBy (P a : Nat) (w : World) (hP : P ≤ 97) (h0 : 0 < P) (ha : a < P) : Calls Try.prog 75 #[.int .i64 (P : Int), .int .i64 (a : Int)] w (M (.int .i64 (invM a P)) w) := by
  have hm : (a : Int) % (P : Int) = (a : Int) := Int.emod_eq_of_lt (by omega) (by omega)
  go_enter Try.func75, Try.ntmps75
  go_wp2_with (first
    | (go_at_call 42; refine (i_mod _ _ _ (by omega) (by omega)).mono ?_; rw [hm]; rintro e w1 ⟨rfl, q1, rfl⟩)
    | (go_at_call 90; refine (i_inverse P 1 P a _ (Lib.hid (Nat.pow_one P)) (by omega) (by omega) (by omega) (by omega) (by omega)).mono ?_; rintro e w2 ⟨rfl, hb2⟩))
  go_ret
  exact ⟨rfl, undrew hb2⟩
end Go.Proofs.Ytifaccppbhbfhaa
