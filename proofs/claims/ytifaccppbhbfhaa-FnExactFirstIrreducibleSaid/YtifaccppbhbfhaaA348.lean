/- Division by p: plain part, own slices, copies. -/
import Derived.Test.YtifaccppbhbfhaaA347
namespace Go.Proofs.Ytifaccppbhbfhaa
set_option linter.unusedVariables false
set_option linter.unusedSimpArgs false
open Go.RowKit

/-- One row of a division. -/
def subM (P c : Int) (g out : List Int) (i : Nat) : Nat → List Int
  | 0 => out
  | k + 1 => (subM P c g out i k).set (i + k) ((gt (subM P c g out i k) (i + k) - c * gt g k) % P)
theorem subM_len (P c : Int) (g out : List Int) (i : Nat) : ∀ k, (subM P c g out i k).length = out.length
  | 0 => rfl
  | k + 1 => by rw [subM, List.length_set, subM_len P c g out i k]
theorem subM_gt (P c : Int) (g out : List Int) (i : Nat) : ∀ k j, i + k ≤ out.length → gt (subM P c g out i k) j = if i ≤ j ∧ j < i + k then (gt out j - c * gt g (j - i)) % P else gt out j
  | 0, j, _ => by rw [subM, if_neg (by omega)]
  | k + 1, j, h => by
    rw [subM, gt_setI j (by rw [subM_len]; omega)]
    have h1 := subM_gt P c g out i k j (by omega)
    have h2 := subM_gt P c g out i k (i + k) (by omega)
    by_cases hj : i + k = j
    · rw [if_pos hj, h2, if_neg (by omega), if_pos (by omega), ← hj, Nat.add_sub_cancel_left]
    · rw [if_neg hj, h1]
      by_cases hc : i ≤ j ∧ j < i + k
      · rw [if_pos hc, if_pos (by omega)]
      · rw [if_neg hc, if_neg (by omega)]
section
variable (P : Nat) [NeZero P]
/-- All numbers lie between 0 and P - 1. -/
def Bd (l : List Int) : Prop := ∀ k, 0 ≤ gt l k ∧ gt l k < (P : Int)
/-- A division under way: the places from k on are done. -/
def DVI (f g qs rs : List Int) (k : Nat) : Prop := Bd P qs ∧ Bd P rs ∧ (∀ j, j < k → gt qs j = 0) ∧ (∀ j, k + (g.length - 1) ≤ j → gt rs j = 0) ∧ FX.toP P f = FX.toP P qs * FX.toP P g + FX.toP P rs
omit [NeZero P] in
theorem Bd.set {l : List Int} (h : Bd P l) {i : Nat} {x : Int} (hx : 0 ≤ x ∧ x < (P : Int)) : Bd P (l.set i x) := fun k => by
  by_cases hi : i < l.length
  · rw [gt_setI k hi]; split
    · exact hx
    · exact h k
  · rw [List.set_eq_of_length_le (by omega)]; exact h k
theorem mod_bd (x : Int) : 0 ≤ x % (P : Int) ∧ x % (P : Int) < (P : Int) := by
  have := Nat.pos_of_ne_zero (NeZero.ne P)
  exact ⟨Int.emod_nonneg _ (by omega), Int.emod_lt_of_pos _ (by omega)⟩
theorem dvi_start {f g : List Int} (hf : FX.Can P f) : DVI P f g (List.replicate (f.length + 1 - g.length) 0) f (f.length + 1 - g.length) := by
  have hP := Nat.pos_of_ne_zero (NeZero.ne P)
  have h0 : FX.toP P (List.replicate (f.length + 1 - g.length) 0) = 0 := FX.Pol.ext fun k => by rw [FX.toP_c, gt_rep, FX.ci_0, FX.Pol.zero_c]
  refine ⟨fun k => by rw [gt_rep]; omega, hf.1, fun j _ => gt_rep _ _, fun j hj => gt_big (by omega), ?_⟩
  rw [h0]; exact FX.rg
theorem dvi_step {f g qs rs : List Int} {i : Nat} {c v : Int} (h : DVI P f g qs rs (i + 1)) (hg : 0 < g.length) (hlq : i < qs.length) (hlr : i + (g.length - 1) < rs.length) (hv : FX.ci P v * FX.ci P (gt g (g.length - 1)) = 1) (hc : c = gt rs (i + (g.length - 1)) * v % (P : Int)) :
    DVI P f g (qs.set i c) (subM P c g rs i g.length) i := by
  obtain ⟨h1, h2, h3, h4, h5⟩ := h
  have hcc : FX.ci P c * FX.ci P (gt g (g.length - 1)) = FX.ci P (gt rs (i + (g.length - 1))) := by
    rw [hc, FX.ci_mod, FX.ci_mul]; exact FX.rh hv (FX.ci P (gt rs (i + (g.length - 1)))) FX.rg
  refine ⟨Bd.set P h1 (by rw [hc]; exact mod_bd P _), fun k => ?_, fun j hj => ?_, fun j hj => ?_, ?_⟩
  · rw [subM_gt _ _ _ _ _ _ _ (by omega)]
    split
    · exact mod_bd P _
    · exact h2 k
  · rw [gt_setI j hlq, if_neg (by omega)]; exact h3 j (by omega)
  · rw [subM_gt _ _ _ _ _ _ _ (by omega)]
    by_cases hjj : j = i + (g.length - 1)
    · rw [if_pos (by omega)]
      refine (FX.ci_zero P).1 ?_
      rw [FX.ci_sub, FX.ci_mul, hjj, Nat.add_sub_cancel_left, hcc]; exact FX.rg
    · rw [if_neg (by omega)]; exact h4 j (by omega)
  · have e1 : FX.toP P (qs.set i c) = FX.toP P qs + FX.mono (FX.ci P c) i := FX.Pol.ext fun k => by
      rw [FX.Pol.add_c, FX.toP_c, FX.toP_c, gt_setI k hlq]
      show _ = _ + (if k = i then FX.ci P c else 0)
      by_cases hk : i = k
      · rw [if_pos hk, if_pos hk.symm, ← hk, h3 i (by omega), FX.ci_0]; exact FX.rg
      · rw [if_neg hk, if_neg (fun e => hk e.symm)]; exact FX.rg
    have e2 : FX.toP P (subM P c g rs i g.length) = FX.toP P rs - FX.mono (FX.ci P c) i * FX.toP P g := FX.Pol.ext fun k => by
      rw [FX.Pol.sub_c, FX.toP_c, FX.toP_c, FX.mono_mul, subM_gt _ _ _ _ _ _ _ (by omega)]
      by_cases hk : i ≤ k ∧ k < i + g.length
      · rw [if_pos hk, if_pos hk.1, FX.ci_mod, FX.ci_sub, FX.ci_mul, FX.toP_c]
      · rw [if_neg hk]
        by_cases hik : i ≤ k
        · rw [if_pos hik, FX.toP_c, gt_big (xs := g) (by omega), FX.ci_0]; exact FX.rg
        · rw [if_neg hik]; exact FX.rg
    rw [e1, e2, h5]; exact FX.rg
omit [NeZero P] in
theorem can_trim {l : List Int} (h : Bd P l) : FX.Can P (trimL l) := by
  refine ⟨fun k => by rw [gt_trim]; exact h k, fun h' => ?_⟩
  rw [gt_trim, trimL_len]
  rw [trimL_len] at h'
  exact trimN_last _ _ h'
theorem trim_lt {l : List Int} {d : Nat} (hd : ∀ j, d ≤ j → gt l j = 0) : (trimL l).length ≤ d := by
  refine Nat.le_of_not_lt fun h => ?_
  rw [trimL_len] at h
  exact trimN_last l l.length (by omega) (hd _ (by omega))
/-- What a division gives. -/
def DVQ (f g q r : List Int) : Prop := FX.Can P q ∧ FX.Can P r ∧ FX.toP P f = FX.toP P q * FX.toP P g + FX.toP P r ∧ r.length + 1 ≤ g.length ∧ q.length ≤ f.length + 1 - g.length
theorem dvi_end {f g qs rs : List Int} (h : DVI P f g qs rs 0) (hg : 0 < g.length) (hq : qs.length = f.length + 1 - g.length) : DVQ P f g (trimL qs) (trimL rs) := by
  obtain ⟨h1, h2, _, h4, h5⟩ := h
  have := trim_lt (l := rs) (d := g.length - 1) (fun j hj => h4 j (by omega))
  refine ⟨can_trim P h1, can_trim P h2, by rw [FX.toP_trim, FX.toP_trim]; exact h5, by omega, by have := trimL_le qs; omega⟩
end
/-- A block whose first cells hold a list. -/
def OS (w : World) (g : Nat) (l : List Int) : Prop := ∃ cs : Array Value, BK w g 2 cs ∧ l.length ≤ cs.size ∧ ∀ k, k < l.length → cs[k]? = some (.int .i64 (gt l k))
section
variable {w w' : World} {g : Nat} {l : List Int}
theorem OS.lt (h : OS w g l) : g < w.heap.size := by obtain ⟨cs, h1, _⟩ := h; exact h1.lt
theorem OS.cell (h : OS w g l) {j : Nat} (hj : j < l.length) : w.cell? ⟨g, j, none⟩ = some (.int .i64 (gt l j)) := by
  obtain ⟨cs, h1, _, h3⟩ := h
  exact (h1.cell j).trans (h3 j hj)
theorem OS.fz (h : OS w g l) (j : Nat) : w.frozen? ⟨g, j, none⟩ = false := by
  obtain ⟨cs, h1, _, _⟩ := h
  exact h1.frozen j
theorem OS.set (h : OS w g l) (v : Int) {r : Nat} (hr : r < l.length) : OS (w.setCell ⟨g, r, none⟩ (.int .i64 v)) g (l.set r v) := by
  obtain ⟨cs, h1, h2, h3⟩ := h
  refine ⟨_, h1.set r (.int .i64 v), by simp [h2], fun j hj => ?_⟩
  simp at hj
  rw [Array.getElem?_setIfInBounds, gt_setI j hr]
  by_cases hx : r = j
  · subst hx
    rw [if_pos rfl, if_pos (by omega), if_pos rfl]
  · rw [if_neg hx, if_neg hx]
    exact h3 j hj
theorem OS.far (h : OS w g l) {p : Addr} (hp : g ≠ p.block) (u : Value) : OS (w.setCell p u) g l := by
  obtain ⟨cs, h1, h2⟩ := h
  exact ⟨cs, h1.far hp u, h2⟩
theorem OS.below {B : Nat} (h : OS w g l) (hb : Below B w w') (hg : g < B) : OS w' g l := by
  obtain ⟨cs, h1, h2⟩ := h
  exact ⟨cs, h1.below hb hg, h2⟩
theorem OS.call (h : OS w g l) (hb : Below w.heap.size w w') : OS w' g l := h.below hb h.lt
theorem OS.drewN (h : OS w g l) (n : Nat) : OS (w.drewN n) g l := h
theorem OS.cs (h : OS w g l) : CS w g l := ⟨h.lt, fun _ hj => h.cell hj⟩
theorem OS.is (h : OS w g l) : IS w w.heap.size (some ⟨g, 0, none⟩) l := fun _ => ⟨g, 0, rfl, h.lt, fun k hk => by rw [Nat.zero_add]; exact h.cell hk⟩
end
theorem NS.os {w : World} {B g : Nat} {l : List Int} (h : NS w B g l) : OS w g l := by
  obtain ⟨_, cs, h1, h2, h3⟩ := h
  exact ⟨cs, h1, by omega, h3⟩
theorem own_os {w : World} {base n c : Nat} {A : Option Addr} {l : List Int} (h : w.ownsRow base 2 1 (.slice A n c) n (ints l)) (hn : n = l.length) (h0 : 0 < n) : ∃ g, A = some ⟨g, 0, none⟩ ∧ base ≤ g ∧ n ≤ c ∧ OS w g l := by
  rcases h.2 with ⟨_, h1⟩ | ⟨g, cap, cur, hv, hb, hh, hle, hmx, hsz, htk⟩
  · omega
  · cases hv
    refine ⟨g, rfl, hb, hle, cur, hh, by omega, fun k hk => ?_⟩
    have h1 := ints_at hk
    rw [← htk, List.getElem?_take, if_pos (by omega), Array.getElem?_toList] at h1
    exact h1
/-- An own slice, at the start of a block. -/
def OA (w : World) (A : Option Addr) (c : Nat) (l : List Int) : Prop := w.ownsRow 0 2 1 (.slice A l.length c) l.length (ints l)
section
variable {w w' : World} {A : Option Addr} {c : Nat} {l : List Int}
theorem OA.is (h : OA w A c l) : IS w w.heap.size A l := own_isn h rfl
theorem OA.call (h : OA w A c l) (hb : Below w.heap.size w w') : OA w' A c l := own_below h hb
theorem OA.drewN (h : OA w A c l) (n : Nat) : OA (w.drewN n) A c l := h
theorem OA.os (h : OA w A c l) (h0 : 0 < l.length) : ∃ g, A = some ⟨g, 0, none⟩ ∧ l.length ≤ c ∧ OS w g l := by
  obtain ⟨g, h1, _, h2, h3⟩ := own_os h rfl h0
  exact ⟨g, h1, h2, h3⟩
theorem OA.of {B n : Nat} (h : w.ownsRow B 2 1 (.slice A n c) n (ints l)) (hn : n = l.length) : OA w A c l := by subst hn; exact own_mono h (Nat.zero_le _)
theorem OA.none (h : OA w A c l) (hA : A = none) : l = [] ∧ c = 0 := by
  subst hA
  rcases h.2 with ⟨h1, h2⟩ | ⟨g, cap, cur, hv, _⟩
  · injection h1 with _ _ e2; exact ⟨List.eq_nil_of_length_eq_zero h2, e2⟩
  · injection hv with e1; cases e1
theorem OA.src (h : OA w A c l) : ∀ ad, A = some ad → ∀ j u, (ints l)[j]? = some u → w.cell? (ad.add j) = some u := own_hsrc h
end
set_option maxRecDepth 10000 in
set_option maxHeartbeats 1000000 in
theorem i_cloneO (A : Option Addr) (c : Nat) (l : List Int) (w : World) (hl : l.length ≤ 1048576) (hA : OA w A c l) :
    Calls Try.prog 65 #[.slice A l.length c] w (RV l w) := by
  obtain ⟨i0, hi, hz0, hz1, hz2⟩ := info_parts infoI64
  have ho := World.ownsRow_lit (base := w.heap.size) (e := 2) (size := 1) w #[] 0 (Nat.le_refl _) (by simp [maxLen]) rfl
  have hb := (Below.refl w.heap.size w).alloc (Nat.le_refl _) (.cells #[] 2)
  have hs2 := (hA.call hb).src
  have hnn : A = none → l.length = 0 ∧ c = 0 := fun e => ⟨by rw [(hA.none e).1]; rfl, (hA.none e).2⟩
  have HL : Hid (l.length = l.length) := Lib.hid rfl
  generalize hL : l.length = n at hl hnn ⊢
  have HN := Lib.hid hL.symm
  clear hL HL hA
  have q22 : ∀ (W : World) (a : Option Addr) (n c n' c' : Nat), (binOp .eql 22 (.slice a n c) (.slice none n' c')).run Try.prog W = .ok (.bool a.isNone) W := fun W a n c n' c' => Lib.run_eql_slice_nil W _ _ a n c n' c' Try.underlying22
  cases A with
  | none =>
    obtain ⟨rfl, rfl⟩ := hnn rfl
    obtain rfl : l = [] := List.eq_nil_of_length_eq_zero HN.out.symm
    (go_enter Try.func65, Try.ntmps65; go_wp2_with (fail); go_ret; exact ⟨none, 0, rfl, World.ownsRow_nil _ _ _ _, Below.refl _ _⟩)
  | some ad =>
    clear hnn
    go_enter Try.func65, Try.ntmps65
    go_wp2_with (at_builtin; refine wpList_append_src rfl (.tmp 5) (.tmp 6) 22 rfl w.heap.size 2 i0 (.int .i64 0) 1 8 Try.underlying22 hi hz0 hz1 hz2 rfl (by omega) (.slice (some ⟨w.heap.size, 0, none⟩) 0 0) 0 [] rfl ho (some ad) n c (ints l) rfl (by rw [ints_length, Nat.mul_one]; exact HN.out.symm) (fun ad' h j u hj => hs2 ad' h j u hj) (by intro h; cases h) (ints_one _) (by simp only [maxLen]; omega) (by omega) (by simp) ?_; intro v1 w1 hown1 hg1 ha)
    go_ret
    rw [Nat.zero_add, List.nil_append] at hown1
    obtain ⟨A1, c1, rfl, _⟩ := own_slice' hown1
    rw [HN.out] at hown1 ⊢
    exact ⟨A1, c1, rfl, hown1, hb.grown hg1 (by simp) (fun g hg => by simp [Value.ownBlock] at hg; omega)⟩
set_option maxRecDepth 10000 in
set_option maxHeartbeats 1000000 in
theorem s_ownO (A : Option Addr) (c : Nat) (l : List Int) (w : World) (hl : l.length ≤ 1048576) (hA : OA w A c l) :
    Calls Try.prog 58 #[.slice A l.length c] w (RV l w) := by
  obtain ⟨i0, hi, hz0, hz1, hz2⟩ := info_parts infoI64
  have ho := World.ownsRow_lit (base := w.heap.size) (e := 2) (size := 1) w #[] 0 (Nat.le_refl _) (by simp [maxLen]) rfl
  have hb := (Below.refl w.heap.size w).alloc (Nat.le_refl _) (.cells #[] 2)
  have hs2 := (hA.call hb).src
  have hnn : A = none → l.length = 0 ∧ c = 0 := fun e => ⟨by rw [(hA.none e).1]; rfl, (hA.none e).2⟩
  have HL : Hid (l.length = l.length) := Lib.hid rfl
  generalize hL : l.length = n at hl hnn ⊢
  have HN := Lib.hid hL.symm
  clear hL HL hA
  have q22 : ∀ (W : World) (a : Option Addr) (n c n' c' : Nat), (binOp .eql 22 (.slice a n c) (.slice none n' c')).run Try.prog W = .ok (.bool a.isNone) W := fun W a n c n' c' => Lib.run_eql_slice_nil W _ _ a n c n' c' Try.underlying22
  cases A with
  | none =>
    obtain ⟨rfl, rfl⟩ := hnn rfl
    obtain rfl : l = [] := List.eq_nil_of_length_eq_zero HN.out.symm
    (go_enter Try.func58, Try.ntmps58; go_wp2_with (at_builtin; refine wpList_append_src rfl (.tmp 3) (.tmp 4) 22 rfl w.heap.size 2 i0 (.int .i64 0) 1 8 Try.underlying22 hi hz0 hz1 hz2 rfl (by omega) (.slice (some ⟨w.heap.size, 0, none⟩) 0 0) 0 [] rfl ho none 0 0 [] rfl rfl (fun ad' h j u hj => by cases h) (fun _ => ⟨rfl, rfl⟩) (by simp) (by simp [maxLen]) (by omega) (by simp) ?_; intro v1 w1 hown1 hg1 ha); go_ret; obtain ⟨A1, c1, rfl, _⟩ := own_slice' hown1; exact ⟨A1, c1, rfl, hown1, hb.grown hg1 (by simp) (fun g hg => by simp [Value.ownBlock] at hg; omega)⟩)
  | some ad =>
    clear hnn
    go_enter Try.func58, Try.ntmps58
    go_wp2_with (at_builtin; refine wpList_append_src rfl (.tmp 3) (.tmp 4) 22 rfl w.heap.size 2 i0 (.int .i64 0) 1 8 Try.underlying22 hi hz0 hz1 hz2 rfl (by omega) (.slice (some ⟨w.heap.size, 0, none⟩) 0 0) 0 [] rfl ho (some ad) n c (ints l) rfl (by rw [ints_length, Nat.mul_one]; exact HN.out.symm) (fun ad' h j u hj => hs2 ad' h j u hj) (by intro h; cases h) (ints_one _) (by simp only [maxLen]; omega) (by omega) (by simp) ?_; intro v1 w1 hown1 hg1 ha)
    go_ret
    rw [Nat.zero_add, List.nil_append] at hown1
    obtain ⟨A1, c1, rfl, _⟩ := own_slice' hown1
    rw [HN.out] at hown1 ⊢
    exact ⟨A1, c1, rfl, hown1, hb.grown hg1 (by simp) (fun g hg => by simp [Value.ownBlock] at hg; omega)⟩
end Go.Proofs.Ytifaccppbhbfhaa
