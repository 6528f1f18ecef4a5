/- Several parts of the proof in one text; each part says what it shows. Nothing is assumed. -/
import Derived.Test.YtglijcdnnaekkaaGreatA253
/- The first block of a size: the reference's search. -/
namespace Go.Proofs.YtglijcdnnaekkaaGreat
set_option linter.unusedVariables false
set_option linter.unusedSimpArgs false
open Go.RowKit

/-- The first set of points that begins with pts, has c more points from f on, and passes. -/
def fx (bl : List Int → Bool) (n c f : Nat) (pts : List Nat) : Option (List Nat) := ((subL n c f).find? fun t => bl (tJ (pts ++ t))).map (pts ++ ·)
theorem fx_zero (bl : List Int → Bool) (n f : Nat) (pts : List Nat) : fx bl n 0 f pts = if bl (tJ pts) = true then some pts else none := by
  unfold fx
  rw [sub_zero, List.find?_cons, List.append_nil]
  cases bl (tJ pts) <;> simp
theorem fx_end {bl : List Int → Bool} {n c f : Nat} {pts : List Nat} (h : ¬ f + (c + 1) ≤ n) : fx bl n (c + 1) f pts = none := by
  unfold fx
  rw [sub_end h]
  rfl
theorem find_map' {α β : Type} (g : α → β) (q : β → Bool) : ∀ l : List α, (l.map g).find? q = (l.find? fun x => q (g x)).map g
  | [] => rfl
  | x :: l => by
    rw [List.map_cons, List.find?_cons, List.find?_cons, find_map' g q l]
    cases q (g x) <;> rfl
theorem fx_step {bl : List Int → Bool} {n c f : Nat} {pts : List Nat} (h : f < n) : fx bl n (c + 1) f pts = (fx bl n c (f + 1) (pts ++ [f])).or (fx bl n (c + 1) (f + 1) pts) := by
  by_cases hc : f + (c + 1) ≤ n
  · unfold fx
    rw [sub_step hc, List.find?_append, find_map']
    have e : (fun t => bl (tJ (pts ++ f :: t))) = fun t => bl (tJ (pts ++ [f] ++ t)) := by
      funext t
      rw [List.append_assoc]
      rfl
    rw [e]
    rcases (subL n c (f + 1)).find? (fun t => bl (tJ (pts ++ [f] ++ t))) with _ | t
    · simp
    · simp
  · rw [fx_end hc, fx_end (show ¬ f + 1 + (c + 1) ≤ n by omega)]
    obtain ⟨d, rfl⟩ : ∃ d, c = d + 1 := ⟨c - 1, by omega⟩
    rw [fx_end (show ¬ f + 1 + (d + 1) ≤ n by omega)]
    rfl
theorem fx_some {bl : List Int → Bool} {n c f : Nat} {pts B : List Nat} (hf : f ≤ n) (h : fx bl n c f pts = some B) : ∃ t, B = pts ++ t ∧ t.length = c ∧ t.Pairwise (· < ·) ∧ (∀ x ∈ t, f ≤ x ∧ x < n) ∧ bl (tJ B) = true := by
  unfold fx at h
  obtain ⟨t, h1, rfl⟩ := Option.map_eq_some_iff.1 h
  have h2 := List.mem_of_find?_eq_some h1
  have h3 := List.find?_some h1
  obtain ⟨h4, h5, h6⟩ := (sub_mem hf t).1 h2
  exact ⟨t, rfl, h4, h5, h6, h3⟩
theorem find_none_of {α : Type} {q : α → Bool} {l : List α} (h : ∀ x ∈ l, q x = false) : l.find? q = none := by
  rw [List.find?_eq_none]
  intro x hx
  rw [h x hx]
  decide
theorem fx_top {n k : Nat} {l : List Int} (h1 : 1 ≤ k) (h2 : k ≤ n) : bkF n l k = (fx (blkB (memL n l)) n (k - 1) 1 [0]).map tJ := by
  obtain ⟨c, rfl⟩ : ∃ c, k = c + 1 := ⟨k - 1, by omega⟩
  unfold bkF sI fx
  rw [sub_step (show 0 + (c + 1) ≤ n by omega), find_map', List.find?_append, find_map']
  have h3 : (subL n (c + 1) (0 + 1)).find? (fun x => bkB n l (tJ x)) = none := find_none_of fun t ht => by
    obtain ⟨h4, h5, h6⟩ := (sub_mem (by omega) t).1 ht
    unfold bkB
    rw [gt_tJ, Bool.and_eq_false_iff]
    left
    cases t with
    | nil => simp at h4
    | cons x t =>
      have := (h6 x (by simp)).1
      simp
      omega
  rw [h3]
  have e : (fun x => bkB n l (tJ (0 :: x))) = fun t => blkB (memL n l) (tJ ([0] ++ t)) := by
    funext t
    unfold bkB
    rw [gt_tJ]
    simp
  rw [e, Nat.add_sub_cancel]
  rcases (subL n c (0 + 1)).find? (fun t => blkB (memL n l) (tJ ([0] ++ t))) with _ | t
  · rfl
  · rfl
/-- What the reference's search returns, as a list. -/
def fxL (bl : List Int → Bool) (n c f : Nat) (pts : List Nat) : List Nat := (fx bl n c f pts).getD []
theorem fxL_len {bl : List Int → Bool} {n c f : Nat} {pts : List Nat} (hf : f ≤ n) (hm : 0 < pts.length) : (fxL bl n c f pts).length = 0 ↔ fx bl n c f pts = none := by
  unfold fxL
  rcases h : fx bl n c f pts with _ | B
  · simp
  · obtain ⟨t, rfl, _⟩ := fx_some hf h
    simp
    intro e
    simp [e] at hm
theorem fxL_next {bl : List Int → Bool} {n c f : Nat} {pts : List Nat} (h : f < n) : (fx bl n c (f + 1) (pts ++ [f]) = none → fx bl n (c + 1) f pts = fx bl n (c + 1) (f + 1) pts) ∧ (fx bl n c (f + 1) (pts ++ [f]) ≠ none → fxL bl n (c + 1) f pts = fxL bl n c (f + 1) (pts ++ [f])) := by
  unfold fxL
  rw [fx_step h]
  rcases e : fx bl n c (f + 1) (pts ++ [f]) with _ | B
  · simp
  · simp
variable {n : Nat} {ms : List (List Int)} {pts : List Nat} {cl : List Int}
theorem tog_sub (h0 : pts.getD 0 0 = 0) (ht : Tog pts cl pts.length) (hn : ∀ x ∈ pts, x < n) : ∀ x ∈ pts, x ∈ clsN n cl 0 := fun x hx => by
  obtain ⟨j, hj, rfl⟩ := List.mem_iff_getElem.1 hx
  have := ht j hj
  rw [h0] at this
  refine mem_cls.2 ⟨hn _ hx, ?_⟩
  simpa [List.getElem?_eq_getElem hj] using this
theorem fx_block (hG : PG n ms) (h : Cls n ms pts cl) (hc : Cong n ms cl) (h0 : pts.getD 0 0 = 0) (ht : Tog pts cl pts.length) (hn : ∀ x ∈ pts, x < n) (hr : pts.Pairwise (· < ·)) (f : Nat) (hk : (clsN n cl 0).length = pts.length) : fxL (blkB ms) n 0 f pts = clsN n cl 0 := by
  have e : pts = clsN n cl 0 := nat_sub_eq hr (cls_rise n cl 0) (tog_sub h0 ht hn) (by omega)
  unfold fxL
  rw [fx_zero, e, (blk_iff hG (cls_rise n cl 0) (fun x hx => (mem_cls.1 hx).1)).2 (cls_blk hG h hc 0)]
  rfl
theorem fx_big (hG : PG n ms) (h : Cls n ms pts cl) (h0 : pts.getD 0 0 = 0) (hm : 0 < pts.length) (hn : ∀ x ∈ pts, x < n) (hr : pts.Pairwise (· < ·)) {c f : Nat} (hf : f ≤ n) (hlt : ∀ x ∈ pts, x < f) (hk : pts.length + c < (clsN n cl 0).length) : fxL (blkB ms) n c f pts = [] := by
  unfold fxL
  rcases e : fx (blkB ms) n c f pts with _ | B
  · rfl
  · exfalso
    obtain ⟨t, rfl, h1, h2, h3, h4⟩ := fx_some hf e
    have hp : (pts ++ t).Pairwise (· < ·) := List.pairwise_append.2 ⟨hr, h2, fun a ha b hb => by have := hlt a ha; have := (h3 b hb).1; omega⟩
    have hB := (blk_iff hG hp (fun x hx => by
      rcases List.mem_append.1 hx with hx | hx
      · exact hn x hx
      · exact (h3 x hx).2)).1 h4
    have hz : 0 ∈ pts := by
      have : pts.getD 0 0 ∈ pts := by simp [List.getElem?_eq_getElem hm]
      rwa [h0] at this
    have h6 := nat_sub_len (cls_rise n cl 0) (cls_low hG h (x := 0) (by have := hn 0 hz; omega) hB (by simp [hz]) fun y hy => by simp [hy])
    rw [List.length_append] at h6
    omega
end Go.Proofs.YtglijcdnnaekkaaGreat
/- The images of a block, in order: the plain law of the reference's insertion. -/
namespace Go.Proofs.YtglijcdnnaekkaaGreat
set_option linter.unusedVariables false
set_option linter.unusedSimpArgs false
open Go.RowKit

def inF : List (List Int) → List Int → List (List Int)
  | [], b => [b]
  | r :: out, b => if gt r 0 < gt b 0 then r :: inF out b else if r = b then r :: out else b :: r :: out
theorem inF_mem (b x : List Int) : ∀ out : List (List Int), x ∈ inF out b ↔ x = b ∨ x ∈ out
  | [] => by simp [inF]
  | r :: out => by
    unfold inF
    split
    · rw [List.mem_cons, inF_mem b x out, List.mem_cons]
      constructor
      · rintro (h | h | h)
        · exact .inr (.inl h)
        · exact .inl h
        · exact .inr (.inr h)
      · rintro (h | h | h)
        · exact .inr (.inl h)
        · exact .inl h
        · exact .inr (.inr h)
    · split
      · rename_i h1 h2
        subst h2
        simp
      · simp
theorem inF_at {b : List Int} : ∀ {out : List (List Int)} {i : Nat}, i ≤ out.length → (∀ j, j < i → gt (gl out j) 0 < gt b 0) → (i < out.length → ¬ gt (gl out i) 0 < gt b 0) → inF out b = if i = out.length ∨ gl out i ≠ b then out.take i ++ b :: out.drop i else out
  | [], i, hi, _, _ => by
    obtain rfl : i = 0 := by simpa using hi
    simp [inF]
  | r :: out, 0, _, _, h => by
    have h0 := h (by simp)
    have hg : gl (r :: out) 0 = r := by simp [gl]
    rw [hg] at h0
    unfold inF
    rw [if_neg h0, hg]
    by_cases e : r = b
    · rw [if_pos e, if_neg (by simp [e])]
    · rw [if_neg e, if_pos (.inr e)]
      simp
  | r :: out, i + 1, hi, h1, h2 => by
    have h0 := h1 0 (by omega)
    have hg : gl (r :: out) 0 = r := by simp [gl]
    have hs : ∀ j, gl (r :: out) (j + 1) = gl out j := fun j => by simp [gl]
    rw [hg] at h0
    unfold inF
    rw [if_pos h0, inF_at (out := out) (i := i) (by simpa using hi) (fun j hj => by have := h1 (j + 1) (by omega); rwa [hs] at this) (fun hj => by have := h2 (by simpa using hj); rwa [hs] at this), hs]
    by_cases e : i = out.length ∨ gl out i ≠ b
    · rw [if_pos e, if_pos (e.imp (fun e => by simp [e]) id)]
      simp
    · rw [if_neg e, if_neg (fun h => e (h.imp (fun h => by simpa using h) id))]
def ltF (a b : List Int) : Prop := gt a 0 < gt b 0
theorem inF_strict {b : List Int} : ∀ {out : List (List Int)}, out.Pairwise ltF → (∀ r ∈ out, gt r 0 = gt b 0 → r = b) → (inF out b).Pairwise ltF
  | [], _, _ => by simp [inF]
  | r :: out, h, hb => by
    obtain ⟨h1, h2⟩ := List.pairwise_cons.1 h
    unfold inF
    split
    · rename_i hlt
      refine List.pairwise_cons.2 ⟨fun x hx => ?_, inF_strict h2 fun x hx => hb x (by simp [hx])⟩
      rcases (inF_mem b x out).1 hx with rfl | hx
      · exact hlt
      · exact h1 x hx
    · split
      · exact h
      · rename_i hlt hne
        have hr : gt b 0 < gt r 0 := by
          have : gt r 0 ≠ gt b 0 := fun e => hne (hb r (by simp) e)
          omega
        refine List.pairwise_cons.2 ⟨fun x hx => ?_, h⟩
        rcases List.mem_cons.1 hx with rfl | hx
        · exact hr
        · have := h1 x hx
          unfold ltF at *
          omega
def imS (ims : List (List Int)) : Nat → List (List Int)
  | 0 => []
  | k + 1 => inF (imS ims k) (gl ims k)
theorem imS_mem (ims : List (List Int)) (x : List Int) : ∀ k, k ≤ ims.length → (x ∈ imS ims k ↔ ∃ j, j < k ∧ gl ims j = x)
  | 0, _ => by simp [imS]
  | k + 1, h => by
    rw [imS, inF_mem, imS_mem ims x k (by omega)]
    constructor
    · rintro (rfl | ⟨j, hj, e⟩)
      · exact ⟨k, by omega, rfl⟩
      · exact ⟨j, by omega, e⟩
    · rintro ⟨j, hj, e⟩
      by_cases hjk : j = k
      · subst hjk; exact .inl e.symm
      · exact .inr ⟨j, by omega, e⟩
theorem imS_strict {ims : List (List Int)} (hd : ∀ a ∈ ims, ∀ b ∈ ims, gt a 0 = gt b 0 → a = b) : ∀ k, k ≤ ims.length → (imS ims k).Pairwise ltF
  | 0, _ => List.Pairwise.nil
  | k + 1, h => inF_strict (imS_strict hd k (by omega)) fun r hr e => by
    obtain ⟨j, hj, rfl⟩ := (imS_mem ims r k (by omega)).1 hr
    exact hd _ (gl_mem (by omega)) _ (gl_mem (by omega)) e
theorem imS_len (ims : List (List Int)) : ∀ k, (imS ims k).length ≤ k
  | 0 => by simp [imS]
  | k + 1 => by
    have h : ∀ (out : List (List Int)) b, (inF out b).length ≤ out.length + 1 := fun out b => by
      induction out with
      | nil => simp [inF]
      | cons r out ih =>
        unfold inF
        split
        · simp; exact ih
        · split <;> simp
    have := h (imS ims k) (gl ims k)
    have := imS_len ims k
    rw [imS]
    omega
theorem ltF_lex {a b : List Int} (ha : 0 < a.length) (hb : 0 < b.length) (h : ltF a b) : lexC a b < 0 := by
  cases a with
  | nil => simp at ha
  | cons x a =>
    cases b with
    | nil => simp at hb
    | cons y b =>
      have h : x < y := by simpa [ltF, gt] using h
      rw [lexC_cons, if_pos h]
      decide
theorem strict_unique {α : Type} {R : α → α → Prop} (irr : ∀ a, ¬ R a a) (tr : ∀ a b c, R a b → R b c → R a c) : ∀ {S T : List α}, S.Pairwise R → T.Pairwise R → (∀ x, x ∈ S ↔ x ∈ T) → S = T
  | [], [], _, _, _ => rfl
  | [], y :: T, _, _, h => by have := (h y).2 (by simp); simp at this
  | x :: S, [], _, _, h => by have := (h x).1 (by simp); simp at this
  | x :: S, y :: T, hS, hT, h => by
    obtain ⟨s1, s2⟩ := List.pairwise_cons.1 hS
    obtain ⟨t1, t2⟩ := List.pairwise_cons.1 hT
    have e : x = y := by
      rcases List.mem_cons.1 ((h x).1 (by simp)) with e | h1
      · exact e
      · rcases List.mem_cons.1 ((h y).2 (by simp)) with e | h2
        · exact e.symm
        · exact absurd (tr _ _ _ (t1 x h1) (s1 y h2)) (irr _)
    subst e
    congr 1
    refine strict_unique irr tr s2 t2 fun z => ⟨fun hz => ?_, fun hz => ?_⟩
    · rcases List.mem_cons.1 ((h z).1 (by simp [hz])) with e | h1
      · subst e; exact absurd (s1 z hz) (irr z)
      · exact h1
    · rcases List.mem_cons.1 ((h z).2 (by simp [hz])) with e | h1
      · subst e; exact absurd (t1 z hz) (irr z)
      · exact h1
theorem bkO_unique {n : Nat} {l pts : List Int} {o1 o2 : List (List Int)} (h1 : bkO n l pts o1) (h2 : bkO n l pts o2) : o1 = o2 :=
  strict_unique (R := fun a b => lexC a b < 0) (fun a h => by rw [lexC_self] at h; omega) (fun a b c g1 g2 => lexC_trans g1 g2) h1.1 h2.1 fun x => by rw [h1.2, h2.2]
/-- Two images of a block with the same first point are equal. -/
theorem img_disj {n : Nat} {ms : List (List Int)} (hG : PG n ms) {B : List Nat} (hr : B.Pairwise (· < ·)) (hn : ∀ x ∈ B, x < n) (hB : BlkP ms B) {a b : List Int} (ha : a ∈ ms) (hb : b ∈ ms) (h0 : 0 < B.length) (e : gt (imgL a (tJ B)) 0 = gt (imgL b (tJ B)) 0) : imgL a (tJ B) = imgL b (tJ B) := by
  have key : ∀ a ∈ ms, ∀ b ∈ ms, gt (imgL a (tJ B)) 0 = gt (imgL b (tJ B)) 0 → ∀ x, x ∈ imgL a (tJ B) → x ∈ imgL b (tJ B) := by
    intro a ha b hb e x hx
    have hm1 : gt (imgL a (tJ B)) 0 ∈ imgL a (tJ B) := gt_mem (by rw [img_len, tJ_len]; exact h0)
    have hm2 : gt (imgL b (tJ B)) 0 ∈ imgL b (tJ B) := gt_mem (by rw [img_len, tJ_len]; exact h0)
    obtain ⟨y1, hy1, f1⟩ := img_mem.1 hm1
    obtain ⟨y2, hy2, f2⟩ := img_mem.1 hm2
    obtain ⟨p1, hp1, rfl⟩ := mem_tJ.1 hy1
    obtain ⟨p2, hp2, rfl⟩ := mem_tJ.1 hy2
    obtain ⟨y3, hy3, f3⟩ := img_mem.1 hx
    obtain ⟨p3, hp3, rfl⟩ := mem_tJ.1 hy3
    rw [Int.toNat_natCast] at f1 f2 f3
    obtain ⟨b', hb', hi⟩ := hG.inv b hb
    obtain ⟨c, hc, hcm⟩ := hG.mul b' hb' a ha
    have e1 : ap a p1 = ap b p2 := by unfold ap; rw [f1, f2, e]
    have hcp : ap c p1 = p2 := by rw [hcm p1 (hn p1 hp1), e1, (hi p2 (hn p2 hp2)).1]
    have hc3 := hB c hc ⟨p1, hp1, by rw [hcp]; exact hp2⟩ p3 hp3
    refine img_mem.2 ⟨((ap c p3 : Nat) : Int), mem_tJ.2 ⟨_, hc3, rfl⟩, ?_⟩
    rw [Int.toNat_natCast, (ap_gt (hG.inr b hb) (hn _ hc3)).1, hcm p3 (hn p3 hp3), (hi _ (hG.lt ha (hn p3 hp3))).2, ← (ap_gt (hG.inr a ha) (hn p3 hp3)).1, f3]
  exact rise_eq (img_rise hG ha hr hn) (img_rise hG hb hr hn) fun x => ⟨key a ha b hb e x, key b hb a ha e.symm x⟩
theorem imS_bkO {n : Nat} {l : List Int} (hG : PG n (memL n l)) {B : List Nat} (hr : B.Pairwise (· < ·)) (hn : ∀ x ∈ B, x < n) (hB : BlkP (memL n l) B) (h0 : 0 < B.length) : bkO n l (tJ B) (imS ((memL n l).map fun a => imgL a (tJ B)) ((memL n l).map fun a => imgL a (tJ B)).length) := by
  have hd : ∀ a ∈ (memL n l).map (fun a => imgL a (tJ B)), ∀ b ∈ (memL n l).map (fun a => imgL a (tJ B)), gt a 0 = gt b 0 → a = b := by
    intro a ha b hb e
    obtain ⟨a', ha', rfl⟩ := List.mem_map.1 ha
    obtain ⟨b', hb', rfl⟩ := List.mem_map.1 hb
    exact img_disj hG hr hn hB ha' hb' h0 e
  have hmm := fun x => imS_mem ((memL n l).map fun a => imgL a (tJ B)) x _ (Nat.le_refl _)
  have hmem : ∀ x, x ∈ imS ((memL n l).map fun a => imgL a (tJ B)) ((memL n l).map fun a => imgL a (tJ B)).length ↔ ∃ a ∈ memL n l, imgL a (tJ B) = x := fun x => by
    rw [hmm, ← List.mem_map]
    exact (mem_gl (ll := (memL n l).map fun a => imgL a (tJ B))).symm
  refine ⟨(imS_strict hd _ (Nat.le_refl _)).imp_of_mem fun {a b} ha hb h => ltF_lex ?_ ?_ h, hmem⟩
  · obtain ⟨a', _, rfl⟩ := (hmem a).1 ha
    rw [img_len, tJ_len]; exact h0
  · obtain ⟨a', _, rfl⟩ := (hmem b).1 hb
    rw [img_len, tJ_len]; exact h0
/-- The flags of an image, listed. -/
def flI (a : List Int) (pts : List Int) : List Int := pts.map fun x => gt a x.toNat
theorem flI_gt {a pts : List Int} {k : Nat} (h : k < pts.length) : gt (flI a pts) k = gt a (gt pts k).toNat := by simp [flI, gt, List.getElem?_eq_getElem h]
theorem flI_listed {n : Nat} {ms : List (List Int)} (hG : PG n ms) {B : List Nat} (hr : B.Pairwise (· < ·)) (hn : ∀ x ∈ B, x < n) {a : List Int} (ha : a ∈ ms) : lsL (fgS n (flI a (tJ B)) B.length) = imgL a (tJ B) := by
  have hlen : (flI a (tJ B)).length = B.length := by unfold flI; rw [List.length_map, tJ_len]
  have hin : ∀ k, k < (flI a (tJ B)).length → 0 ≤ gt (flI a (tJ B)) k ∧ gt (flI a (tJ B)) k < (n : Int) := fun k hk => by
    rw [hlen] at hk
    have hk' : k < (tJ B).length := by rw [tJ_len]; exact hk
    rw [flI_gt hk']
    obtain ⟨p, hp, e⟩ := mem_tJ.1 (gt_mem hk')
    rw [← e, Int.toNat_natCast]
    have := ap_gt (hG.inr a ha) (hn p hp)
    omega
  refine rise_eq (lsL_rise _) (img_rise hG ha hr hn) fun x => ?_
  rw [lsL_mem, img_mem]
  constructor
  · rintro ⟨r, rfl, _, h⟩
    obtain ⟨k, hk, e⟩ := (fgS_mem hin B.length (by omega) r).1 h
    have hk' : k < (tJ B).length := by rw [tJ_len]; exact hk
    exact ⟨gt (tJ B) k, gt_mem hk', by rw [← flI_gt hk', e]⟩
  · rintro ⟨y, hy, e⟩
    obtain ⟨k, hk, rfl⟩ : ∃ k, k < (tJ B).length ∧ gt (tJ B) k = y := by
      obtain ⟨k, hk, e⟩ := List.mem_iff_getElem.1 hy
      exact ⟨k, hk, by rw [gt_eq hk, e]⟩
    rw [← flI_gt hk] at e
    have hk' : k < B.length := by rwa [tJ_len] at hk
    have h1 := hin k (by omega)
    obtain ⟨r, hr'⟩ := Int.eq_ofNat_of_zero_le h1.1
    refine ⟨r, by rw [← e, hr'], by rw [fgS_len]; omega, (fgS_mem hin B.length (by omega) r).2 ⟨k, hk', hr'⟩⟩
end Go.Proofs.YtglijcdnnaekkaaGreat
/- All images of the first block of a size: what both sides answer; the program's side. -/
namespace Go.Proofs.YtglijcdnnaekkaaGreat
set_option linter.unusedVariables false
set_option linter.unusedSimpArgs false
open Go.RowKit

/-- What BlocksOf answers. -/
def BSP (p : Int) (l : List Int) (s : Int) (out : List (List Int)) (code : Int) : Prop :=
  (grpB p l = false ∧ out = [] ∧ code = 1) ∨
  (∃ n : Nat, p = n ∧ grpB n l = true ∧
    (((¬ ∃ k : Nat, s = k ∧ 1 ≤ k ∧ k ≤ n ∧ n % k = 0) ∧ out = [] ∧ code = 2) ∨
     (∃ k : Nat, s = k ∧ 1 ≤ k ∧ k ≤ n ∧ n % k = 0 ∧
       ((¬ (orL n l 0).length = n ∧ out = [] ∧ code = 5) ∨
        ((orL n l 0).length = n ∧ ((bkF n l k = none ∧ out = [] ∧ code = 4) ∨ (∃ pts, bkF n l k = some pts ∧ bkO n l pts out ∧ code = 0)))))))
theorem bsp_unique {p s : Int} {l : List Int} {o1 o2 : List (List Int)} {c1 c2 : Int} (h1 : BSP p l s o1 c1) (h2 : BSP p l s o2 c2) : o1 = o2 ∧ c1 = c2 := by
  rcases h1 with ⟨a, rfl, rfl⟩ | ⟨n, rfl, a, h1⟩
  · rcases h2 with ⟨_, rfl, rfl⟩ | ⟨n, rfl, b, _⟩
    · exact ⟨rfl, rfl⟩
    · rw [a] at b; cases b
  · rcases h2 with ⟨b, _, _⟩ | ⟨n', e, b, h2⟩
    · rw [a] at b; cases b
    · obtain rfl : n = n' := by omega
      rcases h1 with ⟨u, rfl, rfl⟩ | ⟨k, rfl, u1, u2, u3, h1⟩
      · rcases h2 with ⟨_, rfl, rfl⟩ | ⟨k, hk, u1, u2, u3, _⟩
        · exact ⟨rfl, rfl⟩
        · exact absurd ⟨k, hk, u1, u2, u3⟩ u
      · rcases h2 with ⟨u, _, _⟩ | ⟨k', e', v1, v2, v3, h2⟩
        · exact absurd ⟨k, rfl, u1, u2, u3⟩ u
        · obtain rfl : k = k' := by omega
          rcases h1 with ⟨t, rfl, rfl⟩ | ⟨t, h1⟩
          · rcases h2 with ⟨_, rfl, rfl⟩ | ⟨t', _⟩
            · exact ⟨rfl, rfl⟩
            · exact absurd t' t
          · rcases h2 with ⟨t', _, _⟩ | ⟨_, h2⟩
            · exact absurd t t'
            · rcases h1 with ⟨f, rfl, rfl⟩ | ⟨q, f, g, rfl⟩
              · rcases h2 with ⟨_, rfl, rfl⟩ | ⟨q', f', _, _⟩
                · exact ⟨rfl, rfl⟩
                · rw [f] at f'; cases f'
              · rcases h2 with ⟨f', _, _⟩ | ⟨q', f', g', rfl⟩
                · rw [f] at f'; cases f'
                · rw [f] at f'
                  injection f' with e
                  subst e
                  exact ⟨bkO_unique g g', rfl⟩
def BSR (p : Int) (l : List Int) (s : Int) (w : World) (e : Ending) (w' : World) : Prop := ∃ (A : Option Addr) (m c : Nat) (vs : List Value) (out : List (List Int)) (code : Int), e = .returned (.tuple #[.slice A m c, .int .i64 code]) ∧ BSP p l s out code ∧ m = out.length ∧ w'.ownsRow w.heap.size 24 1 (.slice A m c) m vs ∧ RowsO w' w.heap.size vs out ∧ Below w.heap.size w w'
theorem bsr_none {p s code : Int} {l : List Int} {w w' : World} (h : BSP p l s [] code) (hb : Below w.heap.size w w') : BSR p l s w (.returned (.tuple #[.slice none 0 0, .int .i64 code])) w' :=
  ⟨none, 0, 0, [], [], code, rfl, h, rfl, World.ownsRow_nil _ _ _ _, ⟨rfl, fun i hi => by simp at hi, fun i j _ hj => by simp at hj⟩, hb⟩
end Go.Proofs.YtglijcdnnaekkaaGreat
