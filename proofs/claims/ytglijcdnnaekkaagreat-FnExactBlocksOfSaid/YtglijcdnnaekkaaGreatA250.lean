/- Rows in order: what sorting a table of rows does. -/
import Derived.Test.YtglijcdnnaekkaaGreatA161
import Derived.Test.YtglijcdnnaekkaaGreatShelf
import Derived.Lib.OwnBridge
import Derived.Maps.AppendAt
import Derived.Lib.AppendIntMem
namespace Go.Proofs.YtglijcdnnaekkaaGreat
set_option linter.unusedVariables false
set_option linter.unusedSimpArgs false
open Go.RowKit Go.Sort Go.Shelf

theorem lexC_self : ∀ a : List Int, lexC a a = 0
  | [] => rfl
  | x :: a => by rw [lexC_eq]; exact lexC_self a
theorem lexC_eq0 : ∀ {a b : List Int}, lexC a b = 0 → a = b
  | [], [], _ => rfl
  | [], _ :: _, h => by simp [lexC] at h
  | _ :: _, [], h => by simp [lexC] at h
  | x :: a, y :: b, h => by
    rw [lexC_cons] at h
    by_cases h1 : x < y
    · rw [if_pos h1] at h; omega
    · by_cases h2 : y < x
      · rw [if_neg h1, if_pos h2] at h; omega
      · rw [if_neg h1, if_neg h2] at h
        rw [show x = y by omega, lexC_eq0 h]
theorem lexC_anti : ∀ a b : List Int, lexC b a = - lexC a b
  | [], [] => rfl
  | [], _ :: _ => rfl
  | _ :: _, [] => rfl
  | x :: a, y :: b => by
    rw [lexC_cons, lexC_cons]
    by_cases h1 : x < y
    · rw [if_neg (show ¬ y < x by omega), if_pos h1, if_pos h1]; rfl
    · by_cases h2 : y < x
      · rw [if_pos h2, if_neg h1, if_pos h2]
      · rw [if_neg h1, if_neg h2, if_neg h1, if_neg h2]
        exact lexC_anti a b
theorem lexC_trans : ∀ {a b c : List Int}, lexC a b < 0 → lexC b c < 0 → lexC a c < 0
  | [], _, [], h1, h2 => by
    rename_i b
    cases b
    · simp [lexC] at h1
    · simp [lexC] at h2
  | [], _, _ :: _, _, _ => by simp [lexC]
  | _ :: _, [], _, h1, _ => by simp [lexC] at h1
  | _ :: _, _ :: _, [], _, h2 => by simp [lexC] at h2
  | x :: a, y :: b, z :: c, h1, h2 => by
    rw [lexC_cons] at h1 h2 ⊢
    by_cases p1 : x < y
    · by_cases p2 : z < y
      · rw [if_neg (show ¬ y < z by omega), if_pos p2] at h2; omega
      · rw [if_pos (show x < z by omega)]; omega
    · by_cases p2 : y < x
      · rw [if_neg p1, if_pos p2] at h1; omega
      · rw [if_neg p1, if_neg p2] at h1
        obtain rfl : x = y := by omega
        by_cases p3 : x < z
        · rw [if_pos p3]; omega
        · by_cases p4 : z < x
          · rw [if_neg p3, if_pos p4] at h2; omega
          · rw [if_neg p3, if_neg p4] at h2 ⊢
            exact lexC_trans h1 h2
theorem lex_swo {α : Type} (f : α → List Int) : SWO (Go.Proofs.ltOf fun x y => lexC (f x) (f y)) := by
  have hd : ∀ x y, Go.Proofs.ltOf (fun x y => lexC (f x) (f y)) x y = decide (lexC (f x) (f y) < 0) := fun _ _ => rfl
  refine ⟨fun x => ?_, fun x y z h1 h2 => ?_, fun x y z h1 h2 => ?_⟩
  · rw [hd, lexC_self]; rfl
  · rw [hd, decide_eq_true_eq] at *
    exact lexC_trans h1 h2
  · rw [hd, decide_eq_false_iff_not] at *
    intro h3
    by_cases e : lexC (f y) (f x) < 0
    · exact h2 (lexC_trans e h3)
    · have h4 := lexC_anti (f x) (f y)
      have h5 : f x = f y := lexC_eq0 (by omega)
      rw [h5] at h3
      exact h2 h3
theorem grown_sort {α : Type} [Inhabited α] (enc : α → Value) {w : World} {g k : Nat} {os : Array Obj} (d : Array α) : w.grownBy (Go.Proofs.sortWorld enc w g 0 k d os) (some g) := by
  refine ⟨rfl, rfl, rfl, by simp [Go.Proofs.sortWorld], fun b hb hne => ?_⟩
  unfold Go.Proofs.sortWorld
  rw [heap_grow_old _ _ (by simpa using hb)]
  have : g ≠ b := fun e => hne (by rw [e])
  simp [putRow, mapBlock, Sort.ahead, Array.getElem?_modify, this]
/-- What sorting a table leaves. -/
def SRTL (base g n c : Nat) (ll : List (List Int)) (w : World) (e : Ending) (w' : World) : Prop := e = .returned (.tuple #[]) ∧ ∃ vs' ll', List.Perm ll' ll ∧ (ll'.Pairwise fun a b => ¬ lexC b a < 0) ∧ w'.ownsRow base 24 1 (.slice (some ⟨g, 0, none⟩) n c) n vs' ∧ RowsO w' base vs' ll' ∧ w.grownBy w' (some g)
set_option maxHeartbeats 1000000 in
theorem i_blkCmp (A A' : Option Addr) (n c n' c' : Nat) (xs ys : List Int) (w : World) (B B' : Nat) (hn : n = xs.length) (hn' : n' = ys.length) (hl : n ≤ 1048576) (hl' : n' ≤ 1048576) (hs : IS w B A xs) (hs' : IS w B' A' ys) :
    Calls Tryz.prog 126 #[.slice A n c, .slice A' n' c'] w (Q (.int .i64 (lexC xs ys)) w) := by
  have h := c_compare A A' n c n' c' xs ys w B B' hn hn' hl hl' hs hs'
  generalize lexC xs ys = r at *
  clear hn hn' hs hs'
  go_enter Tryz.func126, Tryz.ntmps126
  go_wp2_with (go_at_call 127; refine h.mono ?_; rintro e w1 ⟨rfl, q1, rfl⟩)
  go_ret
  exact ⟨rfl, q1, rfl⟩
theorem enters_bc : ∀ args w, (callFunc 126 args).run Tryz.prog w = .ok (.enter 126 args) w := enters_of (Tryz.func126) (by kernel_rfl) rfl
theorem c_sortRows (g n c base : Nat) (vs : List Value) (ll : List (List Int)) (w : World) (h0 : 0 < n) (hn : n = ll.length) (hl : n ≤ 1000) (hrow : ∀ k, k < n → (gl ll k).length ≤ 1000) (ho : w.ownsRow base 24 1 (.slice (some ⟨g, 0, none⟩) n c) n vs) (hr : RowsO w base vs ll) :
    Calls Tryz.prog 82 #[.slice (some ⟨g, 0, none⟩) n c, .func (.func 126) #[] #[]] w (SRTL base g n c ll w) := by
  obtain ⟨m, rfl⟩ : ∃ m, n = m + 1 := ⟨n - 1, by omega⟩
  have hvl : vs.length = m + 1 := by have := ho.1; omega
  have hne : ∀ i, i < vs.length → (gv vs i).ownBlock = none ∨ (gv vs i).ownBlock ≠ some g := fun i hi => by
    have := own_ne (hr.2.1 i hi) ho (by decide)
    simpa [Value.ownBlock] using this
  have hvs : (List.finRange (m + 1)).map (fun i => gv vs i.val) = vs := by
    refine List.ext_getElem (by simp [hvl]) fun i h1 h2 => ?_
    simp [gv, List.getElem?_eq_getElem h2]
  have h1 : OneCell fun i : Fin (m + 1) => gv vs i.val := fun i => by
    obtain ⟨A, c', e, _⟩ := own_slice' (hr.2.1 i.val (by have := i.isLt; omega))
    show (gv vs i.val).oneCell' = true
    rw [e]; rfl
  have ho' := ho
  rw [← hvs] at ho'
  obtain ⟨g', cap', e1, hbg, hgl, _, _, _, hH⟩ := Lib.holds_of_ownsRow ho' (by simp)
  injection e1 with e1 _ e2
  injection e1 with e1
  injection e1 with e1
  subst e1 e2
  have hds : (List.finRange (m + 1)).toArray.size = m + 1 := by simp
  have hcmp : CmpLays1 Tryz.prog 126 #[] (fun i : Fin (m + 1) => gv vs i.val) (fun i j => lexC (gl ll i.val) (gl ll j.val)) g 0 (List.finRange (m + 1)).toArray.size w := fun k os dk hs x y => by
    have hgr := grown_sort (fun i : Fin (m + 1) => gv vs i.val) (w := w) (g := g) (k := k) (os := os) dk
    generalize Go.Proofs.sortWorld (fun i : Fin (m + 1) => gv vs i.val) w g 0 k dk os = W at *
    have hrk := hr.kept hgr hne
    have rx := hrk.2.1 x.val (by have := x.isLt; omega)
    have ry := hrk.2.1 y.val (by have := y.isLt; omega)
    obtain ⟨A, cx, ex, _⟩ := own_slice' rx
    obtain ⟨A', cy, ey, _⟩ := own_slice' ry
    rw [ex] at rx
    rw [ey] at ry
    show Calls Tryz.prog _ #[gv vs x.val, gv vs y.val] W _
    rw [ex, ey]
    refine (i_blkCmp A A' _ cx _ cy _ _ W _ _ rfl rfl (by have := hrow x.val x.isLt; omega) (by have := hrow y.val y.isLt; omega) (rx.is rfl) (ry.is rfl)).mono ?_
    rintro e w' ⟨rfl, q, rfl⟩
    exact ⟨rfl, q, #[], by rw [grow_empty]⟩
  have hcon := Tryz.slices_SortFunc (fun i : Fin (m + 1) => gv vs i.val) h1 (fun i j => lexC (gl ll i.val) (gl ll j.val)) (lex_swo fun i : Fin (m + 1) => gl ll i.val) 126 #[] g 0 c (List.finRange (m + 1)).toArray w enters_bc hcmp hH hgl (by rw [hds]; omega)
  rw [hds] at hcon
  refine hcon.mono ?_
  rintro e w' ⟨rfl, d', k, os, hp, hs, rfl⟩
  have hdl : d'.size = m + 1 := by rw [hp.1, hds]
  have hperm : List.Perm d'.toList (List.finRange (m + 1)) := by
    have h7 := hp.2.2
    rw [Array.toList_extract, Array.toList_extract] at h7
    simp only [List.extract_eq_take_drop, List.drop_zero, Nat.sub_zero] at h7
    rwa [List.take_of_length_le (by simp [hdl]), List.take_of_length_le (by simp)] at h7
  have hgr := grown_sort (fun i : Fin (m + 1) => gv vs i.val) (w := w) (g := g) (k := k) (os := os) d'
  have hown := Lib.ownsRow_putRow (q := k) (k := m + 1) (ys := d'.toList) ho' (by simp [hdl]) (Nat.le_refl _)
  rw [List.take_of_length_le (by simp [hdl])] at hown
  have hown2 := own_below hown (Lib.below_grow _ _ (Nat.le_refl _) 0 os)
  refine ⟨rfl, d'.toList.map (fun i => gv vs i.val), d'.toList.map (fun i => gl ll i.val), ?_, ?_, ?_, ?_, hgr⟩
  · have e : (List.finRange (m + 1)).map (fun i => gl ll i.val) = ll := by
      refine List.ext_getElem (by simp [hn]) fun i h1 h2 => ?_
      simp [gl, List.getElem?_eq_getElem h2]
    have := hperm.map (fun i => gl ll i.val)
    rwa [e] at this
  · rw [List.pairwise_map]
    refine List.pairwise_iff_getElem.2 fun i j hi hj hij => ?_
    have hi' : i < d'.size := by simpa using hi
    have hj' : j < d'.size := by simpa using hj
    have h5 := hs i j (Nat.zero_le _) hij (by omega)
    rw [getElem!_pos d' i hi', getElem!_pos d' j hj'] at h5
    have h6 : decide (lexC (gl ll d'[j].val) (gl ll d'[i].val) < 0) = false := h5
    simpa using h6
  · exact hown2
  · have hrk := hr.kept hgr hne
    have hnd : (d'.toList.map fun i => i.val).Nodup := by
      have e : (List.finRange (m + 1)).map (fun i => i.val) = List.range (m + 1) := by
        refine List.ext_getElem (by simp) fun i h1 h2 => ?_
        simp
      have h3 := hperm.map (fun i => i.val)
      rw [e] at h3
      exact h3.nodup_iff.2 List.nodup_range
    have hsz : ∀ a, a < m + 1 → (if h : a < d'.size then d'[a].val else a) < m + 1 := fun a ha => by
      rw [dif_pos (by omega)]
      exact (d'[a]'(by omega)).isLt
    refine RowsO.perm (fun a => if h : a < d'.size then d'[a].val else a) hrk (by simp [hdl, hvl]) (by simp [hdl]; exact hn) (fun a ha => ?_) (fun a ha => ?_) (fun a ha => by rw [hvl] at ha ⊢; exact hsz a ha) (fun a b e => ?_)
    · have ha' : a < d'.size := by omega
      simp [gv, ha']
    · have ha' : a < d'.size := by omega
      simp [gl, ha']
    · by_cases ha : a < d'.size
      · by_cases hb : b < d'.size
        · simp only [dif_pos ha, dif_pos hb] at e
          have h4 := List.pairwise_iff_getElem.1 hnd
          rcases Nat.lt_trichotomy a b with h | h | h
          · have := h4 a b (by simpa using ha) (by simpa using hb) h
            simp at this
            exact absurd e this
          · exact h
          · have := h4 b a (by simpa using hb) (by simpa using ha) h
            simp at this
            exact absurd e.symm this
        · have h5 := hsz a (by omega)
          simp only [dif_pos ha] at h5
          simp only [dif_pos ha, dif_neg hb] at e
          omega
      · by_cases hb : b < d'.size
        · have h5 := hsz b (by omega)
          simp only [dif_pos hb] at h5
          simp only [dif_neg ha, dif_pos hb] at e
          omega
        · simpa only [dif_neg ha, dif_neg hb] using e
end Go.Proofs.YtglijcdnnaekkaaGreat
