/- Several parts of the proof in one text; each part says what it shows. Nothing is assumed. -/
import Derived.Test.YtglijcdnnaekkaaGreatA161
import Derived.Test.YtglijcdnnaekkaaGreatShelf
import Derived.Test.YtglijcdnnaekkaaGreatA249
import Derived.Test.YtglijcdnnaekkaaGreatA101
import Derived.Lib.OwnBridge
import Derived.Maps.AppendAt
import Derived.Lib.AppendIntMem
import Derived.Lib.SliceRun
import Derived.BigQuiet
/- Rows in order: what sorting a table of rows does. -/
namespace Go.Proofs.YtglijcdnnaekkaaGreat
set_option linter.unusedVariables false
set_option linter.unusedSimpArgs false
open Go.RowKit Go.Sort Go.Shelf

theorem lexC_self : ∀ a : List Int, lexC a a = 0
  | [] => rfl
  | x :: a => by rw [lexC_eq]; exact lexC_self a
theorem lexC_eq0 : ∀ {a b : List Int}, lexC a b = 0 → a = b
  | [], [], _ => rfl
  | [], _ :: _, h => by simp [lexC] at h
  | _ :: _, [], h => by simp [lexC] at h
  | x :: a, y :: b, h => by
    rw [lexC_cons] at h
    by_cases h1 : x < y
    · rw [if_pos h1] at h; omega
    · by_cases h2 : y < x
      · rw [if_neg h1, if_pos h2] at h; omega
      · rw [if_neg h1, if_neg h2] at h
        rw [show x = y by omega, lexC_eq0 h]
theorem lexC_anti : ∀ a b : List Int, lexC b a = - lexC a b
  | [], [] => rfl
  | [], _ :: _ => rfl
  | _ :: _, [] => rfl
  | x :: a, y :: b => by
    rw [lexC_cons, lexC_cons]
    by_cases h1 : x < y
    · rw [if_neg (show ¬ y < x by omega), if_pos h1, if_pos h1]; rfl
    · by_cases h2 : y < x
      · rw [if_pos h2, if_neg h1, if_pos h2]
      · rw [if_neg h1, if_neg h2, if_neg h1, if_neg h2]
        exact lexC_anti a b
theorem lexC_trans : ∀ {a b c : List Int}, lexC a b < 0 → lexC b c < 0 → lexC a c < 0
  | [], _, [], h1, h2 => by
    rename_i b
    cases b
    · simp [lexC] at h1
    · simp [lexC] at h2
  | [], _, _ :: _, _, _ => by simp [lexC]
  | _ :: _, [], _, h1, _ => by simp [lexC] at h1
  | _ :: _, _ :: _, [], _, h2 => by simp [lexC] at h2
  | x :: a, y :: b, z :: c, h1, h2 => by
    rw [lexC_cons] at h1 h2 ⊢
    by_cases p1 : x < y
    · by_cases p2 : z < y
      · rw [if_neg (show ¬ y < z by omega), if_pos p2] at h2; omega
      · rw [if_pos (show x < z by omega)]; omega
    · by_cases p2 : y < x
      · rw [if_neg p1, if_pos p2] at h1; omega
      · rw [if_neg p1, if_neg p2] at h1
        obtain rfl : x = y := by omega
        by_cases p3 : x < z
        · rw [if_pos p3]; omega
        · by_cases p4 : z < x
          · rw [if_neg p3, if_pos p4] at h2; omega
          · rw [if_neg p3, if_neg p4] at h2 ⊢
            exact lexC_trans h1 h2
theorem lex_swo {α : Type} (f : α → List Int) : SWO (Go.Proofs.ltOf fun x y => lexC (f x) (f y)) := by
  have hd : ∀ x y, Go.Proofs.ltOf (fun x y => lexC (f x) (f y)) x y = decide (lexC (f x) (f y) < 0) := fun _ _ => rfl
  refine ⟨fun x => ?_, fun x y z h1 h2 => ?_, fun x y z h1 h2 => ?_⟩
  · rw [hd, lexC_self]; rfl
  · rw [hd, decide_eq_true_eq] at *
    exact lexC_trans h1 h2
  · rw [hd, decide_eq_false_iff_not] at *
    intro h3
    by_cases e : lexC (f y) (f x) < 0
    · exact h2 (lexC_trans e h3)
    · have h4 := lexC_anti (f x) (f y)
      have h5 : f x = f y := lexC_eq0 (by omega)
      rw [h5] at h3
      exact h2 h3
theorem grown_sort {α : Type} [Inhabited α] (enc : α → Value) {w : World} {g k : Nat} {os : Array Obj} (d : Array α) : w.grownBy (Go.Proofs.sortWorld enc w g 0 k d os) (some g) := by
  refine ⟨rfl, rfl, rfl, by simp [Go.Proofs.sortWorld], fun b hb hne => ?_⟩
  unfold Go.Proofs.sortWorld
  rw [heap_grow_old _ _ (by simpa using hb)]
  have : g ≠ b := fun e => hne (by rw [e])
  simp [putRow, mapBlock, Sort.ahead, Array.getElem?_modify, this]
/-- What sorting a table leaves. -/
def SRTL (base g n c : Nat) (ll : List (List Int)) (w : World) (e : Ending) (w' : World) : Prop := e = .returned (.tuple #[]) ∧ ∃ vs' ll', List.Perm ll' ll ∧ (ll'.Pairwise fun a b => ¬ lexC b a < 0) ∧ w'.ownsRow base 24 1 (.slice (some ⟨g, 0, none⟩) n c) n vs' ∧ RowsO w' base vs' ll' ∧ w.grownBy w' (some g)
set_option maxHeartbeats 1000000 in
theorem i_blkCmp (A A' : Option Addr) (n c n' c' : Nat) (xs ys : List Int) (w : World) (B B' : Nat) (hn : n = xs.length) (hn' : n' = ys.length) (hl : n ≤ 1048576) (hl' : n' ≤ 1048576) (hs : IS w B A xs) (hs' : IS w B' A' ys) :
    Calls Tryz.prog 126 #[.slice A n c, .slice A' n' c'] w (Q (.int .i64 (lexC xs ys)) w) := by
  have h := c_compare A A' n c n' c' xs ys w B B' hn hn' hl hl' hs hs'
  generalize lexC xs ys = r at *
  clear hn hn' hs hs'
  go_enter Tryz.func126, Tryz.ntmps126
  go_wp2_with (go_at_call 127; refine h.mono ?_; rintro e w1 ⟨rfl, q1, rfl⟩)
  go_ret
  exact ⟨rfl, q1, rfl⟩
theorem enters_bc : ∀ args w, (callFunc 126 args).run Tryz.prog w = .ok (.enter 126 args) w := enters_of (Tryz.func126) (by kernel_rfl) rfl
theorem c_sortRows (g n c base : Nat) (vs : List Value) (ll : List (List Int)) (w : World) (h0 : 0 < n) (hn : n = ll.length) (hl : n ≤ 1000) (hrow : ∀ k, k < n → (gl ll k).length ≤ 1000) (ho : w.ownsRow base 24 1 (.slice (some ⟨g, 0, none⟩) n c) n vs) (hr : RowsO w base vs ll) :
    Calls Tryz.prog 82 #[.slice (some ⟨g, 0, none⟩) n c, .func (.func 126) #[] #[]] w (SRTL base g n c ll w) := by
  obtain ⟨m, rfl⟩ : ∃ m, n = m + 1 := ⟨n - 1, by omega⟩
  have hvl : vs.length = m + 1 := by have := ho.1; omega
  have hne : ∀ i, i < vs.length → (gv vs i).ownBlock = none ∨ (gv vs i).ownBlock ≠ some g := fun i hi => by
    have := own_ne (hr.2.1 i hi) ho (by decide)
    simpa [Value.ownBlock] using this
  have hvs : (List.finRange (m + 1)).map (fun i => gv vs i.val) = vs := by
    refine List.ext_getElem (by simp [hvl]) fun i h1 h2 => ?_
    simp [gv, List.getElem?_eq_getElem h2]
  have h1 : OneCell fun i : Fin (m + 1) => gv vs i.val := fun i => by
    obtain ⟨A, c', e, _⟩ := own_slice' (hr.2.1 i.val (by have := i.isLt; omega))
    show (gv vs i.val).oneCell' = true
    rw [e]; rfl
  have ho' := ho
  rw [← hvs] at ho'
  obtain ⟨g', cap', e1, hbg, hgl, _, _, _, hH⟩ := Lib.holds_of_ownsRow ho' (by simp)
  injection e1 with e1 _ e2
  injection e1 with e1
  injection e1 with e1
  subst e1 e2
  have hds : (List.finRange (m + 1)).toArray.size = m + 1 := by simp
  have hcmp : CmpLays1 Tryz.prog 126 #[] (fun i : Fin (m + 1) => gv vs i.val) (fun i j => lexC (gl ll i.val) (gl ll j.val)) g 0 (List.finRange (m + 1)).toArray.size w := fun k os dk hs x y => by
    have hgr := grown_sort (fun i : Fin (m + 1) => gv vs i.val) (w := w) (g := g) (k := k) (os := os) dk
    generalize Go.Proofs.sortWorld (fun i : Fin (m + 1) => gv vs i.val) w g 0 k dk os = W at *
    have hrk := hr.kept hgr hne
    have rx := hrk.2.1 x.val (by have := x.isLt; omega)
    have ry := hrk.2.1 y.val (by have := y.isLt; omega)
    obtain ⟨A, cx, ex, _⟩ := own_slice' rx
    obtain ⟨A', cy, ey, _⟩ := own_slice' ry
    rw [ex] at rx
    rw [ey] at ry
    show Calls Tryz.prog _ #[gv vs x.val, gv vs y.val] W _
    rw [ex, ey]
    refine (i_blkCmp A A' _ cx _ cy _ _ W _ _ rfl rfl (by have := hrow x.val x.isLt; omega) (by have := hrow y.val y.isLt; omega) (rx.is rfl) (ry.is rfl)).mono ?_
    rintro e w' ⟨rfl, q, rfl⟩
    exact ⟨rfl, q, #[], by rw [grow_empty]⟩
  have hcon := Tryz.slices_SortFunc (fun i : Fin (m + 1) => gv vs i.val) h1 (fun i j => lexC (gl ll i.val) (gl ll j.val)) (lex_swo fun i : Fin (m + 1) => gl ll i.val) 126 #[] g 0 c (List.finRange (m + 1)).toArray w enters_bc hcmp hH hgl (by rw [hds]; omega)
  rw [hds] at hcon
  refine hcon.mono ?_
  rintro e w' ⟨rfl, d', k, os, hp, hs, rfl⟩
  have hdl : d'.size = m + 1 := by rw [hp.1, hds]
  have hperm : List.Perm d'.toList (List.finRange (m + 1)) := by
    have h7 := hp.2.2
    rw [Array.toList_extract, Array.toList_extract] at h7
    simp only [List.extract_eq_take_drop, List.drop_zero, Nat.sub_zero] at h7
    rwa [List.take_of_length_le (by simp [hdl]), List.take_of_length_le (by simp)] at h7
  have hgr := grown_sort (fun i : Fin (m + 1) => gv vs i.val) (w := w) (g := g) (k := k) (os := os) d'
  have hown := Lib.ownsRow_putRow (q := k) (k := m + 1) (ys := d'.toList) ho' (by simp [hdl]) (Nat.le_refl _)
  rw [List.take_of_length_le (by simp [hdl])] at hown
  have hown2 := own_below hown (Lib.below_grow _ _ (Nat.le_refl _) 0 os)
  refine ⟨rfl, d'.toList.map (fun i => gv vs i.val), d'.toList.map (fun i => gl ll i.val), ?_, ?_, ?_, ?_, hgr⟩
  · have e : (List.finRange (m + 1)).map (fun i => gl ll i.val) = ll := by
      refine List.ext_getElem (by simp [hn]) fun i h1 h2 => ?_
      simp [gl, List.getElem?_eq_getElem h2]
    have := hperm.map (fun i => gl ll i.val)
    rwa [e] at this
  · rw [List.pairwise_map]
    refine List.pairwise_iff_getElem.2 fun i j hi hj hij => ?_
    have hi' : i < d'.size := by simpa using hi
    have hj' : j < d'.size := by simpa using hj
    have h5 := hs i j (Nat.zero_le _) hij (by omega)
    rw [getElem!_pos d' i hi', getElem!_pos d' j hj'] at h5
    have h6 : decide (lexC (gl ll d'[j].val) (gl ll d'[i].val) < 0) = false := h5
    simpa using h6
  · exact hown2
  · have hrk := hr.kept hgr hne
    have hnd : (d'.toList.map fun i => i.val).Nodup := by
      have e : (List.finRange (m + 1)).map (fun i => i.val) = List.range (m + 1) := by
        refine List.ext_getElem (by simp) fun i h1 h2 => ?_
        simp
      have h3 := hperm.map (fun i => i.val)
      rw [e] at h3
      exact h3.nodup_iff.2 List.nodup_range
    have hsz : ∀ a, a < m + 1 → (if h : a < d'.size then d'[a].val else a) < m + 1 := fun a ha => by
      rw [dif_pos (by omega)]
      exact (d'[a]'(by omega)).isLt
    refine RowsO.perm (fun a => if h : a < d'.size then d'[a].val else a) hrk (by simp [hdl, hvl]) (by simp [hdl]; exact hn) (fun a ha => ?_) (fun a ha => ?_) (fun a ha => by rw [hvl] at ha ⊢; exact hsz a ha) (fun a b e => ?_)
    · have ha' : a < d'.size := by omega
      simp [gv, ha']
    · have ha' : a < d'.size := by omega
      simp [gl, ha']
    · by_cases ha : a < d'.size
      · by_cases hb : b < d'.size
        · simp only [dif_pos ha, dif_pos hb] at e
          have h4 := List.pairwise_iff_getElem.1 hnd
          rcases Nat.lt_trichotomy a b with h | h | h
          · have := h4 a b (by simpa using ha) (by simpa using hb) h
            simp at this
            exact absurd e this
          · exact h
          · have := h4 b a (by simpa using hb) (by simpa using ha) h
            simp at this
            exact absurd e.symm this
        · have h5 := hsz a (by omega)
          simp only [dif_pos ha] at h5
          simp only [dif_pos ha, dif_neg hb] at e
          omega
      · by_cases hb : b < d'.size
        · have h5 := hsz b (by omega)
          simp only [dif_pos hb] at h5
          simp only [dif_neg ha, dif_pos hb] at e
          omega
        · simpa only [dif_neg ha, dif_neg hb] using e
end Go.Proofs.YtglijcdnnaekkaaGreat
/- Rows that follow their equals are dropped: slices.CompactFunc over rows. -/
namespace Go.Proofs.YtglijcdnnaekkaaGreat
set_option linter.unusedVariables false
set_option linter.unusedSimpArgs false
open Go.RowKit

/-- Is a row another than the one ahead of it? -/
def nwB (ll : List (List Int)) (i : Nat) : Bool := decide (i = 0) || !(decide (gl ll i = gl ll (i - 1)))
def nwL (ll : List (List Int)) (j : Nat) : List Nat := (List.range j).filter (nwB ll)
theorem nwL_yes {ll : List (List Int)} {j : Nat} (h : nwB ll j = true) : nwL ll (j + 1) = nwL ll j ++ [j] := by simp [nwL, List.range_succ, h]
theorem nwL_no {ll : List (List Int)} {j : Nat} (h : nwB ll j = false) : nwL ll (j + 1) = nwL ll j := by simp [nwL, List.range_succ, h]
theorem nwL_le (ll : List (List Int)) (j : Nat) : (nwL ll j).length ≤ j := by
  have := List.length_filter_le (nwB ll) (List.range j)
  rwa [List.length_range] at this
theorem nwL_lt {ll : List (List Int)} {j t : Nat} (h : t < (nwL ll j).length) : (nwL ll j)[t] < j := by
  have := List.getElem_mem h
  unfold nwL at this
  exact List.mem_range.1 (List.mem_filter.1 this).1
theorem nwL_all {ll : List (List Int)} {k : Nat} (h : ∀ j, j < k → nwB ll j = true) : nwL ll k = List.range k := List.filter_eq_self.2 fun i hi => h i (List.mem_range.1 hi)
/-- The rows that are left. -/
def cpL (ll : List (List Int)) : List (List Int) := (nwL ll ll.length).map (gl ll)
theorem RowsO.pick {w : World} {base : Nat} {vs : List Value} {ll : List (List Int)} (h : RowsO w base vs ll) : RowsO w base ((nwL ll ll.length).map (gv vs)) (cpL ll) := by
  obtain ⟨h1, h2, h3⟩ := h
  unfold cpL
  have hpw : (nwL ll ll.length).Pairwise (· < ·) := List.pairwise_lt_range.filter _
  have e1 : ∀ i, i < (nwL ll ll.length).length → gv ((nwL ll ll.length).map (gv vs)) i = gv vs ((nwL ll ll.length).getD i 0) := fun i hi => by simp [gv, List.getElem?_eq_getElem hi]
  have e2 : ∀ i, i < (nwL ll ll.length).length → gl ((nwL ll ll.length).map (gl ll)) i = gl ll ((nwL ll ll.length).getD i 0) := fun i hi => by simp [gl, List.getElem?_eq_getElem hi]
  have e3 : ∀ i, i < (nwL ll ll.length).length → (nwL ll ll.length).getD i 0 < ll.length := fun i hi => by
    have := nwL_lt hi
    rw [List.getD_eq_getElem?_getD, List.getElem?_eq_getElem hi]; exact this
  refine ⟨by simp, fun i hi => ?_, fun i j hij hj => ?_⟩
  · rw [List.length_map] at hi
    rw [e1 i hi, e2 i hi]
    exact h2 _ (by rw [h1]; exact e3 i hi)
  · rw [List.length_map] at hj
    rw [e1 i (by omega), e1 j hj]
    refine h3 _ _ ?_ (by rw [h1]; exact e3 j hj)
    have := List.pairwise_iff_getElem.1 hpw i j (by omega) hj hij
    rw [List.getD_eq_getElem?_getD, List.getD_eq_getElem?_getD, List.getElem?_eq_getElem hj, List.getElem?_eq_getElem (show i < _ by omega)]
    exact this
theorem nwL_full {ll : List (List Int)} (h : ∀ j, j < ll.length → nwB ll j = true) : cpL ll = ll := by
  unfold cpL
  rw [nwL_all h]
  refine List.ext_getElem (by simp) fun i h1 h2 => ?_
  simp [gl, List.getElem?_eq_getElem h2]
theorem nwL_less {ll : List (List Int)} {n k : Nat} (hk : k < n) (h : nwB ll k = false) : (nwL ll n).length < n := by
  have h1 := (List.length_filter_lt_length_iff_exists (p := nwB ll) (l := List.range n)).2 ⟨k, List.mem_range.2 hk, by rw [h]; decide⟩
  rwa [List.length_range] at h1
theorem gdrew {w : World} {g : Option Nat} (q : Nat) : w.grownBy (w.drewN q) g := ⟨rfl, rfl, rfl, Nat.le_refl _, fun _ _ _ => rfl⟩
theorem gto {w w' : World} {g : Option Nat} (h : w.grownBy w' g) (q : Nat) : w.grownBy (w'.drewN q) g := ⟨h.os, h.tape, h.output, h.size, h.block⟩
set_option maxHeartbeats 1000000 in
theorem i_blkEq (A A' : Option Addr) (n c n' c' : Nat) (xs ys : List Int) (w : World) (B B' : Nat) (hn : n = xs.length) (hn' : n' = ys.length) (hl : n ≤ 1048576) (hl' : n' ≤ 1048576) (hs : IS w B A xs) (hs' : IS w B' A' ys) :
    Calls Tryz.prog 129 #[.slice A n c, .slice A' n' c'] w (Q (.bool (decide (xs = ys))) w) := by
  have h := i_same A A' n c n' c' xs ys w B B' hn hn' hl hl' hs hs'
  generalize decide (xs = ys) = r at *
  clear hn hn' hs hs'
  go_enter Tryz.func129, Tryz.ntmps129
  go_wp2_with (go_at_call 95; refine h.mono ?_; rintro e w1 ⟨rfl, q1, rfl⟩)
  go_ret
  exact ⟨rfl, q1, rfl⟩
theorem i_blkEqV (A A' : Option Addr) (n c n' c' : Nat) (xs ys : List Int) (w : World) (B B' : Nat) (hn : n = xs.length) (hn' : n' = ys.length) (hl : n ≤ 1048576) (hl' : n' ≤ 1048576) (hs : IS w B A xs) (hs' : IS w B' A' ys) {b : Bool} (h : decide (xs = ys) = b) :
    Calls Tryz.prog 129 #[.slice A n c, .slice A' n' c'] w (Q (.bool b) w) := by rw [← h]; exact i_blkEq A A' n c n' c' xs ys w B B' hn hn' hl hl' hs hs'
/-- What dropping equal neighbours leaves. -/
def CPF (ll : List (List Int)) (base g c : Nat) (w : World) (e : Ending) (w' : World) : Prop := ∃ m vs', e = .returned (.slice (some ⟨g, 0, none⟩) m c) ∧ m = (cpL ll).length ∧ w'.ownsRow base 24 1 (.slice (some ⟨g, 0, none⟩) m c) m vs' ∧ RowsO w' base vs' (cpL ll) ∧ w.grownBy w' (some g)
set_option maxRecDepth 20000 in
set_option maxHeartbeats 2000000 in
theorem c_compactF (g n c base : Nat) (vs : List Value) (ll : List (List Int)) (w : World) (hn : n = ll.length) (hl : n ≤ 1048576) (hrow : ∀ k, k < n → (gl ll k).length ≤ 1048576) (ho : w.ownsRow base 24 1 (.slice (some ⟨g, 0, none⟩) n c) n vs) (hr : RowsO w base vs ll) :
    Calls Tryz.prog 128 #[.slice (some ⟨g, 0, none⟩) n c, .func (.func 129) #[] #[]] w (CPF ll base g c w) := by
  have hcap := own_cap ho
  have hvl : vs.length = n := by have := ho.1; omega
  have HVL := Lib.hid hvl
  have HN := Lib.hid hn
  have HR := Lib.hid hr
  have HROW := Lib.hid hrow
  have hne : ∀ i, i < vs.length → (gv vs i).ownBlock = none ∨ (gv vs i).ownBlock ≠ some g := fun i hi => by
    have := own_ne (hr.2.1 i hi) ho (by decide)
    simpa [Value.ownBlock] using this
  have HNE := Lib.hid hne
  obtain ⟨hc1, hc2⟩ := hcap
  unfold maxLen at hc2
  have HO := Lib.hid ho
  have hsame : ∀ j, j < n → (∀ i, i < j → nwB ll i = true) → j = n → CPF ll base g c w (.returned (.slice (some ⟨g, 0, none⟩) n c)) w := fun _ _ _ _ => by omega
  have hid : ∀ q, (∀ i, i < n → nwB ll i = true) → CPF ll base g c w (.returned (.slice (some ⟨g, 0, none⟩) n c)) (w.drewN q) := fun q h => by
    have e := nwL_full (ll := ll) (by rw [← hn]; exact h)
    exact ⟨n, vs, rfl, by rw [e]; exact hn, ho, by rw [e]; exact hr, gdrew q⟩
  have HID := Lib.hid hid
  have h00 : nwB ll 0 = true := by simp [nwB]
  have H00 := Lib.hid h00
  clear hvl hn hr hne ho hrow hsame hid h00
  by_cases h2 : n < 2
  · have h := HID.out 0 fun i hi => by
      obtain rfl | rfl : i = 0 ∨ i = 1 := by omega
      · exact H00.out
      · omega
    have H := Lib.hid h
    clear h
    go_enter Tryz.func128, Tryz.ntmps128
    go_wp2_with (fail)
    go_ret
    exact H.out
  · go_enter Tryz.func128, Tryz.ntmps128
    go_wp2_with (fail)
    go_loopw [5] (fun u5 wr => ∃ k : Nat, 1 ≤ k ∧ k ≤ n ∧ u5 = .int .i64 k ∧ Hid (∀ i, i < k → nwB ll i = true) ∧ DR w wr) (fun u5 _ => n - (intOf u5).toNat)
    case atStart => exact ⟨1, by omega, by omega, rfl, (fun i hi => by rw [show i = 0 by omega]; exact H00.out), DR.refl _⟩
    case round =>
      obtain ⟨k, hk1, hk, rfl, HI, hdr⟩ := hrel
      by_cases hlt : k < n
      · obtain ⟨A1, c1, ev1, _⟩ := own_slice' (HR.out.2.1 k (by rw [HVL.out]; exact hlt))
        obtain ⟨A0, c0, ev0, _⟩ := own_slice' (HR.out.2.1 (k - 1) (by rw [HVL.out]; omega))
        have r1 := HR.out.2.1 k (by rw [HVL.out]; exact hlt)
        have r0 := HR.out.2.1 (k - 1) (by rw [HVL.out]; omega)
        rw [ev1] at r1
        rw [ev0] at r0
        have i1 : IS wr w.heap.size A1 (gl ll k) := by obtain ⟨m, rfl⟩ := hdr; exact r1.is rfl
        have i0 : IS wr w.heap.size A0 (gl ll (k - 1)) := by obtain ⟨m, rfl⟩ := hdr; exact r0.is rfl
        have e1 : wr.cell? ⟨g, k, none⟩ = some (.slice A1 (gl ll k).length c1) := by
          refine (hdr.cell _).trans ?_
          rw [HO.out.cellAt k (by omega), gv_at (by rw [HVL.out]; exact hlt), ev1]
        have e0 : wr.cell? ⟨g, k - 1, none⟩ = some (.slice A0 (gl ll (k - 1)).length c0) := by
          refine (hdr.cell _).trans ?_
          rw [HO.out.cellAt (k - 1) (by omega), gv_at (by rw [HVL.out]; omega), ev0]
        have l1 := HROW.out k hlt
        have l0 := HROW.out (k - 1) (by omega)
        have hs1 : IntKind.i64.wrap ((k : Int) - 1) = (k : Int) - 1 := IntWalk.i64_in _ (by omega)
        have hs2 : ((k : Int) - 1).toNat = k - 1 := by omega
        have hs3 : 1 ≤ (k : Int) := by omega
        have hs4 : 0 ≤ (k : Int) - 1 := by omega
        have hs5 : (k : Int) - 1 < (n : Int) := by omega
        have hnw : nwB ll k = !(decide (gl ll k = gl ll (k - 1))) := by
          unfold nwB
          rw [decide_eq_false (show ¬ k = 0 by omega), Bool.false_or]
        clear ev1 ev0 r1 r0
        generalize hx : gl ll k = x at *
        generalize hy : gl ll (k - 1) = y at *
        generalize hlx : x.length = lx at *
        generalize hly : y.length = ly at *
        have HLX := Lib.hid hlx
        have HLY := Lib.hid hly
        have HX := Lib.hid hx
        clear hx hy hlx hly
        cases hd : decide (x = y)
        · rw [hd] at hnw
          have hn' : ∀ i, i < k + 1 → nwB ll i = true := fun i hi => by
            by_cases h : i = k
            · subst h; rw [hnw]; rfl
            · exact HI.out i (by omega)
          have HN' := Lib.hid hn'
          have HD := Lib.hid hd
          clear hn' hnw hd
          go_wp2_with (go_quiet ((go_at_call 129; exact Calls.quiet_of (i_blkEqV A1 A0 lx c1 ly c0 x y _ _ _ HLX.out.symm HLY.out.symm (by omega) (by omega) (i1.drewN _) (i0.drewN _) HD.out))))
          go_roundw
          case rel => exact ⟨k + 1, by omega, by omega, by go_num, HN'.out, by repeat (first | exact hdr | refine DR.step ?_ _)⟩
          case measure => simp [intOf]; omega
        · rw [hd] at hnw
          have HNW := Lib.hid hnw
          have HD := Lib.hid hd
          clear hnw hd
          go_wp2_with (go_quiet ((go_at_call 129; exact Calls.quiet_of (i_blkEqV A1 A0 lx c1 ly c0 x y _ _ _ HLX.out.symm HLY.out.symm (by omega) (by omega) (i1.drewN _) (i0.drewN _) HD.out))))
          have hk0 : nwB ll k = false := by rw [HNW.out]; rfl
          have hkall := nwL_all HI.out
          have hkn : nwL ll (k + 1) = List.range k := by rw [nwL_no hk0, hkall]
          have HKN := Lib.hid hkn
          have HK0 := Lib.hid hk0
          obtain ⟨q0, rfl⟩ := hdr
          have hcne : ¬ c = k := by omega
          clear i1 i0 e1 e0 l1 l0 hs1 hs2 hs3 hs4 hs5 HX HI hkn hk0 hkall HLX HLY HD HNW
          go_wp2_with (fail)
          go_loopw [5, 7] (fun u5 u7 wr => ∃ (j : Nat) (va : List Value), 1 ≤ j ∧ j ≤ n - k ∧ u7 = .int .i64 j ∧ u5 = .int .i64 ((nwL ll (k + j)).length : Nat) ∧ wr.ownsRow base 24 1 (.slice (some ⟨g, 0, none⟩) n c) n va ∧ w.grownBy wr (some g) ∧ Hid (∀ t, t < (nwL ll (k + j)).length → va[t]? = some (gv vs ((nwL ll (k + j)).getD t 0))) ∧ Hid (∀ t, k + j - 1 ≤ t → t < n → va[t]? = some (gv vs t))) (fun _ u7 _ => n - k - (intOf u7).toNat)
          case atStart =>
            refine ⟨1, vs, by omega, by omega, rfl, by rw [HKN.out, List.length_range], HO.out, gto (gdrew q0) _, fun t ht => ?_, fun t _ ht => gv_at (by rw [HVL.out]; exact ht)⟩
            rw [HKN.out] at ht ⊢
            rw [List.length_range] at ht
            rw [show (List.range k).getD t 0 = t by simp [List.getD, ht]]
            exact gv_at (by rw [HVL.out]; omega)
          case round =>
            obtain ⟨ws, rfl⟩ : ∃ ws : World, ws = wr := ⟨_, rfl⟩
            obtain ⟨j, va, hj1, hj, rfl, rfl, hoa, hga, HA, HB⟩ := hrel
            have hless := nwL_less (ll := ll) (n := k + j) (k := k) (by omega) HK0.out
            by_cases hjn : j < n - k
            · have hkj : k + j < n := by omega
              obtain ⟨A1, c1, ev1, _⟩ := own_slice' (HR.out.2.1 (k + j) (by rw [HVL.out]; exact hkj))
              obtain ⟨A0, c0, ev0, _⟩ := own_slice' (HR.out.2.1 (k + (j - 1)) (by rw [HVL.out]; omega))
              have hrk := HR.out.kept hga HNE.out
              have r1 := hrk.2.1 (k + j) (by rw [HVL.out]; exact hkj)
              have r0 := hrk.2.1 (k + (j - 1)) (by rw [HVL.out]; omega)
              rw [ev1] at r1
              rw [ev0] at r0
              have i1 : IS ws ws.heap.size A1 (gl ll (k + j)) := r1.is rfl
              have i0 : IS ws ws.heap.size A0 (gl ll (k + (j - 1))) := r0.is rfl
              have e1 : ws.cell? ⟨g, k + j, none⟩ = some (.slice A1 (gl ll (k + j)).length c1) := by
                rw [hoa.cellAt (k + j) (by omega), HB.out (k + j) (by omega) hkj, ev1]
              have e0 : ws.cell? ⟨g, k + (j - 1), none⟩ = some (.slice A0 (gl ll (k + (j - 1))).length c0) := by
                rw [hoa.cellAt (k + (j - 1)) (by omega), HB.out (k + (j - 1)) (by omega) (by omega), ev0]
              have l1 := HROW.out (k + j) hkj
              have l0 := HROW.out (k + (j - 1)) (by omega)
              have hs1 : IntKind.i64.wrap ((j : Int) - 1) = (j : Int) - 1 := IntWalk.i64_in _ (by omega)
              have hs2 : ((j : Int) - 1).toNat = j - 1 := by omega
              have hs3 : 1 ≤ (j : Int) := by omega
              have hs4 : 0 ≤ (j : Int) - 1 := by omega
              have hs5 : (j : Int) - 1 < ((n - k : Nat) : Int) := by omega
              have hnw : nwB ll (k + j) = !(decide (gl ll (k + j) = gl ll (k + (j - 1)))) := by
                unfold nwB
                rw [decide_eq_false (show ¬ k + j = 0 by omega), Bool.false_or, show k + j - 1 = k + (j - 1) by omega]
              have hfr := hoa.frozenAt (nwL ll (k + j)).length
              have hci : ∃ u, ws.cell? ⟨g, (nwL ll (k + j)).length, none⟩ = some u := by
                rw [hoa.cellAt _ (by omega)]
                exact ⟨_, List.getElem?_eq_getElem (by have := hoa.1; omega)⟩
              obtain ⟨u0, hci⟩ := hci
              obtain ⟨s1, s2⟩ := hoa.stored (nwL ll (k + j)).length (gv vs (k + j))
              have HVA := Lib.hid (show va.length = n by have := hoa.1; omega)
              have hA' : ∀ t, t < (nwL ll (k + j)).length + 1 → (va.set (nwL ll (k + j)).length (gv vs (k + j)))[t]? = some (gv vs ((nwL ll (k + j) ++ [k + j]).getD t 0)) := fun t ht => by
                by_cases h : t = (nwL ll (k + j)).length
                · subst h
                  rw [List.getElem?_set_self (by rw [HVA.out]; omega)]
                  simp [List.getD]
                · rw [List.getElem?_set_ne (by omega), HA.out t (by omega)]
                  rw [List.getD_eq_getElem?_getD, List.getD_eq_getElem?_getD, List.getElem?_append_left (by omega)]
              have hB' : ∀ t, k + (j + 1) - 1 ≤ t → t < n → (va.set (nwL ll (k + j)).length (gv vs (k + j)))[t]? = some (gv vs t) := fun t ht ht' => by
                rw [List.getElem?_set_ne (by omega)]; exact HB.out t (by omega) ht'
              have HA' := Lib.hid hA'
              have HB' := Lib.hid hB'
              have hg2 := hga.trans s2
              generalize hvb : va.set (nwL ll (k + j)).length (gv vs (k + j)) = vb at *
              rw [ev1] at s1 hg2
              clear hvb hA' hB' s2 ev1 ev0 r1 r0 hrk
              generalize hx : gl ll (k + j) = x at *
              generalize hy : gl ll (k + (j - 1)) = y at *
              generalize hlx : x.length = lx at *
              generalize hly : y.length = ly at *
              have HLX := Lib.hid hlx
              have HLY := Lib.hid hly
              clear hx hy hlx hly
              cases hd : decide (x = y)
              · rw [hd] at hnw
                have HQ := Lib.hid (nwL_yes (ll := ll) (j := k + j) (by rw [hnw]; rfl))
                have HD := Lib.hid hd
                clear hnw hd hoa
                generalize hKL : (nwL ll (k + j)).length = i at *
                have HKL := Lib.hid hKL
                clear hKL
                go_wp2_with (go_quiet ((go_at_call 129; exact Calls.quiet_of (i_blkEqV A1 A0 lx c1 ly c0 x y _ _ _ HLX.out.symm HLY.out.symm (by omega) (by omega) (i1.drewN _) (i0.drewN _) HD.out))))
                go_roundw
                case rel => exact ⟨j + 1, vb, by omega, by omega, by go_num, by rw [show k + (j + 1) = k + j + 1 by omega, HQ.out, List.length_append, HKL.out]; go_num, s1, gto hg2 _, by rw [show k + (j + 1) = k + j + 1 by omega, HQ.out]; intro t ht; rw [List.length_append, HKL.out] at ht; exact HA'.out t ht, HB'.out⟩
                case measure => simp [intOf]; omega
              · rw [hd] at hnw
                have HQ := Lib.hid (nwL_no (ll := ll) (j := k + j) (by rw [hnw]; rfl))
                have HD := Lib.hid hd
                have HOA := Lib.hid hoa
                clear hnw hd hoa s1 hg2
                generalize hKL : (nwL ll (k + j)).length = i at *
                have HKL := Lib.hid hKL
                clear hKL
                go_wp2_with (go_quiet ((go_at_call 129; exact Calls.quiet_of (i_blkEqV A1 A0 lx c1 ly c0 x y _ _ _ HLX.out.symm HLY.out.symm (by omega) (by omega) (i1.drewN _) (i0.drewN _) HD.out))))
                go_roundw
                case rel => exact ⟨j + 1, va, by omega, by omega, by go_num, by rw [show k + (j + 1) = k + j + 1 by omega, HQ.out, HKL.out], HOA.out, gto hga _, by rw [show k + (j + 1) = k + j + 1 by omega, HQ.out, HKL.out]; exact HA.out, fun t ht ht' => HB.out t (by omega) ht'⟩
                case measure => simp [intOf]; omega
            · obtain rfl : j = n - k := by omega
              have hkk : k + (n - k) = n := by omega
              rw [hkk] at hless HA
              have hI : ∀ t, t < n - (nwL ll n).length → (ws.cell? ⟨g, (nwL ll n).length + t, none⟩).isSome = true := fun t ht => by
                rw [hoa.cellAt _ (by omega), List.getElem?_eq_getElem (by have := hoa.1; omega)]; rfl
              have hJ : ∀ t, t < n - (nwL ll n).length → ws.frozen? ⟨g, (nwL ll n).length + t, none⟩ = false := fun t _ => hoa.frozenAt _
              have hcl : ∀ ty, (Builtin.clear_ #[29] ty #[.slice (some ⟨g, (nwL ll n).length, none⟩) (n - (nwL ll n).length) (c - (nwL ll n).length)]).run Tryz.prog ws = .ok (.tuple #[]) (ws.setCells g (nwL ll n).length (List.replicate (n - (nwL ll n).length) (.slice none 0 0))) :=
                fun ty => Lib.run_clear_slice ws 29 24 ty (.slice none 0 0) Tryz.underlying29 (fun _ => rfl) rfl rfl g _ _ _ (by omega) hI hJ
              obtain ⟨vz, z1, z2, z3⟩ := own_setCells (List.replicate (n - (nwL ll n).length) (Value.slice none 0 0)) (nwL ll n).length hoa
              have hfin : CPF ll base g c w (.returned (.slice (some ⟨g, 0, none⟩) (nwL ll n).length c)) (ws.setCells g (nwL ll n).length (List.replicate (n - (nwL ll n).length) (.slice none 0 0))) := by
                have hg := hga.trans z3
                have hfl : (cpL ll).length = (nwL ll n).length := by unfold cpL; rw [List.length_map, ← HN.out]
                have hzl := z1.1
                have evs : vz.take (nwL ll n).length = (nwL ll n).map (gv vs) := by
                  refine List.ext_getElem? fun t => ?_
                  by_cases ht : t < (nwL ll n).length
                  · rw [List.getElem?_take_of_lt ht, z2 t ht, HA.out t ht, List.getElem?_map, List.getElem?_eq_getElem ht]
                    simp [List.getD, List.getElem?_eq_getElem ht]
                  · rw [List.getElem?_eq_none (by rw [List.length_take]; omega), List.getElem?_eq_none (by rw [List.length_map]; omega)]
                refine ⟨(nwL ll n).length, _, rfl, hfl.symm, own_take z1 (by omega), ?_, hg⟩
                rw [evs]
                have hk := HR.out.kept hg HNE.out
                have := hk.pick
                rwa [← HN.out] at this
              have HFIN := Lib.hid hfin
              have hci : ¬ c = (nwL ll n).length := by omega
              rw [hkk]
              clear hfin z1 z2 z3 hI hJ HA HB hoa hga hkk
              generalize (nwL ll n).length = i at *
              go_wp2_with (fail)
              go_ret
              exact HFIN.out
      · obtain rfl : k = n := by omega
        obtain ⟨q, rfl⟩ := hdr
        have H := Lib.hid (HID.out q HI.out)
        go_wp2_with (fail)
        go_ret
        exact H.out
end Go.Proofs.YtglijcdnnaekkaaGreat
