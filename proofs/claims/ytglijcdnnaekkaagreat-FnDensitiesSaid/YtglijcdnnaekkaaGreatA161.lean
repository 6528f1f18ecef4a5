/- Several parts of the proof in one text; each part says what it shows. Nothing is assumed. -/
import Derived.Test.YtglijcdnnaekkaaGreatA155
import Derived.Lib.QuietBelow
/- Types in order: comparing, and inserting one by one. -/
namespace Go.Proofs.YtglijcdnnaekkaaGreat
set_option linter.unusedVariables false
set_option linter.unusedSimpArgs false
open Go.RowKit

def lexC : List Int → List Int → Int
  | [], [] => 0
  | [], _ :: _ => -1
  | _ :: _, [] => 1
  | x :: a, y :: b => if x < y then -1 else if y < x then 1 else lexC a b
def cmpN (a b : Int) : Int := if a < b then -1 else if b < a then 1 else 0
def cmpT (a b : List Int) : Int := if cmpN b.length a.length ≠ 0 then cmpN b.length a.length else lexC a b
def lexL : List Int → List Int → Bool
  | x :: a, y :: b => if x = y then lexL a b else decide (x < y)
  | _, _ => false
def bef (a b : List Int) : Bool := if a.length ≠ b.length then decide (b.length < a.length) else lexL a b
theorem lexC_b : ∀ a b : List Int, -1 ≤ lexC a b ∧ lexC a b ≤ 1
  | [], [] => by simp [lexC]
  | [], _ :: _ => by simp [lexC]
  | _ :: _, [] => by simp [lexC]
  | x :: a, y :: b => by
    unfold lexC
    by_cases h : x < y
    · simp [h]
    · by_cases h' : y < x
      · simp [h, h']
      · simp only [h, h', if_false]; exact lexC_b a b
theorem cmpN_b (a b : Int) : -1 ≤ cmpN a b ∧ cmpN a b ≤ 1 := by unfold cmpN; split <;> (try split) <;> omega
theorem cmpT_b (a b : List Int) : -1 ≤ cmpT a b ∧ cmpT a b ≤ 1 := by
  unfold cmpT; split
  · exact cmpN_b _ _
  · exact lexC_b _ _
theorem lexC_L : ∀ a b : List Int, a.length = b.length → (lexC a b < 0 ↔ lexL a b = true)
  | [], [] => fun _ => by simp [lexC, lexL]
  | [], _ :: _ => fun h => by simp at h
  | _ :: _, [] => fun h => by simp at h
  | x :: a, y :: b => fun h => by
    unfold lexC lexL
    rcases Int.lt_trichotomy x y with h1 | h1 | h1
    · have : ¬ x = y := by omega
      simp [h1, this]
    · subst h1
      simp only [Int.lt_irrefl, if_false, if_true]
      exact lexC_L a b (by simpa using h)
    · have h2 : ¬ x = y := by omega
      have h3 : ¬ x < y := by omega
      simp [h1, h2, h3]
theorem cmpT_bef (a b : List Int) : cmpT a b < 0 ↔ bef a b = true := by
  unfold cmpT bef cmpN
  rcases Nat.lt_trichotomy a.length b.length with h | h | h
  · have h1 : ¬ ((b.length : Int) < a.length) := by omega
    have h2 : (a.length : Int) < b.length := by omega
    have h3 : a.length ≠ b.length := by omega
    simp [h1, h2, h3]; omega
  · have h1 : ¬ ((b.length : Int) < a.length) := by omega
    have h2 : ¬ ((a.length : Int) < b.length) := by omega
    rw [if_neg h1, if_neg h2, if_neg (by simp), if_neg (by omega)]
    exact lexC_L a b h
  · have h1 : ((b.length : Int) < a.length) := by omega
    have h3 : a.length ≠ b.length := by omega
    simp [h1, h3]; omega
/-- Where x stands when it is put into l from the end. -/
def atF (x : List Int) (l : List (List Int)) : Nat → Nat
  | 0 => 0
  | k + 1 => if bef x (gl l k) = true then atF x l k else k + 1
theorem atF_le (x : List Int) (l : List (List Int)) : ∀ k, atF x l k ≤ k
  | 0 => Nat.le_refl _
  | k + 1 => by
    unfold atF
    by_cases h : bef x (gl l k) = true
    · rw [if_pos h]; have := atF_le x l k; omega
    · rw [if_neg h]; exact Nat.le_refl _
theorem atF_yes {x : List Int} {l : List (List Int)} {k : Nat} (h : bef x (gl l k) = true) : atF x l (k + 1) = atF x l k := if_pos h
theorem atF_no {x : List Int} {l : List (List Int)} {k : Nat} (h : bef x (gl l k) = false) : atF x l (k + 1) = k + 1 := if_neg (by rw [h]; decide)
/-- The first i of ll in order. -/
def srt (ll : List (List Int)) : Nat → List (List Int)
  | 0 => []
  | i + 1 => (srt ll i).take (atF (gl ll i) (srt ll i) i) ++ [gl ll i] ++ (srt ll i).drop (atF (gl ll i) (srt ll i) i)
theorem srt_len (ll : List (List Int)) : ∀ i, (srt ll i).length = i
  | 0 => rfl
  | i + 1 => by
    have h := srt_len ll i
    have h2 := atF_le (gl ll i) (srt ll i) i
    unfold srt
    simp [h]
    omega
theorem gl_app {a b : List (List Int)} (k : Nat) : gl (a ++ b) k = if k < a.length then gl a k else gl b (k - a.length) := by
  unfold gl
  rw [List.getD_eq_getElem?_getD]
  by_cases h : k < a.length
  · rw [if_pos h, List.getElem?_append_left h, List.getD_eq_getElem?_getD]
  · rw [if_neg h, List.getElem?_append_right (by omega), List.getD_eq_getElem?_getD]
theorem gl_take {a : List (List Int)} {j k : Nat} (h : k < j) : gl (a.take j) k = gl a k := by simp [gl, List.getElem?_take, h]
theorem gl_drop (a : List (List Int)) (j k : Nat) : gl (a.drop j) k = gl a (j + k) := by simp [gl]
theorem ll_ext {a b : List (List Int)} (h : a.length = b.length) (h2 : ∀ k, k < a.length → gl a k = gl b k) : a = b := by
  apply List.ext_getElem h
  intro k h3 h4
  rw [gl_eq, gl_eq]; exact h2 k h3
theorem RowsO.perm {w : World} {base : Nat} {vs vs' : List Value} {ll ll' : List (List Int)} (σ : Nat → Nat) (h : RowsO w base vs ll) (hl : vs'.length = vs.length) (hl' : ll'.length = ll.length)
    (hv : ∀ k, k < vs.length → gv vs' k = gv vs (σ k)) (hg : ∀ k, k < vs.length → gl ll' k = gl ll (σ k)) (hlt : ∀ k, k < vs.length → σ k < vs.length) (hin : ∀ a b, σ a = σ b → a = b) : RowsO w base vs' ll' := by
  obtain ⟨h1, h2, h3⟩ := h
  refine ⟨by rw [hl, hl', h1], fun i hi => ?_, fun a b hab hb => ?_⟩
  · rw [hl] at hi
    rw [hv i hi, hg i hi]; exact h2 _ (hlt i hi)
  · rw [hl] at hb
    rw [hv a (by omega), hv b hb]
    have hne : σ a ≠ σ b := fun e => by have := hin a b e; omega
    rcases Nat.lt_or_gt_of_ne hne with h | h
    · exact h3 _ _ h (hlt b hb)
    · rcases h3 _ _ h (hlt a (by omega)) with h4 | h4
      · cases h5 : (gv vs (σ a)).ownBlock with
        | none => exact .inl rfl
        | some g => rw [h4]; exact .inr (by simp)
      · exact .inr (fun e => h4 e.symm)
end Go.Proofs.YtglijcdnnaekkaaGreat
/- Types in order: the comparing functions of both sides. -/
namespace Go.Proofs.YtglijcdnnaekkaaGreat
set_option linter.unusedVariables false
set_option linter.unusedSimpArgs false
open Go.RowKit

theorem c_cmpn (n : Int) (w : World) : Calls Tryz.prog 191 #[.int .i64 n] w (Q (.bool false) w) := by
  go_enter Tryz.func191, Tryz.ntmps191
  go_wp2_with (fail)
  go_ret
  exact ⟨rfl, 0, rfl⟩
theorem c_cmp (x y : Int) (w : World) : Calls Tryz.prog 153 #[.int .i64 x, .int .i64 y] w (Q (.int .i64 (cmpN x y)) w) := by
  have h1 := fun z W => c_cmpn z W
  rcases Int.lt_trichotomy x y with h | h | h
  · have e : cmpN x y = -1 := by simp [cmpN, h]
    rw [e]
    go_enter Tryz.func153, Tryz.ntmps153
    go_wp2_with (go_at_call 191; refine (h1 _ _).mono ?_; rintro e w' ⟨rfl, n1, rfl⟩)
    go_ret
    exact ⟨rfl, _, rfl⟩
  · have e : cmpN x y = 0 := by simp [cmpN, h]
    subst h
    rw [e]
    go_enter Tryz.func153, Tryz.ntmps153
    go_wp2_with (go_at_call 191; refine (h1 _ _).mono ?_; rintro e w' ⟨rfl, n1, rfl⟩)
    go_ret
    exact ⟨rfl, _, rfl⟩
  · have h' : ¬ x < y := by omega
    have e : cmpN x y = 1 := by simp [cmpN, h, h']
    rw [e]
    go_enter Tryz.func153, Tryz.ntmps153
    go_wp2_with (go_at_call 191; refine (h1 _ _).mono ?_; rintro e w' ⟨rfl, n1, rfl⟩)
    go_ret
    exact ⟨rfl, _, rfl⟩
theorem c_cmp64n (n : Int) (w : World) : Calls Tryz.prog 201 #[.int .i64 n] w (Q (.bool false) w) := by
  go_enter Tryz.func201, Tryz.ntmps201
  go_wp2_with (fail)
  go_ret
  exact ⟨rfl, 0, rfl⟩
theorem c_cmp64 (x y : Int) (w : World) : Calls Tryz.prog 176 #[.int .i64 x, .int .i64 y] w (Q (.int .i64 (cmpN x y)) w) := by
  have h1 := fun z W => c_cmp64n z W
  rcases Int.lt_trichotomy x y with h | h | h
  · have e : cmpN x y = -1 := by simp [cmpN, h]
    rw [e]
    go_enter Tryz.func176, Tryz.ntmps176
    go_wp2_with (go_at_call 201; refine (h1 _ _).mono ?_; rintro e w' ⟨rfl, n1, rfl⟩)
    go_ret
    exact ⟨rfl, _, rfl⟩
  · have e : cmpN x y = 0 := by simp [cmpN, h]
    subst h
    rw [e]
    go_enter Tryz.func176, Tryz.ntmps176
    go_wp2_with (go_at_call 201; refine (h1 _ _).mono ?_; rintro e w' ⟨rfl, n1, rfl⟩)
    go_ret
    exact ⟨rfl, _, rfl⟩
  · have h' : ¬ x < y := by omega
    have e : cmpN x y = 1 := by simp [cmpN, h, h']
    rw [e]
    go_enter Tryz.func176, Tryz.ntmps176
    go_wp2_with (go_at_call 201; refine (h1 _ _).mono ?_; rintro e w' ⟨rfl, n1, rfl⟩)
    go_ret
    exact ⟨rfl, _, rfl⟩
theorem drop_gt {xs : List Int} {k : Nat} (h : k < xs.length) : xs.drop k = gt xs k :: xs.drop (k + 1) := by
  rw [List.drop_eq_getElem_cons h]
  simp [gt, List.getElem?_eq_getElem h]
theorem drop_nil {xs : List Int} {k : Nat} (h : xs.length ≤ k) : xs.drop k = [] := by simp [h]
theorem lexC_cons (x y : Int) (a b : List Int) : lexC (x :: a) (y :: b) = if x < y then -1 else if y < x then 1 else lexC a b := rfl
theorem cmpN_nz {x y : Int} (h : x ≠ y) : cmpN x y ≠ 0 := by
  unfold cmpN
  split <;> (try split) <;> omega
theorem lexC_ne {x y : Int} {a b : List Int} (h : x ≠ y) : lexC (x :: a) (y :: b) = cmpN x y := by
  rw [lexC_cons]; unfold cmpN
  by_cases h1 : x < y
  · rw [if_pos h1, if_pos h1]
  · have h2 : y < x := by omega
    rw [if_neg h1, if_neg h1, if_pos h2, if_pos h2]
theorem lexC_eq {x : Int} {a b : List Int} : lexC (x :: a) (x :: b) = lexC a b := by rw [lexC_cons, if_neg (by omega), if_neg (by omega)]
set_option maxHeartbeats 1000000 in
theorem c_compare (A A' : Option Addr) (n c n' c' : Nat) (xs ys : List Int) (w : World) (B B' : Nat) (hn : n = xs.length) (hn' : n' = ys.length) (hl : n ≤ 1048576) (hl' : n' ≤ 1048576) (hs : IS w B A xs) (hs' : IS w B' A' ys) :
    Calls Tryz.prog 127 #[.slice A n c, .slice A' n' c'] w (Q (.int .i64 (lexC xs ys)) w) := by
  have HN := Lib.hid hn
  have HN' := Lib.hid hn'
  clear hn hn'
  go_enter Tryz.func127, Tryz.ntmps127
  go_wp2_with (fail)
  go_loopw [11] (fun u wr => ∃ k : Nat, k ≤ n ∧ k ≤ n' ∧ u = .int .i64 k ∧ Hid (lexC xs ys = lexC (xs.drop k) (ys.drop k)) ∧ DR w wr) (fun u _ => n - (intOf u).toNat)
  case atStart => exact ⟨0, Nat.zero_le _, Nat.zero_le _, rfl, rfl, DR.refl _⟩
  case round =>
    obtain ⟨k, hk, hk', rfl, HE, hdr⟩ := hrel
    by_cases hlt : k < n
    · obtain ⟨b, off, rfl, hbb, hcell⟩ := IS.at hs (k := k) (by rw [← HN.out]; exact hlt)
      have h1 := (hdr.cell _).trans (hcell k (by rw [← HN.out]; exact hlt))
      clear hcell
      have e1 := drop_gt (xs := xs) (k := k) (by rw [← HN.out]; exact hlt)
      by_cases hlt' : k < n'
      · obtain ⟨b', off', rfl, hbb', hcell'⟩ := IS.at hs' (k := k) (by rw [← HN'.out]; exact hlt')
        have h2 := (hdr.cell _).trans (hcell' k (by rw [← HN'.out]; exact hlt'))
        clear hcell'
        have e2 := drop_gt (xs := ys) (k := k) (by rw [← HN'.out]; exact hlt')
        have HE2 := HE.out
        rw [e1, e2] at HE2
        clear e1 e2 HE
        generalize gt xs k = x at *
        generalize gt ys k = y at *
        by_cases hxy : x = y
        · subst hxy
          rw [lexC_eq] at HE2
          have HE := Lib.hid HE2
          have hc : cmpN x x = 0 := by simp [cmpN]
          have hcc := fun W => c_cmp64 x x W
          rw [hc] at hcc
          clear HE2 hc
          go_wp2_with (go_at_call 176; refine (hcc _).mono ?_; rintro e w' ⟨rfl, n1, rfl⟩)
          go_roundw
          case rel => exact ⟨k + 1, by omega, by omega, by go_num, HE.out, by repeat (first | assumption | refine DR.step ?_ _)⟩
          case measure => simp [intOf]; omega
        · rw [lexC_ne hxy] at HE2
          have HE := Lib.hid HE2
          have hc := cmpN_nz hxy
          have hcc := fun W => c_cmp64 x y W
          generalize cmpN x y = cv at *
          clear HE2 hxy
          go_wp2_with (go_at_call 176; refine (hcc _).mono ?_; rintro e w' ⟨rfl, n1, rfl⟩)
          go_ret
          exact ⟨by rw [HE.out]; rfl, (show DR w _ by repeat (first | assumption | refine DR.step ?_ _))⟩
      · obtain rfl : k = n' := by omega
        have HE2 := HE.out
        rw [e1, drop_nil (xs := ys) (by rw [← HN'.out]; exact Nat.le_refl _)] at HE2
        have HE3 := Lib.hid (HE2.trans (show lexC (gt xs k :: xs.drop (k + 1)) [] = 1 from rfl))
        clear HE HE2 e1
        go_wp2_with (fail)
        go_ret
        obtain ⟨m, rfl⟩ := hdr
        exact ⟨by rw [HE3.out]; rfl, m, rfl⟩
    · obtain rfl : k = n := by omega
      have HE2 := HE.out
      rw [drop_nil (xs := xs) (by rw [← HN.out]; exact Nat.le_refl _)] at HE2
      by_cases hlt' : k < n'
      · have e2 := drop_gt (xs := ys) (k := k) (by rw [← HN'.out]; exact hlt')
        rw [e2] at HE2
        have HE3 := Lib.hid (HE2.trans (show lexC [] (gt ys k :: ys.drop (k + 1)) = -1 from rfl))
        clear HE HE2 e2
        go_wp2_with (fail)
        go_ret
        obtain ⟨m, rfl⟩ := hdr
        exact ⟨by rw [HE3.out]; rfl, m, rfl⟩
      · rw [drop_nil (xs := ys) (by rw [← HN'.out]; omega)] at HE2
        have HE3 := Lib.hid (HE2.trans (show lexC [] [] = 0 from rfl))
        clear HE HE2
        go_wp2_with (fail)
        go_ret
        obtain ⟨m, rfl⟩ := hdr
        exact ⟨by rw [HE3.out]; rfl, m, rfl⟩
def orV (x y : Int) : Int := if x ≠ 0 then x else y
theorem orV_yes {x y : Int} (h : ¬ x = 0) : orV x y = x := if_pos h
theorem orV_no (y : Int) : orV 0 y = y := if_neg (by simp)
set_option maxHeartbeats 1000000 in
theorem c_or (g c : Nat) (x y : Int) (w : World) (h0 : w.cell? ⟨g, 0, none⟩ = some (.int .i64 x)) (h1 : w.cell? ⟨g, 1, none⟩ = some (.int .i64 y)) :
    Calls Tryz.prog 152 #[.slice (some ⟨g, 0, none⟩) 2 c] w (Q (.int .i64 (orV x y)) w) := by
  go_enter Tryz.func152, Tryz.ntmps152
  go_wp2_with (fail)
  go_loopw [8] (fun u wr => ∃ k : Nat, k ≤ 2 ∧ u = .int .i64 k ∧ (0 < k → x = 0) ∧ (1 < k → y = 0) ∧ DR w wr) (fun u _ => 2 - (intOf u).toNat)
  case atStart => exact ⟨0, Nat.zero_le _, rfl, fun h => by omega, fun h => by omega, DR.refl _⟩
  case round =>
    obtain ⟨k, hk, rfl, hx, hy, hdr⟩ := hrel
    have h0 := (hdr.cell _).trans h0
    have h1 := (hdr.cell _).trans h1
    have hk3 : k = 0 ∨ k = 1 ∨ k = 2 := by omega
    rcases hk3 with rfl | rfl | rfl
    · by_cases hz : x = 0
      · subst hz
        clear hx hy
        go_wp2_with (fail)
        go_roundw
        case rel => exact ⟨1, by omega, by go_num, by simp, by simp, by repeat (first | assumption | refine DR.step ?_ _)⟩
        case measure => simp [intOf]
      · clear hx hy
        go_wp2_with (fail)
        go_ret
        obtain ⟨m, rfl⟩ := hdr
        exact ⟨by rw [orV_yes hz]; rfl, m, rfl⟩
    · obtain rfl := hx (by omega)
      by_cases hz : y = 0
      · subst hz
        clear hx hy
        go_wp2_with (fail)
        go_roundw
        case rel => exact ⟨2, by omega, by go_num, by simp, by simp, by repeat (first | assumption | refine DR.step ?_ _)⟩
        case measure => simp [intOf]
      · clear hx hy
        go_wp2_with (fail)
        go_ret
        obtain ⟨m, rfl⟩ := hdr
        exact ⟨by rw [orV_no]; rfl, m, rfl⟩
    · obtain rfl := hx (by omega)
      obtain rfl := hy (by omega)
      clear hx hy
      go_wp2_with (fail)
      go_ret
      obtain ⟨m, rfl⟩ := hdr
      exact ⟨by rw [orV_no]; rfl, m, rfl⟩
set_option maxHeartbeats 1000000 in
theorem i_compareTypes (A A' : Option Addr) (n c n' c' : Nat) (xs ys : List Int) (w : World) (B B' : Nat) (hn : n = xs.length) (hn' : n' = ys.length) (hl : n ≤ 1048576) (hl' : n' ≤ 1048576) (hs : IS w B A xs) (hs' : IS w B' A' ys) :
    Calls Tryz.prog 83 #[.slice A n c, .slice A' n' c'] w (fun e w' => e = .returned (.int .i64 (cmpT xs ys)) ∧ ∃ q os, w' = Go.Sort.grow (w.drewN q) os) := by
  have hct := fun W => c_cmp (n' : Int) (n : Int) W
  have hcp := fun q => c_compare A A' n c n' c' xs ys (w.drewN q) B B' hn hn' hl hl' hs hs'
  have hT : cmpT xs ys = orV (cmpN (n' : Int) (n : Int)) (lexC xs ys) := by rw [hn, hn']; rfl
  generalize cmpN (n' : Int) (n : Int) = cv at *
  generalize lexC xs ys = lv at *
  have hor := fun W g c h0 h1 => c_or g c cv lv W h0 h1
  rw [← hT] at hor
  have hor := fun W : World => hor (W.alloc (.cells #[.int .i64 cv, .int .i64 lv] 3)) W.heap.size 2 (by simp) (by simp)
  generalize cmpT xs ys = tv at *
  clear hn hn' hs hs' hT
  go_enter Tryz.func83, Tryz.ntmps83
  go_wp2_with (first
    | (go_at_call 153; refine (hct _).mono ?_; rintro e w' ⟨rfl, n1, rfl⟩)
    | (go_at_call 127; refine (hcp _).mono ?_; rintro e w' ⟨rfl, n2, rfl⟩)
    | (go_at_call 152; refine (hor _).mono ?_; rintro e w' ⟨rfl, n3, rfl⟩))
  go_ret
  exact ⟨rfl, n1 + n2 + n3, #[.cells #[.int .i64 cv, .int .i64 lv] 3], by rw [← Go.Sort.alloc_eq_grow]; simp only [World.alloc, World.drewN, Nat.add_assoc]⟩
theorem lexL_cons {x y : Int} {a b : List Int} (h : ¬ x = y) : lexL (x :: a) (y :: b) = decide (x < y) := if_neg h
theorem lexL_eq {x : Int} {a b : List Int} : lexL (x :: a) (x :: b) = lexL a b := if_pos rfl
set_option maxHeartbeats 1000000 in
theorem s_before (A A' : Option Addr) (n c n' c' : Nat) (xs ys : List Int) (w : World) (B B' : Nat) (hn : n = xs.length) (hn' : n' = ys.length) (hl : n ≤ 1048576) (hl' : n' ≤ 1048576) (hs : IS w B A xs) (hs' : IS w B' A' ys) :
    Calls Tryz.prog 85 #[.slice A n c, .slice A' n' c'] w (Q (.bool (bef xs ys)) w) := by
  have HN := Lib.hid hn
  have HN' := Lib.hid hn'
  have hbf : bef xs ys = if n ≠ n' then decide (n' < n) else lexL xs ys := by rw [hn, hn']; rfl
  clear hn hn'
  by_cases hne : n = n'
  · subst hne
    rw [if_neg (by simp)] at hbf
    have HB := Lib.hid hbf
    clear hbf
    go_enter Tryz.func85, Tryz.ntmps85
    go_wp2_with (fail)
    go_loopw [5] (fun u wr => ∃ k : Nat, k ≤ n ∧ u = .int .i64 k ∧ Hid (bef xs ys = lexL (xs.drop k) (ys.drop k)) ∧ DR w wr) (fun u _ => n - (intOf u).toNat)
    case atStart => exact ⟨0, Nat.zero_le _, rfl, HB, DR.refl _⟩
    case round =>
      clear HB
      obtain ⟨k, hk, rfl, HE, hdr⟩ := hrel
      have HE2 := HE.out
      by_cases hlt : k < n
      · obtain ⟨b, off, rfl, hbb, hcell⟩ := IS.at hs (k := k) (by rw [← HN.out]; exact hlt)
        obtain ⟨b', off', rfl, hbb', hcell'⟩ := IS.at hs' (k := k) (by rw [← HN'.out]; exact hlt)
        have h1 := (hdr.cell _).trans (hcell k (by rw [← HN.out]; exact hlt))
        have h2 := (hdr.cell _).trans (hcell' k (by rw [← HN'.out]; exact hlt))
        rw [drop_gt (xs := xs) (k := k) (by rw [← HN.out]; exact hlt), drop_gt (xs := ys) (k := k) (by rw [← HN'.out]; exact hlt)] at HE2
        clear hcell hcell' HE
        generalize gt xs k = x at *
        generalize gt ys k = y at *
        by_cases heq : x = y
        · subst heq
          rw [lexL_eq] at HE2
          have HE := Lib.hid HE2
          clear HE2
          go_wp2_with (go_quiet (fail))
          go_roundw
          case rel => exact ⟨k + 1, by omega, by go_num, HE.out, by repeat (first | assumption | refine DR.step ?_ _)⟩
          case measure => simp [intOf]; omega
        · rw [lexL_cons heq] at HE2
          have HE := Lib.hid HE2
          have ht : (x == y) = false := by rw [beq_eq_false_iff_ne]; exact heq
          clear HE2 heq
          go_wp2_with (go_quiet (fail))
          go_ret
          exact ⟨ret_bool HE.out.symm, (show DR w _ by repeat (first | assumption | refine DR.step ?_ _))⟩
      · obtain rfl : k = n := by omega
        rw [drop_nil (xs := xs) (by rw [← HN.out]; exact Nat.le_refl _), drop_nil (xs := ys) (by rw [← HN'.out]; exact Nat.le_refl _)] at HE2
        have HE := Lib.hid (HE2.trans (show lexL [] [] = false from rfl))
        clear HE2
        go_wp2_with (fail)
        go_ret
        exact ⟨ret_bool HE.out.symm, hdr⟩
  · rw [if_pos hne] at hbf
    have HF := Lib.hid hbf
    have hz : ¬ (n : Int) = (n' : Int) := by omega
    clear hbf
    by_cases hg : n' < n
    · have HB := Lib.hid (HF.out.trans (decide_eq_true hg))
      go_enter Tryz.func85, Tryz.ntmps85
      go_wp2_with (fail)
      go_ret
      exact ⟨ret_bool HB.out.symm, 0, rfl⟩
    · have HB := Lib.hid (HF.out.trans (decide_eq_false hg))
      go_enter Tryz.func85, Tryz.ntmps85
      go_wp2_with (fail)
      go_ret
      exact ⟨ret_bool HB.out.symm, 0, rfl⟩
end Go.Proofs.YtglijcdnnaekkaaGreat
