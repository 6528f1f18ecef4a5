/- Several parts of the proof in one text; each part says what it shows. Nothing is assumed. -/
import Derived.Test.YtglijcdnnaekkaaGreatA134
import Derived.Test.YtglijcdnnaekkaaGreatA137
import Derived.Test.YtglijcdnnaekkaaGreatA101
import Derived.Test.YtglijcdnnaekkaaGreatA155
import Derived.Deep.RegionLaw
/- Several parts of the proof in one text; each part says what it shows. Nothing is assumed. -/
/- Groups: whether a group is valid, on both sides. -/
namespace Go.Proofs.YtglijcdnnaekkaaGreat
set_option linter.unusedVariables false
set_option linter.unusedSimpArgs false
open Go.RowKit

theorem II.callG {w w' : World} {A : Option Addr} {ll : List (List Int)} (h : II w w.heap.size A ll) (hb : Below w.heap.size w w') : II w' w'.heap.size A ll := (h.below hb).more hb.size
def riseP (f : Int) (l : List Int) (k : Nat) : Prop := 0 ≤ gt l k ∧ gt l k ≤ f - 1 ∧ (0 < k → gt l (k - 1) < gt l k)
instance riseDec (f : Int) (l : List Int) (k : Nat) : Decidable (riseP f l k) := by unfold riseP; infer_instance
def riseB (f : Int) (l : List Int) : Bool := (List.range l.length).all fun k => decide (riseP f l k)
theorem riseB_t {f : Int} {l : List Int} (h : ∀ k, k < l.length → riseP f l k) : riseB f l = true := by
  unfold riseB; rw [List.all_eq_true]; intro k hk; rw [List.mem_range] at hk; simpa using h k hk
theorem riseB_p {f : Int} {l : List Int} (h : riseB f l = true) : ∀ k, k < l.length → riseP f l k := by
  unfold riseB at h; rw [List.all_eq_true] at h
  intro k hk
  simpa using h k (List.mem_range.2 hk)
theorem riseB_f {f : Int} {l : List Int} {k : Nat} (hk : k < l.length) (h : ¬ riseP f l k) : riseB f l = false := by
  rw [Bool.eq_false_iff]; exact fun h' => h (riseB_p h' k hk)
theorem rise_ge {f : Int} {l : List Int} (h : ∀ k, k < l.length → riseP f l k) : ∀ k, k < l.length → (k : Int) ≤ gt l k
  | 0, h0 => (h 0 h0).1
  | k + 1, h1 => by
    have h2 := rise_ge h k (by omega)
    have h3 := (h (k + 1) h1).2.2 (by omega)
    rw [Nat.add_sub_cancel] at h3
    omega
theorem rise_len {f : Nat} {l : List Int} (h : ∀ k, k < l.length → riseP f l k) : l.length ≤ f := by
  rcases Nat.eq_zero_or_pos l.length with h0 | h0
  · omega
  · have h1 := rise_ge h (l.length - 1) (by omega)
    have h2 := (h (l.length - 1) (by omega)).2.1
    omega
theorem rise_lt {f : Int} {l : List Int} (h : ∀ k, k < l.length → riseP f l k) : ∀ j i, i < j → j < l.length → gt l i < gt l j
  | 0, i, hij, _ => by omega
  | j + 1, i, hij, hj => by
    have h3 := (h (j + 1) hj).2.2 (by omega)
    rw [Nat.add_sub_cancel] at h3
    by_cases he : i = j
    · subst he; exact h3
    · have := rise_lt h j i (by omega) (by omega); omega
theorem rise_pw {f : Int} {l : List Int} (h : ∀ k, k < l.length → riseP f l k) : l.Pairwise (· < ·) := by
  rw [List.pairwise_iff_getElem]
  intro i j hi hj hij
  have := rise_lt h j i hij hj
  simpa [gt, List.getElem?_eq_getElem hi, List.getElem?_eq_getElem hj] using this
theorem rise_in {n : Nat} {l : List Int} (h : ∀ k, k < l.length → riseP (fact n : Nat) l k) : InK n l := fun k hk => ⟨(h k hk).1, by have := (h k hk).2.1; omega⟩
def cloR (n : Nat) (l a : List Int) : Bool := (memL n l).any fun b => !decide (((rk (prodL a b) : Nat) : Int) ∈ l)
def cloB (n : Nat) (l : List Int) : Bool := (memL n l).all fun a => !cloR n l a
/-- Whether the group with so many points and these ranks is valid. -/
def grpB (p : Int) (l : List Int) : Bool := inB p 1 6 && (decide (0 < l.length) && (decide (gt l 0 = 0) && (riseB (fact p.toNat : Nat) l && cloB p.toNat l)))
theorem grpB_no1 {p : Int} {l : List Int} (h : inB p 1 6 = false) : grpB p l = false := by unfold grpB; rw [h]; rfl
theorem grpB_no2 {p : Int} {l : List Int} (h : ¬ 0 < l.length) : grpB p l = false := by unfold grpB; rw [decide_eq_false h]; simp
theorem grpB_no3 {p : Int} {l : List Int} (h : ¬ gt l 0 = 0) : grpB p l = false := by unfold grpB; rw [decide_eq_false h]; simp
theorem grpB_no4 {n : Nat} {l : List Int} (h : riseB (fact n : Nat) l = false) : grpB (n : Int) l = false := by unfold grpB; rw [Int.toNat_natCast, h]; simp
theorem grpB_eq {n : Nat} {l : List Int} (h1 : inB (n : Int) 1 6 = true) (h2 : 0 < l.length) (h3 : gt l 0 = 0) (h4 : riseB (fact n : Nat) l = true) : grpB (n : Int) l = cloB n l := by
  unfold grpB; rw [Int.toNat_natCast, h1, h4, decide_eq_true h2, decide_eq_true h3]; simp
theorem gl_memL {n : Nat} {l : List Int} {k : Nat} (h : k < l.length) : gl (memL n l) k ∈ memL n l := gl_mem (by rw [memL_len]; exact h)
theorem cloB_no {n : Nat} {l : List Int} {k : Nat} (h : k < l.length) (hc : cloR n l (gl (memL n l) k) = true) : cloB n l = false := by
  unfold cloB
  rw [Bool.eq_false_iff]
  intro h2
  rw [List.all_eq_true] at h2
  have := h2 _ (gl_memL h)
  rw [hc] at this
  simp at this
theorem cloB_yes {n : Nat} {l : List Int} (h : ∀ k, k < l.length → cloR n l (gl (memL n l) k) = false) : cloB n l = true := by
  unfold cloB
  rw [List.all_eq_true]
  intro a ha
  obtain ⟨j, hj, rfl⟩ := mem_gl.1 ha
  rw [h j (by rw [memL_len] at hj; exact hj)]
  rfl
theorem cloR_no {n : Nat} {l a : List Int} (h : ∀ k, k < l.length → ((rk (prodL a (gl (memL n l) k)) : Nat) : Int) ∈ l) : cloR n l a = false := by
  unfold cloR
  rw [List.any_eq_false]
  intro b hb
  obtain ⟨j, hj, rfl⟩ := mem_gl.1 hb
  have := h j (by rw [memL_len] at hj; exact hj)
  simpa using this
theorem cloR_yes {n : Nat} {l a : List Int} {k : Nat} (h : k < l.length) (h2 : ¬ ((rk (prodL a (gl (memL n l) k)) : Nat) : Int) ∈ l) : cloR n l a = true := by
  unfold cloR
  rw [List.any_eq_true]
  exact ⟨_, gl_memL h, by simpa using h2⟩
set_option maxRecDepth 10000 in
set_option maxHeartbeats 1000000 in
theorem i_has (p : Int) (A Aa : Option Addr) (L c n ca : Nat) (l a : List Int) (w : World) (hn6 : n ≤ 6) (hL : L = l.length) (h0 : 0 < L) (hl : L ≤ 1000) (hpw : l.Pairwise (· ≤ ·)) (hs : IS w w.heap.size A l) (ha : n = a.length) (hca : n ≤ ca) (hcm : ca ≤ maxLen) (hsa : IS w w.heap.size Aa a) :
    Calls Tryz.prog 122 #[.agg #[.int .i64 p, .slice A L c], .slice Aa n ca] w (M (.bool (decide (((rk a : Nat) : Int) ∈ l))) w) := by
  obtain ⟨b, off, rfl, hbb, hcell⟩ := IS.at hs (k := 0) (by omega)
  have hb0 := (Below.refl w.heap.size w).alloc (Nat.le_refl _) (.cells #[.int .i64 p, .slice (some ⟨b, off, none⟩) L c] 26)
  have hsa0 := hsa.call hb0
  have hrk := fun W h => i_rank Aa n ca a W W.heap.size ha hn6 hca hcm h
  have hbs := fun W h => Tryz.slices_BinarySearch_int b off L c l ((rk a : Nat) : Int) W (by omega) (by omega) h (by rw [List.take_of_length_le (by omega)]; exact hpw)
  rw [List.take_of_length_le (by omega)] at hbs
  have hcl := fun j (hj : j < l.length) => (hb0.cell (p := ⟨b, off + j, none⟩) hbb).trans (hcell j hj)
  have hbs := fun m => hbs ((w.alloc (.cells #[.int .i64 p, .slice (some ⟨b, off, none⟩) L c] 26)).drewN m) hcl
  have hct : l.contains ((rk a : Nat) : Int) = decide (((rk a : Nat) : Int) ∈ l) := by
    by_cases h : ((rk a : Nat) : Int) ∈ l
    · simp [h]
    · simp [h]
  rw [hct] at hbs
  generalize decide (((rk a : Nat) : Int) ∈ l) = bb at *
  generalize rk a = r at *
  obtain ⟨c0, c1, _, _⟩ := (BK.new w 26 #[.int .i64 p, .slice (some ⟨b, off, none⟩) L c]).two
  clear hcl hcell hsa hs hL hbb hct ha hpw h0
  have hsa0 : ∀ m, IS ((w.alloc (.cells #[.int .i64 p, .slice (some ⟨b, off, none⟩) L c] 26)).drewN m) ((w.alloc (.cells #[.int .i64 p, .slice (some ⟨b, off, none⟩) L c] 26)).drewN m).heap.size Aa a := fun m => hsa0.drewN m
  go_enter Tryz.func122, Tryz.ntmps122
  go_wp2_with (fail)
  go_region_law
    (go_simp; first
      | (go_at_call 173; refine (hrk _ (hsa0 _)).mono ?_; rintro e w2 ⟨rfl, nq, rfl⟩)
      | (go_at_call 172; refine (hbs _).mono ?_; rintro e w3 ⟨rfl, nq3, rfl⟩))
  all_goals

    go_wp2_with (fail)
    go_ret
    exact ⟨rfl, below_drewN hb0 _⟩
set_option maxHeartbeats 1000000 in
theorem i_grp1 (gx ax n : Nat) (Ag Aa Ab : Option Addr) (L cg ca cb : Nat) (l a b : List Int) (w : World) (hn1 : 1 ≤ n) (hn6 : n ≤ 6) (hL : L = l.length) (h0 : 0 < L) (hl : L ≤ 1000) (hpw : l.Pairwise (· ≤ ·)) (ha : InR n a) (hb : InR n b)
    (hsg : IS w w.heap.size Ag l) (hsa : IS w w.heap.size Aa a) (hsb : IS w w.heap.size Ab b) (hgx : gx < w.heap.size) (hax : ax < w.heap.size) (g0 : w.cell? ⟨gx, 0, none⟩ = some (.int .i64 (n : Int))) (g1 : w.cell? ⟨gx, 1, none⟩ = some (.slice Ag L cg)) (x0 : w.cell? ⟨ax, 0, none⟩ = some (.slice Aa n ca)) :
    Calls Tryz.prog 121 #[.slice Ab n cb, .pointer (some ⟨gx, 0, none⟩), .pointer (some ⟨ax, 0, none⟩)] w (M (.bool (!decide (((rk (prodL a b) : Nat) : Int) ∈ l))) w) := by
  have hp := i_prod Aa Ab n ca n cb a b w.drew w.heap.size w.heap.size ha.1.symm hb.1.symm (by omega) (by omega) (Nat.le_refl _) (Nat.le_refl _) hsa hsb hb.2
  have hpl : n = (prodL a b).length := (ha.prod hb).1.symm
  have hh := fun Ap cp W hca hcm h h' => i_has (n : Int) Ag Ap L cg n cp l (prodL a b) W hn6 hL h0 hl hpw h hpl hca hcm h'
  generalize decide (((rk (prodL a b) : Nat) : Int) ∈ l) = bb at *
  generalize prodL a b = ab at *
  have HPL := Lib.hid hpl
  clear hL hpl ha hb hsa hsb hpw
  go_enter Tryz.func121, Tryz.ntmps121
  go_wp2_with (fail)
  go_region_law
    (go_simp; first
      | (go_at_call 123; refine hp.mono ?_; rintro e w2 ⟨v, rfl, ho, hb2⟩; obtain ⟨A2, c2, rfl, _⟩ := own_slice' ho; have hb2' := undrew (n := 1) hb2; have d0 := (hb2'.cell (p := ⟨gx, 0, none⟩) hgx).trans g0; have d1 := (hb2'.cell (p := ⟨gx, 1, none⟩) hgx).trans g1)
      | (go_at_call 122; refine (hh A2 c2 _ (own_cap ho).1 (own_cap ho).2 (hsg.call hb2') (own_isn ho HPL.out)).mono ?_; rintro e w3 ⟨rfl, hb3⟩))
  all_goals
    cases bb
    all_goals
      go_wp2_with (fail)
      go_ret
      exact ⟨rfl, bel_call hb2' hb3⟩
set_option maxHeartbeats 1000000 in
theorem i_idxGrp (A : Option Addr) (L c n : Nat) (ll : List (List Int)) (w : World) (B : Nat) (hL : L = ll.length) (hl : L ≤ 1048576) (hB : B ≤ w.heap.size) (hs : II w B A ll) (gx ax : Nat) (Ag Aa : Option Addr) (Lg cg ca : Nat) (l a0 : List Int) (hn1 : 1 ≤ n) (hn6 : n ≤ 6) (hLg : Lg = l.length) (h0 : 0 < Lg) (hlg : Lg ≤ 1000) (hpw : l.Pairwise (· ≤ ·)) (ha0 : InR n a0) (hin : ∀ k, k < L → InR n (gl ll k)) (hsg : IS w w.heap.size Ag l) (hsa : IS w w.heap.size Aa a0) (hgx : gx < w.heap.size) (hax : ax < w.heap.size) (g0 : w.cell? ⟨gx, 0, none⟩ = some (.int .i64 (n : Int))) (g1 : w.cell? ⟨gx, 1, none⟩ = some (.slice Ag Lg cg)) (x0 : w.cell? ⟨ax, 0, none⟩ = some (.slice Aa n ca)) :
    Calls Tryz.prog 164 #[.slice A L c, .func (.func 121) #[] #[.pointer (some ⟨gx, 0, none⟩), .pointer (some ⟨ax, 0, none⟩)]] w (fun e w' => ∃ k : Int, e = .returned (.int .i64 k) ∧ decide (0 ≤ k) = (ll.any fun a => !decide (((rk (prodL a0 a) : Nat) : Int) ∈ l)) ∧ Below w.heap.size w w') := by
  have HL := Lib.hid hL
  clear hL
  go_enter Tryz.func164, Tryz.ntmps164
  go_wp2_with (fail)
  go_loopw [8] (fun u8 wr => ∃ k : Nat, k ≤ L ∧ u8 = .int .i64 k ∧ Hid (∀ j, j < k → (fun a : List Int => !decide (((rk (prodL a0 a) : Nat) : Int) ∈ l)) (gl ll j) = false) ∧ Below w.heap.size w wr) (fun u8 _ => L - (intOf u8).toNat)
  case atStart => exact ⟨0, Nat.zero_le _, rfl, fun j hj => by omega, Below.refl _ _⟩
  case round =>
    obtain ⟨ws, rfl⟩ : ∃ ws : World, ws = wr := ⟨_, rfl⟩
    obtain ⟨k, hk, rfl, HI, hb⟩ := hrel
    have hsz := hb.size
    by_cases hlt : k < L
    · obtain ⟨b, off, rfl, hbb, hcell⟩ := hs.at (k := k) (by rw [← HL.out]; exact hlt)
      obtain ⟨A', c', e1, _, _, his⟩ := hcell k (by rw [← HL.out]; exact hlt)
      have e1 := (hb.cell (p := ⟨b, off + k, none⟩) (by show b < _; omega)).trans e1
      have his := (his.below (hb.mono hB)).more (show B ≤ ws.heap.size by omega)
      have hR := hin k hlt; rw [hR.1] at e1; have hp := fun W hW => i_grp1 gx ax n Ag Aa A' Lg cg ca c' l a0 (gl ll k) W hn1 hn6 hLg h0 hlg hpw ha0 hR ((hsg.call hb).call hW) ((hsa.call hb).call hW) (IS.call his hW) (by have := hW.size; omega) (by have := hW.size; omega) ((hW.cell (p := ⟨gx, 0, none⟩) (by show gx < _; omega)).trans ((hb.cell (p := ⟨gx, 0, none⟩) hgx).trans g0)) ((hW.cell (p := ⟨gx, 1, none⟩) (by show gx < _; omega)).trans ((hb.cell (p := ⟨gx, 1, none⟩) hgx).trans g1)) ((hW.cell (p := ⟨ax, 0, none⟩) (by show ax < _; omega)).trans ((hb.cell (p := ⟨ax, 0, none⟩) hax).trans x0)); clear hR hsg hsa hLg hpw
      clear hcell
      by_cases hneg : (fun a : List Int => !decide (((rk (prodL a0 a) : Nat) : Int) ∈ l)) (gl ll k) = true
      · have hany : (ll.any fun a => !decide (((rk (prodL a0 a) : Nat) : Int) ∈ l)) = true := by
          rw [List.any_eq_true]
          exact ⟨gl ll k, gl_mem (by rw [← HL.out]; exact hlt), hneg⟩
        have HANY := Lib.hid hany
        have hneg : (fun a : List Int => !decide (((rk (prodL a0 a) : Nat) : Int) ∈ l)) (gl ll k) = true := hneg
        simp only [hneg] at hp
        clear hany his hs
        go_wp2_with (first | (go_at_call 121; refine (hp _ (Below.refl _ _)).mono ?_; rintro e w2 ⟨rfl, hb2⟩) | go_in)
        go_ret
        exact ⟨k, rfl, by rw [HANY.out]; simp, hb.trans (hb2.mono hsz)⟩
      · have hneg : (fun a : List Int => !decide (((rk (prodL a0 a) : Nat) : Int) ∈ l)) (gl ll k) = false := by rw [Bool.eq_false_iff]; exact hneg
        simp only [hneg] at hp
        have hn' : ∀ j, j < k + 1 → (fun a : List Int => !decide (((rk (prodL a0 a) : Nat) : Int) ∈ l)) (gl ll j) = false := fun j hj => by
          by_cases hjk : j = k
          · subst hjk; exact hneg
          · exact HI.out j (by omega)
        have HN' := Lib.hid hn'
        clear hn' his hs
        go_wp2_with (first | (go_at_call 121; refine (hp _ (Below.refl _ _)).mono ?_; rintro e w2 ⟨rfl, hb2⟩) | go_in)
        go_roundw
        case rel => exact ⟨k + 1, by omega, by go_num, HN'.out, hb.trans (hb2.mono hsz)⟩
        case measure => simp [intOf]; omega
    · obtain rfl : k = L := by omega
      have hany : (ll.any fun a => !decide (((rk (prodL a0 a) : Nat) : Int) ∈ l)) = false := by
        rw [List.any_eq_false]
        intro a ha
        obtain ⟨j, hj, rfl⟩ := mem_gl.1 ha
        have h9 := HI.out j (by rw [HL.out]; exact hj)
        exact Bool.eq_false_iff.1 h9
      have HANY := Lib.hid hany
      clear hany
      go_wp2_with (fail)
      go_ret
      exact ⟨-1, rfl, by rw [HANY.out]; simp, hb⟩
theorem i_idxGrpC (A : Option Addr) (L c n : Nat) (ll : List (List Int)) (w : World) (B : Nat) (hL : L = ll.length) (hl : L ≤ 1048576) (hB : B ≤ w.heap.size) (hs : II w B A ll) (gx ax : Nat) (Ag Aa : Option Addr) (Lg cg ca : Nat) (l a0 : List Int) (hn1 : 1 ≤ n) (hn6 : n ≤ 6) (hLg : Lg = l.length) (h0 : 0 < Lg) (hlg : Lg ≤ 1000) (hpw : l.Pairwise (· ≤ ·)) (ha0 : InR n a0) (hin : ∀ k, k < L → InR n (gl ll k)) (hsg : IS w w.heap.size Ag l) (hsa : IS w w.heap.size Aa a0) (hgx : gx < w.heap.size) (hax : ax < w.heap.size) (g0 : w.cell? ⟨gx, 0, none⟩ = some (.int .i64 (n : Int))) (g1 : w.cell? ⟨gx, 1, none⟩ = some (.slice Ag Lg cg)) (x0 : w.cell? ⟨ax, 0, none⟩ = some (.slice Aa n ca)) :
    Calls Tryz.prog 103 #[.slice A L c, .func (.func 121) #[] #[.pointer (some ⟨gx, 0, none⟩), .pointer (some ⟨ax, 0, none⟩)]] w (M (.bool (ll.any fun a => !decide (((rk (prodL a0 a) : Nat) : Int) ∈ l))) w) := c_contains A L c _ _ w (i_idxGrp A L c n ll w B hL hl hB hs gx ax Ag Aa Lg cg ca l a0 hn1 hn6 hLg h0 hlg hpw ha0 hin hsg hsa hgx hax g0 g1 x0)
set_option maxRecDepth 10000 in
set_option maxHeartbeats 4000000 in
theorem i_IsGroup (p : Int) (A : Option Addr) (L c : Nat) (l : List Int) (w : World) (hL : L = l.length) (hl : L ≤ 1048576) (hs : IS w w.heap.size A l) :
    Calls Tryz.prog 60 #[.agg #[.int .i64 p, .slice A L c]] w (M (.bool (grpB p l)) w) := by
  obtain ⟨c0, c1, _, _⟩ := (BK.new w 26 #[.int .i64 p, .slice A L c]).two
  have hb0 := (Below.refl w.heap.size w).alloc (Nat.le_refl _) (.cells #[.int .i64 p, .slice A L c] 26)
  have hs0 := hs.call hb0
  cases hin : inB p 1 6
  · rw [grpB_no1 hin]
    clear hL hs0 hs
    go_enter Tryz.func60, Tryz.ntmps60
    go_wp2_with (go_at_call 76; refine (i_within _ _ _ _).mono ?_; rintro e w' ⟨rfl, nq, rfl⟩; rw [hin])
    go_ret
    exact ⟨rfl, below_drewN hb0 _⟩
  obtain ⟨p1, p2⟩ := inB_true hin
  obtain ⟨n, rfl⟩ : ∃ n : Nat, p = n := ⟨p.toNat, by omega⟩
  have hn1 : 1 ≤ n := by omega
  have hn6 : n ≤ 6 := by omega
  by_cases h0 : ¬ 0 < L
  · obtain rfl : L = 0 := by omega
    rw [grpB_no2 (by omega)]
    clear hL hs0 hs
    go_enter Tryz.func60, Tryz.ntmps60
    go_wp2_with (go_at_call 76; refine (i_within _ _ _ _).mono ?_; rintro e w' ⟨rfl, nq, rfl⟩; rw [hin])
    go_ret
    exact ⟨rfl, below_drewN hb0 _⟩
  have h0 : 0 < L := by omega
  have hLz : ((L : Int) == 0) = false := by rw [beq_eq_false_iff_ne]; omega
  have HL := Lib.hid hL
  obtain ⟨b, off, rfl, hbb, hcell⟩ := IS.at hs0 (k := 0) (by omega)
  have hz := hcell 0 (by omega)
  rw [Nat.add_zero] at hz
  by_cases hz0 : ¬ gt l 0 = 0
  · rw [grpB_no3 hz0]
    have hzb : (gt l 0 != 0) = true := by rw [bne_iff_ne]; exact hz0
    clear hL hs hcell
    generalize gt l 0 = z at *
    go_enter Tryz.func60, Tryz.ntmps60
    go_wp2_with (go_at_call 76; refine (i_within _ _ _ _).mono ?_; rintro e w' ⟨rfl, nq, rfl⟩; rw [hin])
    go_ret
    exact ⟨rfl, below_drewN hb0 _⟩
  have hz0 : gt l 0 = 0 := by omega
  have hF := fact_le hn6
  have hfa := fun W => i_factN n W hn6
  have hNO := fun k (hk : k < L) h => grpB_no4 (n := n) (riseB_f (f := (fact n : Nat)) (l := l) (k := k) (by omega) h)
  have hYES := fun h => grpB_eq (n := n) (l := l) hin (by omega) hz0 (riseB_t h)
  have hlen := fun h => rise_len (f := fact n) (l := l) h
  have hinK := fun h => rise_in (n := n) (l := l) h
  have hpw := fun h => rise_pw (f := (fact n : Nat)) (l := l) h
  rw [hz0] at hz
  generalize hFn : fact n = F at *
  obtain ⟨hF1, hF2⟩ := hF
  have HNO := Lib.hid hNO
  have HYES := Lib.hid hYES
  have HLEN := Lib.hid hlen
  have HINK := Lib.hid hinK
  have HPW := Lib.hid hpw
  have HCELL := Lib.hid hcell
  have HFN := Lib.hid hFn
  have hw1 : IntKind.i64.wrap ((F : Int) - 1) = (F : Int) - 1 := IntWalk.i64_in _ (by omega)
  clear hL hNO hYES hlen hinK hpw hcell hz0 hFn hs p1 p2
  generalize grpB (n : Int) l = RES at *
  go_enter Tryz.func60, Tryz.ntmps60
  go_wp2_with (go_at_call 76; refine (i_within _ _ _ _).mono ?_; rintro e w' ⟨rfl, nq, rfl⟩; rw [hin])
  obtain ⟨w1, hw⟩ : ∃ w1 : World, w1 = (w.alloc (.cells #[.int .i64 (n : Int), .slice (some ⟨b, off, none⟩) L c] 26)).drewN nq := ⟨_, rfl⟩
  have hb1 : Below w.heap.size w w1 := by rw [hw]; exact below_drewN hb0 nq
  have hs1 : IS w1 w1.heap.size (some ⟨b, off, none⟩) l := by rw [hw]; exact hs0.drewN nq
  have c0 : w1.cell? ⟨w.heap.size, 0, none⟩ = some (.int .i64 (n : Int)) := by rw [hw]; exact c0
  have c1 : w1.cell? ⟨w.heap.size, 1, none⟩ = some (.slice (some ⟨b, off, none⟩) L c) := by rw [hw]; exact c1
  have HC1 : Hid (∀ j, j < l.length → w1.cell? ⟨b, off + j, none⟩ = some (.int .i64 (gt l j))) := hidP (by rw [hw]; exact HCELL.out)
  have hgw : w.heap.size < w1.heap.size := by rw [hw]; simp [World.drewN]
  rw [← hw]
  clear hw HCELL hs0 hb0 hz
  go_loopw [28] (fun u wr => ∃ k : Nat, k ≤ L ∧ u = .int .i64 k ∧ Hid (∀ j, j < k → riseP F l j) ∧ DR w1 wr) (fun u _ => L - (intOf u).toNat)
  case atStart => exact ⟨0, Nat.zero_le _, rfl, fun j hj => by omega, DR.refl _⟩
  case round =>
    obtain ⟨k, hk, rfl, HR, hdr⟩ := hrel
    have c0 := (hdr.cell _).trans c0
    have c1 := (hdr.cell _).trans c1
    by_cases hlt : k < L
    · have hc1 := (hdr.cell _).trans (HC1.out k (by rw [← HL.out]; exact hlt))
      have hc0 := fun h => (hdr.cell _).trans (HC1.out (k - 1) h)
      have HNOk := Lib.hid (HNO.out k hlt)
      cases hin2 : inB (gt l k) 0 ((F : Int) - 1)
      · clear hc0
        have hno : RES = false := HNOk.out (fun h => by rw [inB_mk h.1 h.2.1] at hin2; cases hin2)
        subst hno
        go_wp2_with (first | (go_at_call 77; refine (hfa _).mono ?_; rintro e w' ⟨rfl, nq2, rfl⟩) | (go_at_call 76; refine (i_within _ _ _ _).mono ?_; rintro e w' ⟨rfl, nq, rfl⟩; rw [hin2]))
        go_ret
        exact ⟨rfl, (show Below w.heap.size w _ from by obtain ⟨m, rfl⟩ := hdr; repeat (first | exact hb1 | refine below_drewN ?_ _))⟩
      obtain ⟨b1, b2⟩ := inB_true hin2
      by_cases hk0 : k = 0
      · subst hk0
        rw [Nat.add_zero] at hc1
        clear hc0
        go_wp2_with (first | (go_at_call 77; refine (hfa _).mono ?_; rintro e w' ⟨rfl, nq2, rfl⟩) | (go_at_call 76; refine (i_within _ _ _ _).mono ?_; rintro e w' ⟨rfl, nq, rfl⟩; rw [hin2]))
        go_roundw
        case rel => exact ⟨1, by omega, by go_num, fun j hj => by
          obtain rfl : j = 0 := by omega
          exact ⟨b1, b2, fun h => by omega⟩, by repeat (first | assumption | refine DR.step ?_ _)⟩
        case measure => simp [intOf]; omega
      · have hk1 : 0 < k := by omega
        have hc2 := hc0 (by rw [← HL.out]; omega)
        clear hc0
        have hs1' : IntKind.i64.wrap ((k : Int) - 1) = (k : Int) - 1 := IntWalk.i64_in _ (by omega)
        have hs2' : ((k : Int) - 1).toNat = k - 1 := by omega
        have hs3' : 1 ≤ (k : Int) := by omega
        have hs4' : 0 ≤ (k : Int) - 1 := by omega
        have hs5' : (k : Int) - 1 < L := by omega
        by_cases hlt2 : gt l k ≤ gt l (k - 1)
        · have hno : RES = false := HNOk.out (fun h => by have := h.2.2 hk1; omega)
          subst hno
          go_wp2_with (first | (go_at_call 77; refine (hfa _).mono ?_; rintro e w' ⟨rfl, nq2, rfl⟩) | (go_at_call 76; refine (i_within _ _ _ _).mono ?_; rintro e w' ⟨rfl, nq, rfl⟩; rw [hin2]))
          go_ret
          exact ⟨rfl, (show Below w.heap.size w _ from by obtain ⟨m, rfl⟩ := hdr; repeat (first | exact hb1 | refine below_drewN ?_ _))⟩
        · have HN' := Lib.hid (show ∀ j, j < k + 1 → riseP F l j from fun j hj => by
            by_cases hjk : j = k
            · subst hjk; exact ⟨b1, b2, fun _ => by omega⟩
            · exact HR.out j (by omega))
          go_wp2_with (first | (go_at_call 77; refine (hfa _).mono ?_; rintro e w' ⟨rfl, nq2, rfl⟩) | (go_at_call 76; refine (i_within _ _ _ _).mono ?_; rintro e w' ⟨rfl, nq, rfl⟩; rw [hin2]))
          go_roundw
          case rel => exact ⟨k + 1, by omega, by go_num, HN'.out, by repeat (first | assumption | refine DR.step ?_ _)⟩
          case measure => simp [intOf]; omega
    · obtain rfl : k = L := by omega
      have hall : ∀ j, j < l.length → riseP F l j := fun j hj => HR.out j (by rw [HL.out]; exact hj)
      have h1 := HLEN.out hall
      have h2 := HINK.out hall
      have h3 := HPW.out hall
      have h4 := HYES.out hall
      have hk1000 : k ≤ 1000 := by have := HL.out; omega
      have hmb := fun W h => i_members n (some ⟨b, off, none⟩) k c l W hn1 hn6 HL.out (by omega) h2 h
      have hmi := mem_InR h2 HL.out
      have hml := memL_len n l
      rw [← HL.out] at hml
      have hidx := fun A2 c2 W a0 ax Aa ca gx hii hgx hax g0 g1 x0 ha0 hsg hsa => i_idxGrpC A2 k c2 n (memL n l) W W.heap.size (by rw [memL_len]; exact HL.out) (by omega) (Nat.le_refl _) hii gx ax (some ⟨b, off, none⟩) Aa k c ca l a0 hn1 hn6 HL.out h0 hk1000 (h3.imp (fun h => Int.le_of_lt h)) ha0 hmi hsg hsa hgx hax g0 g1 x0
      have hcno := fun j hj => cloB_no (n := n) (l := l) (k := j) hj
      have hcyes := cloB_yes (n := n) (l := l)
      rw [← h4] at hcno hcyes
      have hcr : ∀ a0, cloR n l a0 = (memL n l).any fun a => !decide (((rk (prodL a0 a) : Nat) : Int) ∈ l) := fun a0 => rfl
      rw [← HL.out] at hcno hcyes
      have HMI := Lib.hid hmi
      have HML := Lib.hid hml
      have HCNO := Lib.hid hcno
      have HCYES := Lib.hid hcyes
      have HCR := Lib.hid hcr
      have hs2 : IS wr wr.heap.size (some ⟨b, off, none⟩) l := by obtain ⟨m, rfl⟩ := hdr; exact hs1.drewN m
      have hbw : Below w.heap.size w wr := by obtain ⟨m, rfl⟩ := hdr; exact below_drewN hb1 m
      have hgw2 : w.heap.size < wr.heap.size := by obtain ⟨m, rfl⟩ := hdr; exact hgw
      obtain ⟨wo, rfl⟩ : ∃ wo : World, wo = wr := ⟨_, rfl⟩
      generalize memL n l = ll at *
      clear h1 h2 h3 h4 hall HNO HYES HLEN HINK HPW HR hcr hcyes hcno hml hmi hs1 hb1 hdr hgw hfa
      go_wp2_with (go_at_call 120; refine (hmb _ hs2).mono ?_; rintro e w2 ⟨A2, c2, vs, rfl, ho2, hr2, hb2⟩; rw [HML.out] at ho2 ⊢)
      have hii2 := OwnII.ii ho2 hr2
      have hbw2 := bel_call hbw hb2
      have c0 := (hb2.cell (p := ⟨w.heap.size, 0, none⟩) hgw2).trans c0
      have c1 := (hb2.cell (p := ⟨w.heap.size, 1, none⟩) hgw2).trans c1
      have hs3 := hs2.call hb2
      have hgw3 : w.heap.size < w2.heap.size := by have := hb2.size; omega
      clear ho2 hr2 hb2 hs2 hmb hbw hgw2
      go_loopw [59] (fun u wr => ∃ i : Nat, i ≤ k ∧ u = .int .i64 i ∧ Hid (∀ j, j < i → cloR n l (gl ll j) = false) ∧ Below w2.heap.size w2 wr) (fun u _ => k - (intOf u).toNat)
      case atStart => exact ⟨0, Nat.zero_le _, rfl, fun j hj => by omega, Below.refl _ _⟩
      case round =>
        obtain ⟨ws, rfl⟩ : ∃ ws : World, ws = wr := ⟨_, rfl⟩
        obtain ⟨i, hi, rfl, HI, hb⟩ := hrel
        have hsz := hb.size
        by_cases hlt : i < k
        · obtain ⟨b2, off2, rfl, hbb2, hcell2⟩ := hii2.at (k := i) (by rw [HML.out]; exact hlt)
          obtain ⟨A', c', e1, _, _, his⟩ := hcell2 i (by rw [HML.out]; exact hlt)
          have e1 := (hb.cell (p := ⟨b2, off2 + i, none⟩) hbb2).trans e1
          have hR := HMI.out i hlt
          rw [hR.1] at e1
          have hbA := (Below.refl ws.heap.size ws).alloc (Nat.le_refl _) (.cells #[.slice A' n c'] 24)
          have hbA2 := bel_call hb hbA
          have x0 := ((BK.new ws 24 #[.slice A' n c']).cell 0).trans (rfl : _ = some (Value.slice A' n c'))
          have d0 := (hbA2.cell (p := ⟨w.heap.size, 0, none⟩) hgw3).trans c0
          have d1 := (hbA2.cell (p := ⟨w.heap.size, 1, none⟩) hgw3).trans c1
          have hcall := hidx (some ⟨b2, off2, none⟩) c2 _ (gl ll i) ws.heap.size A' c' w.heap.size (II.callG hii2 hbA2) (by have := hbA2.size; omega) (by simp) d0 d1 x0 hR (hs3.call hbA2) (his.call hbA2)
          rw [← HCR.out] at hcall
          clear hR hcell2 his
          cases hct : cloR n l (gl ll i)
          · rw [hct] at hcall
            have hn' : ∀ j, j < i + 1 → cloR n l (gl ll j) = false := fun j hj => by
              by_cases hjk : j = i
              · subst hjk; exact hct
              · exact HI.out j (by omega)
            have HN' := Lib.hid hn'
            clear hn' hct
            go_wp2_with (first | (go_at_call 103; refine hcall.mono ?_; rintro e w3 ⟨rfl, hb3⟩))
            go_roundw
            case rel => exact ⟨i + 1, by omega, by go_num, HN'.out, bel_call hbA2 hb3⟩
            case measure => simp [intOf]; omega
          · rw [hct] at hcall
            have hres := HCNO.out i hlt hct
            subst hres
            clear hct
            go_wp2_with (first | (go_at_call 103; refine hcall.mono ?_; rintro e w3 ⟨rfl, hb3⟩))
            go_ret
            exact ⟨rfl, bel_call hbw2 (bel_call hbA2 hb3)⟩
        · obtain rfl : i = k := by omega
          have hres := HCYES.out (fun j hj => HI.out j hj)
          subst hres
          go_wp2_with (fail)
          go_ret
          exact ⟨rfl, bel_call hbw2 hb⟩
end Go.Proofs.YtglijcdnnaekkaaGreat
/- Groups: whether a group is valid, the reference's side. -/
namespace Go.Proofs.YtglijcdnnaekkaaGreat
set_option linter.unusedVariables false
set_option linter.unusedSimpArgs false
open Go.RowKit

set_option maxHeartbeats 1000000 in
theorem s_l01Rises (A : Option Addr) (L c F : Nat) (l : List Int) (w : World) (B : Nat) (hL : L = l.length) (hl : L ≤ 1048576) (hF1 : 1 ≤ F) (hF2 : F ≤ 720) (hs : IS w B A l) :
    Calls Tryz.prog 130 #[.slice A L c, .int .i64 F] w (Q (.bool (riseB (F : Int) l)) w) := by
  have hNO := fun k (hk : k < L) h => riseB_f (f := (F : Int)) (l := l) (k := k) (by omega) h
  have hYES := fun h => riseB_t (f := (F : Int)) (l := l) h
  have HNO := Lib.hid hNO
  have HYES := Lib.hid hYES
  have HL := Lib.hid hL
  have hw1 : IntKind.i64.wrap ((F : Int) - 1) = (F : Int) - 1 := IntWalk.i64_in _ (by omega)
  clear hNO hYES hL
  generalize riseB (F : Int) l = RES at *
  go_enter Tryz.func130, Tryz.ntmps130
  go_wp2_with (fail)
  go_loopw [5] (fun u wr => ∃ k : Nat, k ≤ L ∧ u = .int .i64 k ∧ Hid (∀ j, j < k → riseP F l j) ∧ DR w wr) (fun u _ => L - (intOf u).toNat)
  case atStart => exact ⟨0, Nat.zero_le _, rfl, fun j hj => by omega, DR.refl _⟩
  case round =>
    obtain ⟨k, hk, rfl, HR, hdr⟩ := hrel
    by_cases hlt : k < L
    · obtain ⟨b, off, rfl, hbb, hcell⟩ := IS.at hs (k := k) (by rw [← HL.out]; exact hlt)
      have hc1 := (hdr.cell _).trans (hcell k (by rw [← HL.out]; exact hlt))
      have hc0 := fun h => (hdr.cell _).trans (hcell (k - 1) h)
      have HNOk := Lib.hid (HNO.out k hlt)
      clear hcell
      cases hin2 : inB (gt l k) 0 ((F : Int) - 1)
      · clear hc0
        have hno : RES = false := HNOk.out (fun h => by rw [inB_mk h.1 h.2.1] at hin2; cases hin2)
        subst hno
        go_wp2_with (go_quiet ((go_at_call 64; exact Calls.quiet_of (s_l01In _ _ _ _))))
        go_ret
        exact ⟨rfl, hdr.step _⟩
      obtain ⟨b1, b2⟩ := inB_true hin2
      by_cases hk0 : k = 0
      · subst hk0
        rw [Nat.add_zero] at hc1
        clear hc0
        have HN' := Lib.hid (show ∀ j, j < 1 → riseP F l j from fun j hj => by
          obtain rfl : j = 0 := by omega
          exact ⟨b1, b2, fun h => by omega⟩)
        go_wp2_with (go_quiet ((go_at_call 64; exact Calls.quiet_of (s_l01In _ _ _ _))))
        go_roundw
        case rel => exact ⟨1, by omega, by go_num, HN'.out, hdr.step _⟩
        case measure => simp [intOf]; omega
      · have hk1 : 0 < k := by omega
        have hc2 := hc0 (by rw [← HL.out]; omega)
        clear hc0
        have hs1' : IntKind.i64.wrap ((k : Int) - 1) = (k : Int) - 1 := IntWalk.i64_in _ (by omega)
        have hs2' : ((k : Int) - 1).toNat = k - 1 := by omega
        have hs3' : 1 ≤ (k : Int) := by omega
        have hs4' : 0 ≤ (k : Int) - 1 := by omega
        have hs5' : (k : Int) - 1 < L := by omega
        by_cases hlt2 : gt l k ≤ gt l (k - 1)
        · have hno : RES = false := HNOk.out (fun h => by have := h.2.2 hk1; omega)
          subst hno
          go_wp2_with (go_quiet ((go_at_call 64; exact Calls.quiet_of (s_l01In _ _ _ _))))
          go_ret
          exact ⟨rfl, hdr.step _⟩
        · have HN' := Lib.hid (show ∀ j, j < k + 1 → riseP F l j from fun j hj => by
            by_cases hjk : j = k
            · subst hjk; exact ⟨b1, b2, fun _ => by omega⟩
            · exact HR.out j (by omega))
          go_wp2_with (go_quiet ((go_at_call 64; exact Calls.quiet_of (s_l01In _ _ _ _))))
          go_roundw
          case rel => exact ⟨k + 1, by omega, by go_num, HN'.out, hdr.step _⟩
          case measure => simp [intOf]; omega
    · obtain rfl : k = L := by omega
      have hyes := HYES.out (fun j hj => HR.out j (by rw [HL.out]; exact hj))
      subst hyes
      go_wp2_with (fail)
      go_ret
      exact ⟨rfl, hdr⟩
set_option maxRecDepth 10000 in
set_option maxHeartbeats 4000000 in
theorem s_IsGroup (p : Int) (A : Option Addr) (L c : Nat) (l : List Int) (w : World) (hL : L = l.length) (hl : L ≤ 1048576) (hs : IS w w.heap.size A l) :
    Calls Tryz.prog 63 #[.agg #[.int .i64 p, .slice A L c]] w (M (.bool (grpB p l)) w) := by
  obtain ⟨c0, c1, _, _⟩ := (BK.new w 26 #[.int .i64 p, .slice A L c]).two
  have hb0 := (Below.refl w.heap.size w).alloc (Nat.le_refl _) (.cells #[.int .i64 p, .slice A L c] 26)
  have hs0 := hs.call hb0
  cases hin : inB p 1 6
  · rw [grpB_no1 hin]
    have hli := fun W => s_l01In p 1 6 W
    rw [hin] at hli
    clear hL hs0 hs hin
    go_enter Tryz.func63, Tryz.ntmps63
    go_wp2_with (go_quiet ((go_at_call 64; exact Calls.quiet_of (hli _))))
    go_ret
    exact ⟨rfl, below_drewN hb0 _⟩
  obtain ⟨p1, p2⟩ := inB_true hin
  obtain ⟨n, rfl⟩ : ∃ n : Nat, p = n := ⟨p.toNat, by omega⟩
  have hn1 : 1 ≤ n := by omega
  have hn6 : n ≤ 6 := by omega
  have hF := fact_le hn6
  have hfa := fun W => s_factN n W hn6
  have hri := fun m => s_l01Rises A L c (fact n) l ((w.alloc (.cells #[.int .i64 (n : Int), .slice A L c] 26)).drewN m) _ hL hl hF.1 hF.2 (hs0.drewN m)
  have hli := fun W => s_l01In (n : Int) 1 6 W
  rw [hin] at hli
  cases hrb : riseB (fact n : Nat) l
  · rw [grpB_no4 hrb]
    rw [hrb] at hri
    clear hL hs0 hs hin hrb
    generalize fact n = F at *
    go_enter Tryz.func63, Tryz.ntmps63
    go_wp2_with (go_quiet ((first | (go_at_call 64; exact Calls.quiet_of (hli _)) | (go_at_call 89; first | exact Calls.quiet_of (hfa _) | exact qadd (hfa _)) | (go_at_call 130; first | exact Calls.quiet_of (hri _) | exact qadd (hri _)))))
    go_ret
    exact ⟨rfl, below_drewN hb0 _⟩
  rw [hrb] at hri
  by_cases h0 : ¬ 0 < L
  · obtain rfl : L = 0 := by omega
    rw [grpB_no2 (by omega)]
    clear hL hs0 hs hin hrb
    generalize fact n = F at *
    go_enter Tryz.func63, Tryz.ntmps63
    go_wp2_with (go_quiet ((first | (go_at_call 64; exact Calls.quiet_of (hli _)) | (go_at_call 89; first | exact Calls.quiet_of (hfa _) | exact qadd (hfa _)) | (go_at_call 130; first | exact Calls.quiet_of (hri _) | exact qadd (hri _)))))
    go_ret
    exact ⟨rfl, below_drewN hb0 _⟩
  have h0 : 0 < L := by omega
  have hLz : ((L : Int) == 0) = false := by rw [beq_eq_false_iff_ne]; omega
  have HL := Lib.hid hL
  have hs9 := hs0
  obtain ⟨b, off, rfl, hbb, hcell⟩ := IS.at hs0 (k := 0) (by omega)
  have hz := hcell 0 (by omega)
  rw [Nat.add_zero] at hz
  clear hcell hs0
  by_cases hz0 : ¬ gt l 0 = 0
  · rw [grpB_no3 hz0]
    have hzb : (gt l 0 != 0) = true := by rw [bne_iff_ne]; exact hz0
    clear hL hs hin hrb hs9
    generalize fact n = F at *
    generalize gt l 0 = z at *
    go_enter Tryz.func63, Tryz.ntmps63
    go_wp2_with (go_quiet ((first | (go_at_call 64; exact Calls.quiet_of (hli _)) | (go_at_call 89; first | exact Calls.quiet_of (hfa _) | exact qadd (hfa _)) | (go_at_call 130; first | exact Calls.quiet_of (hri _) | exact qadd (hri _)))))
    go_ret
    exact ⟨rfl, below_drewN hb0 _⟩
  have hz0 : gt l 0 = 0 := by omega
  have hall := riseB_p hrb
  have h4 := grpB_eq (n := n) (l := l) hin (by omega) hz0 hrb
  have h1 := rise_len (f := fact n) hall
  have h2 := rise_in (n := n) hall
  have hk1000 : L ≤ 1000 := by omega
  have hmb := fun W h => s_elements n (some ⟨b, off, none⟩) L c l W hn1 hn6 hL (by omega) h2 h
  have hfl := fun W h => s_l22Flags n (some ⟨b, off, none⟩) L c l W hn6 hL hk1000 h2 h
  have hmi := mem_InR h2 hL
  have hml := memL_len n l
  rw [← hL] at hml
  have hfm := fgS_mem (F := fact n) (l := l) h2 L (by omega)
  have hfln := fgS_len (fact n) l L
  have hrk := fun a (h : InR n a) => (by have := rk_lt a; rw [h.1] at this; exact this : rk a < fact n)
  have hmem : ∀ r : Nat, (fgS (fact n) l L).getD r false = decide ((r : Int) ∈ l) := fun r => by
    rw [Bool.eq_iff_iff, hfm r, decide_eq_true_iff]
    constructor
    · rintro ⟨k, hk, e⟩; rw [← e]; exact gt_mem (by omega)
    · intro h
      obtain ⟨j, hj, e⟩ := List.mem_iff_getElem.1 h
      exact ⟨j, by omega, by simp [gt, List.getElem?_eq_getElem hj, e]⟩
  have hcno := fun j hj => cloB_no (n := n) (l := l) (k := j) hj
  have hcyes := cloB_yes (n := n) (l := l)
  rw [← h4] at hcno hcyes
  have hryes := fun a k hk => cloR_yes (n := n) (l := l) (a := a) (k := k) hk
  have hrno := fun a => cloR_no (n := n) (l := l) (a := a)
  rw [← hL] at hcno hcyes hryes hrno
  rw [hz0] at hz
  generalize fgS (fact n) l L = fl at *
  generalize fact n = F at *
  generalize memL n l = ll at *
  have HMI := Lib.hid hmi
  have HML := Lib.hid hml
  have HCNO := Lib.hid hcno
  have HCYES := Lib.hid hcyes
  have HRNO := Lib.hid hrno
  have HRYES := Lib.hid hryes
  have HMEM := Lib.hid hmem
  have HRK := Lib.hid hrk
  have HFL := Lib.hid hfln
  clear hmi hml hcno hcyes hrno hryes hmem hrk hfln hfm hall h4 h1 h2 hz0 hrb hin hL p1 p2 hs
  generalize grpB (n : Int) l = RES at *
  go_enter Tryz.func63, Tryz.ntmps63
  go_wp2_with (first
    | (go_quiet ((first | (go_at_call 64; exact Calls.quiet_of (hli _)) | (go_at_call 89; first | exact Calls.quiet_of (hfa _) | exact qadd (hfa _)) | (go_at_call 130; first | exact Calls.quiet_of (hri _) | exact qadd (hri _)))))
    | (go_at_call 131; refine (hfl _ (hs9.drewN _)).mono ?_; rintro e w2 ⟨gf, rfl, hbb2, hgf, hb2⟩; have d0 := (hb2.cell (p := ⟨w.heap.size, 0, none⟩) (by simp [World.drewN])).trans c0; have d1 := (hb2.cell (p := ⟨w.heap.size, 1, none⟩) (by simp [World.drewN])).trans c1; have hs2 := IS.call (hs9.drewN _) hb2)
    | (go_at_call 132; refine (hmb _ hs2).mono ?_; rintro e w3 ⟨A2, c2, vs, rfl, ho2, hr2, hb3⟩; rw [HML.out] at ho2 ⊢))
  have hii2 := OwnII.ii ho2 hr2
  have hbb3 := hbb2.below hb3
  have hbw3 := bel_call (bel_call (below_drewN hb0 _) hb2) hb3
  have hgf3 := hbb3.lt
  clear ho2 hr2 hb2 hb3 hs2 hmb hfl hs9 hb0 hbb2 hli hfa hri hz c0 c1 d0 d1
  obtain ⟨hF1, hF2⟩ := hF
  go_loopw [5] (fun u5 wr => ∃ i : Nat, i ≤ L ∧ u5 = .int .i64 i ∧ Hid (∀ j, j < i → cloR n l (gl ll j) = false) ∧ Below w3.heap.size w3 wr) (fun u5 _ => L - (intOf u5).toNat)
  case atStart => exact ⟨0, Nat.zero_le _, rfl, fun j hj => by omega, Below.refl _ _⟩
  case round =>
    obtain ⟨wo, rfl⟩ : ∃ wo : World, wo = wr := ⟨_, rfl⟩
    obtain ⟨i, hi, rfl, HI, hb⟩ := hrel
    have hsz := hb.size
    by_cases hlt : i < L
    · have hRi := HMI.out i hlt
      have hrno := HRNO.out (gl ll i)
      have hryes := HRYES.out (gl ll i)
      have hcno := HCNO.out i hlt
      have HCC := Lib.hid (fun (h : cloR n l (gl ll i) = false) => (show ∀ j, j < i + 1 → cloR n l (gl ll j) = false from fun j hj => by
        by_cases hjk : j = i
        · subst hjk; exact h
        · exact HI.out j (by omega)))
      have hii4 := II.callG hii2 hb
      have hbb4 := hbb3.below hb
      obtain ⟨b2, off2, rfl, hbb2, hcell2⟩ := hii4.at (k := i) (by rw [HML.out]; exact hlt)
      obtain ⟨A', c', e1, _, _, his⟩ := hcell2 i (by rw [HML.out]; exact hlt)
      rw [hRi.1] at e1
      clear hcell2
      generalize cloR n l (gl ll i) = CR at *
      go_wp2_with (fail)
      go_loopw [6] (fun u6 wr => ∃ k : Nat, k ≤ L ∧ u6 = .int .i64 k ∧ Hid (∀ j, j < k → ((rk (prodL (gl ll i) (gl ll j)) : Nat) : Int) ∈ l) ∧ Below wo.heap.size wo wr) (fun u6 _ => L - (intOf u6).toNat)
      case atStart => exact ⟨0, Nat.zero_le _, rfl, fun j hj => by omega, Below.refl _ _⟩
      case round =>
        obtain ⟨ws, rfl⟩ : ∃ ws : World, ws = wr := ⟨_, rfl⟩
        obtain ⟨k, hk, rfl, HK, hb5⟩ := hrel
        have hsz5 := hb5.size
        by_cases hlt : k < L
        · have hRk := HMI.out k hlt
          have hii5 := II.callG hii4 hb5
          have hbb5 := hbb4.below hb5
          obtain ⟨b2', off2', hA2, hbb2', hcell2⟩ := hii5.at (k := k) (by rw [HML.out]; exact hlt)
          obtain ⟨rfl, rfl⟩ : b2 = b2' ∧ off2 = off2' := by simpa using hA2
          obtain ⟨A2', c2', e2, _, _, his2⟩ := hcell2 k (by rw [HML.out]; exact hlt)
          rw [hRk.1] at e2
          have e1 := (hb5.cell (p := ⟨b2, off2 + i, none⟩) hbb2).trans e1
          have his1 := IS.call his hb5
          clear hcell2 hA2
          have hp := s_prod A' A2' n c' n c2' (gl ll i) (gl ll k) ws.drew ws.heap.size ws.heap.size hRi.1.symm hRk.1.symm (by omega) (by omega) (Nat.le_refl _) (Nat.le_refl _) his1 his2 hRk.2
          have hpR := hRi.prod hRk
          have hpl := Lib.hid hpR.1.symm
          have hrF := HRK.out _ hpR
          have hsr := fun Ap cp W h => s_rank Ap n cp (prodL (gl ll i) (gl ll k)) W W.heap.size hpR.1.symm hn6 h
          have hme := HMEM.out (rk (prodL (gl ll i) (gl ll k)))
          have hry := Lib.hid (hryes k hlt)
          have HNK := Lib.hid (fun (h : ((rk (prodL (gl ll i) (gl ll k)) : Nat) : Int) ∈ l) => (show ∀ j, j < k + 1 → ((rk (prodL (gl ll i) (gl ll j)) : Nat) : Int) ∈ l from fun j hj => by
            by_cases hjk : j = k
            · subst hjk; exact h
            · exact HK.out j (by omega)))
          generalize prodL (gl ll i) (gl ll k) = pr at *
          generalize rk pr = r at *
          have hfc := fun (W : World) (h : BB W gf fl) => (h.cell (j := r) (by rw [HFL.out]; exact hrF)).1
          by_cases hm : (r : Int) ∈ l
          · rw [decide_eq_true hm] at hme
            rw [hme] at hfc
            have hN := Lib.hid (HNK.out hm)
            have HFC := Lib.hid hfc
            clear hme HNK hry hm hpR hRk hfc hryes hrno
            go_wp2_with (fail)
            go_region_law
              (go_simp; first
                | (go_at_call 134; refine hp.mono ?_; rintro e w6 ⟨v6, rfl, ho6, hb6⟩; obtain ⟨A6, c6, rfl, _⟩ := own_slice' ho6; have hb6' := undrew (n := 1) hb6; have hf6 := HFC.out _ (hbb5.below hb6'))
                | (go_at_call 133; refine (hsr A6 c6 _ (own_isn ho6 hpl.out)).mono ?_; rintro e w7 ⟨rfl, nq7, rfl⟩))
            all_goals
              go_wp2_with (fail)
              go_roundw
              case rel => exact ⟨k + 1, by omega, by go_num, hN.out, below_drewN (bel_call hb5 hb6') _⟩
              case measure => simp [intOf]; omega
          · rw [decide_eq_false hm] at hme
            rw [hme] at hfc
            have hres := hcno (hry.out hm)
            subst hres
            have HFC := Lib.hid hfc
            clear hme HNK hry hm hpR hRk hfc hryes hrno
            go_wp2_with (fail)
            go_region_law
              (go_simp; first
                | (go_at_call 134; refine hp.mono ?_; rintro e w6 ⟨v6, rfl, ho6, hb6⟩; obtain ⟨A6, c6, rfl, _⟩ := own_slice' ho6; have hb6' := undrew (n := 1) hb6; have hf6 := HFC.out _ (hbb5.below hb6'))
                | (go_at_call 133; refine (hsr A6 c6 _ (own_isn ho6 hpl.out)).mono ?_; rintro e w7 ⟨rfl, nq7, rfl⟩))
            all_goals
              go_wp2_with (fail)
              go_ret
              exact ⟨rfl, below_drewN (bel_call hbw3 (bel_call hb (bel_call hb5 hb6'))) _⟩
        · obtain rfl : k = L := by omega
          have hcr := hrno (fun j hj => HK.out j hj)
          have HCN := Lib.hid (HCC.out hcr)
          clear hrno hryes hcr
          go_wp2_with (fail)
          go_roundw
          case rel => exact ⟨i + 1, by omega, by go_num, HCN.out, bel_call hb hb5⟩
          case measure => simp [intOf]; omega
    · obtain rfl : i = L := by omega
      have hres := HCYES.out (fun j hj => HI.out j hj)
      subst hres
      go_wp2_with (fail)
      go_ret
      exact ⟨rfl, bel_call hbw3 hb⟩
end Go.Proofs.YtglijcdnnaekkaaGreat
/- Orbits, on both sides. -/
namespace Go.Proofs.YtglijcdnnaekkaaGreat
set_option linter.unusedVariables false
set_option linter.unusedSimpArgs false
open Go.RowKit

theorem img_listed {zs : List Int} {sn : List Bool} (h : ∀ r : Nat, sn.getD r false = true ↔ (r : Int) ∈ zs) (h0 : ∀ x ∈ zs, 0 ≤ x) : Lib.compact (zs.mergeSort fun x y => decide (x ≤ y)) = lsL sn := by
  obtain ⟨h1, h2⟩ := sorted_compact zs
  refine rise_eq h1 (lsL_rise sn) fun x => ?_
  rw [h2 x, lsL_mem]
  constructor
  · intro hx
    have hx0 := h0 x hx
    obtain ⟨r, rfl⟩ := Int.eq_ofNat_of_zero_le hx0
    have hr := (h r).2 hx
    refine ⟨r, rfl, ?_, hr⟩
    rcases Nat.lt_or_ge r sn.length with h3 | h3
    · exact h3
    · rw [List.getD_eq_getElem?_getD, List.getElem?_eq_none h3] at hr; simp at hr
  · rintro ⟨r, rfl, _, hr⟩
    exact (h r).1 hr
/-- Where the permutations of a group take a point. -/
def imL (n : Nat) (l : List Int) (p : Nat) : List Int := (memL n l).map fun a => gt a p
def orL (n : Nat) (l : List Int) (p : Nat) : List Int := Lib.compact ((imL n l p).mergeSort fun x y => decide (x ≤ y))
theorem imL_len (n : Nat) (l : List Int) (p : Nat) : (imL n l p).length = l.length := by simp [imL, memL_len]
theorem gt_mapL {f : List Int → Int} {ll : List (List Int)} {k : Nat} (h : k < ll.length) : gt (ll.map f) k = f (gl ll k) := by simp [gt, gl, List.getElem?_eq_getElem h]
theorem imL_gt {n : Nat} {l : List Int} {p k : Nat} (h : k < l.length) : gt (imL n l p) k = gt (gl (memL n l) k) p := by
  unfold imL
  exact gt_mapL (by rw [memL_len]; exact h)
theorem imL_in {n p : Nat} {l : List Int} (hk : InK n l) (hp : p < n) : ∀ k, k < (imL n l p).length → 0 ≤ gt (imL n l p) k ∧ gt (imL n l p) k < (n : Int) := fun k h => by
  rw [imL_len] at h
  rw [imL_gt h]
  exact (mem_in hk k (by rw [memL_len]; exact h)).2 p hp
theorem orL_flags {n p : Nat} {l : List Int} (hk : InK n l) (hp : p < n) : orL n l p = lsL (fgS n (imL n l p) l.length) := by
  have hin := imL_in hk hp
  refine img_listed (fun r => ?_) (fun x hx => ?_)
  · have h := fgS_mem (F := n) (l := imL n l p) hin (imL n l p).length (Nat.le_refl _) r
    rw [imL_len] at h
    rw [h]
    constructor
    · rintro ⟨k, hk', e⟩; rw [← e]; exact gt_mem (by rw [imL_len]; exact hk')
    · intro hm
      obtain ⟨j, hj, e⟩ := List.mem_iff_getElem.1 hm
      exact ⟨j, by rw [imL_len] at hj; exact hj, by simp [gt, List.getElem?_eq_getElem hj, e]⟩
  · obtain ⟨j, hj, e⟩ := List.mem_iff_getElem.1 hx
    have := (hin j hj).1
    simpa [gt, List.getElem?_eq_getElem hj, e] using this
theorem orL_len {n p : Nat} {l : List Int} (hk : InK n l) (hp : p < n) : (orL n l p).length ≤ n := by
  rw [orL_flags hk hp]
  have := lsL_len (fgS n (imL n l p) l.length)
  rw [fgS_len] at this
  exact this
theorem orL_pos {n p : Nat} {l : List Int} (h : 0 < l.length) : 0 < (orL n l p).length := by
  have hm : gt (imL n l p) 0 ∈ orL n l p := ((sorted_compact (imL n l p)).2 _).2 (gt_mem (by rw [imL_len]; exact h))
  exact List.length_pos_of_mem hm
theorem take_mapG {ll : List (List Int)} {i : Nat} (f : List Int → Int) (h : i < ll.length) : (ll.take (i + 1)).map f = (ll.take i).map f ++ [f (gl ll i)] := by
  rw [List.take_succ_eq_append_getElem h, List.map_append, show ll[i] = gl ll i from by simp [gl, List.getElem?_eq_getElem h]]; rfl
set_option maxRecDepth 10000 in
set_option maxHeartbeats 2000000 in
theorem i_orbit (n p : Nat) (A : Option Addr) (L c : Nat) (l : List Int) (w : World) (hn : 1 ≤ n) (hn6 : n ≤ 6) (hL : L = l.length) (h0 : 0 < L) (hl : L ≤ 1000) (hk : InK n l) (hp : p < n) (hs : IS w w.heap.size A l) :
    Calls Tryz.prog 124 #[.agg #[.int .i64 n, .slice A L c], .int .i64 p] w (MI w.heap.size (orL n l p).length (orL n l p) w) := by
  have hmb := fun W h => i_members n A L c l W hn hn6 hL (by omega) hk h
  have hmi := mem_InR hk hL
  have hml := memL_len n l
  rw [← hL] at hml
  have hor : orL n l p = Lib.compact (((memL n l).map fun a => gt a p).mergeSort fun x y => decide (x ≤ y)) := rfl
  rw [hor]
  clear hor
  generalize memL n l = ll at *
  obtain ⟨c0, c1, _, _⟩ := (BK.new w 26 #[.int .i64 (n : Int), .slice A L c]).two
  have hb0 := (Below.refl w.heap.size w).alloc (Nat.le_refl _) (.cells #[.int .i64 (n : Int), .slice A L c] 26)
  have hs0 := hs.call hb0
  obtain ⟨i0, hi, hz0, hz1, hz2⟩ := info_parts infoI64
  have HMI := Lib.hid hmi
  have HML := Lib.hid hml
  clear hmi hml hL hk hs
  go_enter Tryz.func124, Tryz.ntmps124
  go_wp2_with (go_at_call 120; refine (hmb _ hs0).mono ?_; rintro e w2 ⟨A2, c2, vs, rfl, ho2, hr2, hb2⟩; rw [HML.out] at ho2 ⊢)
  have hii := OwnII.ii ho2 hr2
  have hbw := bel_call hb0 hb2
  have hzw := hbw.size
  clear ho2 hr2 hb2 hb0 hs0 c0 c1
  go_loopw [5, 11] (fun u3 u9 wr => ∃ k : Nat, k ≤ L ∧ u9 = .int .i64 k ∧ wr.ownsRow w2.heap.size 2 1 u3 k (ints ((ll.take k).map fun a => gt a p)) ∧ Below w2.heap.size w2 wr) (fun _ u9 _ => L - (intOf u9).toNat)
  case atStart => exact ⟨0, Nat.zero_le _, rfl, World.ownsRow_nil _ _ _ _, Below.refl _ _⟩
  case round =>
    obtain ⟨ws, rfl⟩ : ∃ ws : World, ws = wr := ⟨_, rfl⟩
    obtain ⟨k, hk, rfl, hown, hb⟩ := hrel
    obtain ⟨A3, c3, rfl, _⟩ := own_slice' hown
    have hsz := hb.size
    by_cases hlt : k < L
    · have hkl : k < ll.length := by rw [HML.out]; exact hlt
      have hR := HMI.out k hlt
      obtain ⟨b, off, rfl, hbb, hcell⟩ := hii.at hkl
      obtain ⟨Ac, cc, e1, _, _, his⟩ := hcell k hkl
      have e1 := (hb.cell (p := ⟨b, off + k, none⟩) hbb).trans e1
      obtain ⟨b3, off3, rfl, hbb3, hcell3⟩ := his.at (k := p) (by rw [hR.1]; exact hp)
      have e2 := (hb.cell (p := ⟨b3, off3 + p, none⟩) hbb3).trans (hcell3 p (by rw [hR.1]; exact hp))
      rw [hR.1] at e1
      have hst := take_mapG (fun a => gt a p) hkl
      generalize gl ll k = ak at *
      generalize gt ak p = m at *
      have HST := Lib.hid hst
      clear hst hcell hcell3 hR his
      go_wp2_with (first
        | (at_builtin; refine wpList_append_src rfl (.tmp 15) (.tmp 20) 24 rfl w2.heap.size 2 i0 (.int .i64 0) 1 8 Tryz.underlying24 hi hz0 hz1 hz2 rfl (by omega) (.slice A3 k c3) k (ints ((ll.take k).map fun a => gt a p)) rfl (World.ownsRow.alloc hown _) (some ⟨ws.heap.size, 0, none⟩) 1 1 [.int .i64 m] rfl rfl (one_src ws _ _) (by intro h; cases h) (by intro u hu; simp at hu; subst hu; rfl) (by simp only [maxLen]; omega) (by omega) (by simp; omega) ?_; intro v7 w7 hown7 hg7 hat7)
        | go_in)
      go_roundw
      case rel => exact ⟨k + 1, by omega, by go_num, by rw [HST.out, ints_snoc]; exact hown7, (hb.alloc hsz _).grown hg7 (by simp; omega) (fun g hg => (hown.lt g hg).1)⟩
      case measure => simp [intOf]; omega
    · obtain rfl : k = L := by omega
      rw [List.take_of_length_le (by rw [HML.out]; exact Nat.le_refl _)] at hown
      obtain ⟨g, rfl, hg0, hg1, _⟩ := own_src hown h0
      go_wp2_with (fail)
      refine (c_sort _ g k c3 _ _ hown (by omega)).mono ?_
      rintro e w5 ⟨rfl, hown5, hg5⟩
      go_wp2_with (fail)
      refine (c_compact _ g k c3 _ _ hown5 (by omega)).mono ?_
      rintro e w6 ⟨rfl, hown6, hg6⟩
      generalize hC : Lib.compact ((ll.map fun a => gt a p).mergeSort fun x y => decide (x ≤ y)) = C at *
      have HC := Lib.hid hC
      clear hC
      go_wp2_with (fail)
      go_ret
      refine ⟨_, rfl, by rw [HC.out]; exact own_mono hown6 hzw, ?_⟩
      exact (((hbw.trans (hb.mono hzw)).grown hg5 (by omega) (fun x hx => by injection hx; omega)).grown hg6 (by have := hg5.size; omega) (fun x hx => by injection hx; omega))
end Go.Proofs.YtglijcdnnaekkaaGreat
/- Orbits: the reference's side, and all orbits on both sides. -/
namespace Go.Proofs.YtglijcdnnaekkaaGreat
set_option linter.unusedVariables false
set_option linter.unusedSimpArgs false
open Go.RowKit

set_option maxRecDepth 10000 in
set_option maxHeartbeats 2000000 in
theorem s_orbit (n p : Nat) (A : Option Addr) (L c : Nat) (l : List Int) (w : World) (hn : 1 ≤ n) (hn6 : n ≤ 6) (hL : L = l.length) (hl : L ≤ 1000) (hk : InK n l) (hp : p < n) (hs : IS w w.heap.size A l) :
    Calls Tryz.prog 135 #[.agg #[.int .i64 n, .slice A L c], .int .i64 p] w (MI w.heap.size (orL n l p).length (orL n l p) w) := by
  have hmb := fun W h => s_elements n A L c l W hn hn6 hL (by omega) hk h
  have hmi := mem_InR hk hL
  have hml := memL_len n l
  rw [← hL] at hml
  rw [orL_flags hk hp, ← hL]
  have hfl := fgS_len n (imL n l p)
  have hst : ∀ k, k < L → fgS n (imL n l p) (k + 1) = (fgS n (imL n l p) k).set (gt (gl (memL n l) k) p).toNat true := fun k h => by rw [fgS, imL_gt (by omega)]
  have hbb0 : ∀ W : World, BB (W.alloc (.cells (madeCells #[.bool false] n) 4)) W.heap.size (fgS n (imL n l p) 0) := fun W => BB.new W n
  generalize fgS n (imL n l p) = fl at *
  generalize memL n l = ll at *
  have hmk := fun W => run_make_row' (P := Tryz.prog) 128 4 (.bool false) 1 Tryz.underlying128 infoBool rfl .i64 .i64 n (by omega) (by omega) W
  have B1 := BK.new w 26 #[.int .i64 (n : Int), .slice A L c]
  obtain ⟨c0, c1, _, _⟩ := B1.two
  have hb0 := (Below.refl w.heap.size w).alloc (Nat.le_refl _) (.cells #[.int .i64 (n : Int), .slice A L c] 26)
  have hs0 := hs.call hb0
  have hB1 := fun W (h : Below (w.alloc (.cells #[.int .i64 (n : Int), .slice A L c] 26)).heap.size (w.alloc (.cells #[.int .i64 (n : Int), .slice A L c] 26)) W) => (B1.below h (by simp)).two
  have HMI := Lib.hid hmi
  have HML := Lib.hid hml
  have HFL := Lib.hid hfl
  have HST := Lib.hid hst
  clear hmi hml hL hk hs hfl hst B1
  go_enter Tryz.func135, Tryz.ntmps135
  go_wp2_with (go_at_call 132; refine (hmb _ hs0).mono ?_; rintro e w2 ⟨A2, c2, vs, rfl, ho2, hr2, hb2⟩; rw [HML.out] at ho2 ⊢; obtain ⟨d0, d1, _, _⟩ := hB1 _ hb2)
  have hii := OwnII.ii ho2 hr2
  have hbw := bel_call hb0 hb2
  have hzw := hbw.size
  have hbb : BB (w2.alloc (.cells (madeCells #[.bool false] n) 4)) w2.heap.size (fl 0) := hbb0 w2
  have hbg := (Below.refl w2.heap.size w2).alloc (Nat.le_refl _) (.cells (madeCells #[.bool false] n) 4)
  clear ho2 hr2 hb2 hb0 hs0 c0 c1 d0 d1 hB1 hbb0 hmk hmb
  go_loopw [7] (fun u wr => ∃ k : Nat, k ≤ L ∧ u = .int .i64 k ∧ BB wr w2.heap.size (fl k) ∧ Below w2.heap.size w2 wr) (fun u _ => L - (intOf u).toNat)
  case atStart => exact ⟨0, Nat.zero_le _, rfl, hbb, hbg⟩
  case round =>
    clear hbb hbg
    obtain ⟨ws, rfl⟩ : ∃ ws : World, ws = wr := ⟨_, rfl⟩
    obtain ⟨k, hk, rfl, hbb, hb⟩ := hrel
    have hsz := hb.size
    by_cases hlt : k < L
    · have hkl : k < ll.length := by rw [HML.out]; exact hlt
      have hR := HMI.out k hlt
      obtain ⟨b, off, rfl, hbx, hcell⟩ := hii.at hkl
      obtain ⟨Ac, cc, e1, _, _, his⟩ := hcell k hkl
      have e1 := (hb.cell (p := ⟨b, off + k, none⟩) hbx).trans e1
      obtain ⟨b3, off3, rfl, hbb3, hcell3⟩ := his.at (k := p) (by rw [hR.1]; exact hp)
      have e2 := (hb.cell (p := ⟨b3, off3 + p, none⟩) hbb3).trans (hcell3 p (by rw [hR.1]; exact hp))
      rw [hR.1] at e1
      obtain ⟨r1, r2⟩ := hR.2 p hp
      have hst := HST.out k hlt
      obtain ⟨r, hr⟩ := Int.eq_ofNat_of_zero_le r1
      rw [hr] at e2 hst r2
      rw [Int.toNat_natCast] at hst
      have hrF : r < n := by omega
      have hrl : r < (fl k).length := by rw [HFL.out]; exact hrF
      obtain ⟨e3, e4⟩ := hbb.cell hrl
      have hset := hbb.set hrl
      rw [← hst] at hset
      have HSET := Lib.hid hset
      generalize hFk : fl (k + 1) = FK at *
      have HFK := Lib.hid hFk
      clear hset hst hrl hFk hr hcell hcell3 hR his r1 r2
      go_wp2_with (go_quiet (fail))
      go_roundw
      case rel => exact ⟨k + 1, by omega, by go_num, by rw [HFK.out]; exact HSET.out, hb.setCell (Nat.le_refl _) _⟩
      case measure => simp [intOf]; omega
    · obtain rfl : k = L := by omega
      have hls := fun W h => s_listed w2.heap.size n n (fl k) W (HFL.out k).symm (by omega) h
      generalize lsL (fl k) = C at *
      go_wp2_with (go_at_call 136; refine (hls _ hbb).mono ?_; rintro e w6 ⟨v6, rfl, ho6, hb6⟩)
      go_ret
      exact ⟨_, rfl, own_mono ho6 (by omega), bel_call (bel_call hbw hb) hb6⟩
/-- All orbits up to a point. -/
def obL (n : Nat) (l : List Int) (k : Nat) : List (List Int) := ((List.range k).filter fun p => gt (orL n l p) 0 == (p : Int)).map (orL n l)
theorem obL_yes {n k : Nat} {l : List Int} (h : (gt (orL n l k) 0 == (k : Int)) = true) : obL n l (k + 1) = obL n l k ++ [orL n l k] := by
  unfold obL; rw [List.range_succ, List.filter_append, List.map_append]; simp [h]
theorem obL_no {n k : Nat} {l : List Int} (h : (gt (orL n l k) 0 == (k : Int)) = false) : obL n l (k + 1) = obL n l k := by
  unfold obL; rw [List.range_succ, List.filter_append, List.map_append]; simp [h]
theorem obL_le (n : Nat) (l : List Int) (k : Nat) : (obL n l k).length ≤ k := by
  unfold obL; rw [List.length_map]; refine Nat.le_trans (List.length_filter_le _ _) ?_; simp
end Go.Proofs.YtglijcdnnaekkaaGreat
