/- Orbits, on both sides. -/
import Derived.Test.YtglijcdnnaekkaaGreatA171
import Derived.Test.YtglijcdnnaekkaaGreatA155
namespace Go.Proofs.YtglijcdnnaekkaaGreat
set_option linter.unusedVariables false
set_option linter.unusedSimpArgs false
open Go.RowKit

theorem img_listed {zs : List Int} {sn : List Bool} (h : ∀ r : Nat, sn.getD r false = true ↔ (r : Int) ∈ zs) (h0 : ∀ x ∈ zs, 0 ≤ x) : Lib.compact (zs.mergeSort fun x y => decide (x ≤ y)) = lsL sn := by
  obtain ⟨h1, h2⟩ := sorted_compact zs
  refine rise_eq h1 (lsL_rise sn) fun x => ?_
  rw [h2 x, lsL_mem]
  constructor
  · intro hx
    have hx0 := h0 x hx
    obtain ⟨r, rfl⟩ := Int.eq_ofNat_of_zero_le hx0
    have hr := (h r).2 hx
    refine ⟨r, rfl, ?_, hr⟩
    rcases Nat.lt_or_ge r sn.length with h3 | h3
    · exact h3
    · rw [List.getD_eq_getElem?_getD, List.getElem?_eq_none h3] at hr; simp at hr
  · rintro ⟨r, rfl, _, hr⟩
    exact (h r).1 hr
/-- Where the permutations of a group take a point. -/
def imL (n : Nat) (l : List Int) (p : Nat) : List Int := (memL n l).map fun a => gt a p
def orL (n : Nat) (l : List Int) (p : Nat) : List Int := Lib.compact ((imL n l p).mergeSort fun x y => decide (x ≤ y))
theorem imL_len (n : Nat) (l : List Int) (p : Nat) : (imL n l p).length = l.length := by simp [imL, memL_len]
theorem gt_mapL {f : List Int → Int} {ll : List (List Int)} {k : Nat} (h : k < ll.length) : gt (ll.map f) k = f (gl ll k) := by simp [gt, gl, List.getElem?_eq_getElem h]
theorem imL_gt {n : Nat} {l : List Int} {p k : Nat} (h : k < l.length) : gt (imL n l p) k = gt (gl (memL n l) k) p := by
  unfold imL
  exact gt_mapL (by rw [memL_len]; exact h)
theorem imL_in {n p : Nat} {l : List Int} (hk : InK n l) (hp : p < n) : ∀ k, k < (imL n l p).length → 0 ≤ gt (imL n l p) k ∧ gt (imL n l p) k < (n : Int) := fun k h => by
  rw [imL_len] at h
  rw [imL_gt h]
  exact (mem_in hk k (by rw [memL_len]; exact h)).2 p hp
theorem orL_flags {n p : Nat} {l : List Int} (hk : InK n l) (hp : p < n) : orL n l p = lsL (fgS n (imL n l p) l.length) := by
  have hin := imL_in hk hp
  refine img_listed (fun r => ?_) (fun x hx => ?_)
  · have h := fgS_mem (F := n) (l := imL n l p) hin (imL n l p).length (Nat.le_refl _) r
    rw [imL_len] at h
    rw [h]
    constructor
    · rintro ⟨k, hk', e⟩; rw [← e]; exact gt_mem (by rw [imL_len]; exact hk')
    · intro hm
      obtain ⟨j, hj, e⟩ := List.mem_iff_getElem.1 hm
      exact ⟨j, by rw [imL_len] at hj; exact hj, by simp [gt, List.getElem?_eq_getElem hj, e]⟩
  · obtain ⟨j, hj, e⟩ := List.mem_iff_getElem.1 hx
    have := (hin j hj).1
    simpa [gt, List.getElem?_eq_getElem hj, e] using this
theorem orL_len {n p : Nat} {l : List Int} (hk : InK n l) (hp : p < n) : (orL n l p).length ≤ n := by
  rw [orL_flags hk hp]
  have := lsL_len (fgS n (imL n l p) l.length)
  rw [fgS_len] at this
  exact this
theorem orL_pos {n p : Nat} {l : List Int} (h : 0 < l.length) : 0 < (orL n l p).length := by
  have hm : gt (imL n l p) 0 ∈ orL n l p := ((sorted_compact (imL n l p)).2 _).2 (gt_mem (by rw [imL_len]; exact h))
  exact List.length_pos_of_mem hm
theorem take_mapG {ll : List (List Int)} {i : Nat} (f : List Int → Int) (h : i < ll.length) : (ll.take (i + 1)).map f = (ll.take i).map f ++ [f (gl ll i)] := by
  rw [List.take_succ_eq_append_getElem h, List.map_append, show ll[i] = gl ll i from by simp [gl, List.getElem?_eq_getElem h]]; rfl
set_option maxRecDepth 10000 in
set_option maxHeartbeats 2000000 in
theorem i_orbit (n p : Nat) (A : Option Addr) (L c : Nat) (l : List Int) (w : World) (hn : 1 ≤ n) (hn6 : n ≤ 6) (hL : L = l.length) (h0 : 0 < L) (hl : L ≤ 1000) (hk : InK n l) (hp : p < n) (hs : IS w w.heap.size A l) :
    Calls Tryz.prog 124 #[.agg #[.int .i64 n, .slice A L c], .int .i64 p] w (MI w.heap.size (orL n l p).length (orL n l p) w) := by
  have hmb := fun W h => i_members n A L c l W hn hn6 hL (by omega) hk h
  have hmi := mem_InR hk hL
  have hml := memL_len n l
  rw [← hL] at hml
  have hor : orL n l p = Lib.compact (((memL n l).map fun a => gt a p).mergeSort fun x y => decide (x ≤ y)) := rfl
  rw [hor]
  clear hor
  generalize memL n l = ll at *
  obtain ⟨c0, c1, _, _⟩ := (BK.new w 26 #[.int .i64 (n : Int), .slice A L c]).two
  have hb0 := (Below.refl w.heap.size w).alloc (Nat.le_refl _) (.cells #[.int .i64 (n : Int), .slice A L c] 26)
  have hs0 := hs.call hb0
  obtain ⟨i0, hi, hz0, hz1, hz2⟩ := info_parts infoI64
  have HMI := Lib.hid hmi
  have HML := Lib.hid hml
  clear hmi hml hL hk hs
  go_enter Tryz.func124, Tryz.ntmps124
  go_wp2_with (go_at_call 120; refine (hmb _ hs0).mono ?_; rintro e w2 ⟨A2, c2, vs, rfl, ho2, hr2, hb2⟩; rw [HML.out] at ho2 ⊢)
  have hii := OwnII.ii ho2 hr2
  have hbw := bel_call hb0 hb2
  have hzw := hbw.size
  clear ho2 hr2 hb2 hb0 hs0 c0 c1
  go_loopw [5, 11] (fun u3 u9 wr => ∃ k : Nat, k ≤ L ∧ u9 = .int .i64 k ∧ wr.ownsRow w2.heap.size 2 1 u3 k (ints ((ll.take k).map fun a => gt a p)) ∧ Below w2.heap.size w2 wr) (fun _ u9 _ => L - (intOf u9).toNat)
  case atStart => exact ⟨0, Nat.zero_le _, rfl, World.ownsRow_nil _ _ _ _, Below.refl _ _⟩
  case round =>
    obtain ⟨ws, rfl⟩ : ∃ ws : World, ws = wr := ⟨_, rfl⟩
    obtain ⟨k, hk, rfl, hown, hb⟩ := hrel
    obtain ⟨A3, c3, rfl, _⟩ := own_slice' hown
    have hsz := hb.size
    by_cases hlt : k < L
    · have hkl : k < ll.length := by rw [HML.out]; exact hlt
      have hR := HMI.out k hlt
      obtain ⟨b, off, rfl, hbb, hcell⟩ := hii.at hkl
      obtain ⟨Ac, cc, e1, _, _, his⟩ := hcell k hkl
      have e1 := (hb.cell (p := ⟨b, off + k, none⟩) hbb).trans e1
      obtain ⟨b3, off3, rfl, hbb3, hcell3⟩ := his.at (k := p) (by rw [hR.1]; exact hp)
      have e2 := (hb.cell (p := ⟨b3, off3 + p, none⟩) hbb3).trans (hcell3 p (by rw [hR.1]; exact hp))
      rw [hR.1] at e1
      have hst := take_mapG (fun a => gt a p) hkl
      generalize gl ll k = ak at *
      generalize gt ak p = m at *
      have HST := Lib.hid hst
      clear hst hcell hcell3 hR his
      go_wp2_with (first
        | (at_builtin; refine wpList_append_src rfl (.tmp 15) (.tmp 20) 24 rfl w2.heap.size 2 i0 (.int .i64 0) 1 8 Tryz.underlying24 hi hz0 hz1 hz2 rfl (by omega) (.slice A3 k c3) k (ints ((ll.take k).map fun a => gt a p)) rfl (World.ownsRow.alloc hown _) (some ⟨ws.heap.size, 0, none⟩) 1 1 [.int .i64 m] rfl rfl (one_src ws _ _) (by intro h; cases h) (by intro u hu; simp at hu; subst hu; rfl) (by simp only [maxLen]; omega) (by omega) (by simp; omega) ?_; intro v7 w7 hown7 hg7 hat7)
        | go_in)
      go_roundw
      case rel => exact ⟨k + 1, by omega, by go_num, by rw [HST.out, ints_snoc]; exact hown7, (hb.alloc hsz _).grown hg7 (by simp; omega) (fun g hg => (hown.lt g hg).1)⟩
      case measure => simp [intOf]; omega
    · obtain rfl : k = L := by omega
      rw [List.take_of_length_le (by rw [HML.out]; exact Nat.le_refl _)] at hown
      obtain ⟨g, rfl, hg0, hg1, _⟩ := own_src hown h0
      go_wp2_with (fail)
      refine (c_sort _ g k c3 _ _ hown (by omega)).mono ?_
      rintro e w5 ⟨rfl, hown5, hg5⟩
      go_wp2_with (fail)
      refine (c_compact _ g k c3 _ _ hown5 (by omega)).mono ?_
      rintro e w6 ⟨rfl, hown6, hg6⟩
      generalize hC : Lib.compact ((ll.map fun a => gt a p).mergeSort fun x y => decide (x ≤ y)) = C at *
      have HC := Lib.hid hC
      clear hC
      go_wp2_with (fail)
      go_ret
      refine ⟨_, rfl, by rw [HC.out]; exact own_mono hown6 hzw, ?_⟩
      exact (((hbw.trans (hb.mono hzw)).grown hg5 (by omega) (fun x hx => by injection hx; omega)).grown hg6 (by have := hg5.size; omega) (fun x hx => by injection hx; omega))
end Go.Proofs.YtglijcdnnaekkaaGreat
