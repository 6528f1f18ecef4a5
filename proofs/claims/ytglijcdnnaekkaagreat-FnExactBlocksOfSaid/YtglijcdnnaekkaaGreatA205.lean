/- Blocks: the reference's joining of classes. -/
import Derived.Test.YtglijcdnnaekkaaGreatA201
import Derived.Test.YtglijcdnnaekkaaGreatA173
import Derived.Test.YtglijcdnnaekkaaGreatA174
import Derived.BigQuiet
namespace Go.Proofs.YtglijcdnnaekkaaGreat
set_option linter.unusedVariables false
set_option linter.unusedSimpArgs false
open Go.RowKit

def jF (X Y z : Int) : Int := if z = Y then X else z
def jS (X Y : Int) (c : List Int) (i : Nat) : List Int := (c.take i).map (jF X Y) ++ c.drop i
theorem jS_len (X Y : Int) (c : List Int) (i : Nat) : (jS X Y c i).length = c.length := by simp [jS]; omega
theorem jS_zero (X Y : Int) (c : List Int) : jS X Y c 0 = c := by simp [jS]
theorem jS_all (X Y : Int) (c : List Int) : jS X Y c c.length = c.map (jF X Y) := by simp [jS]
theorem jS_at {X Y : Int} {c : List Int} {i : Nat} (h : i < c.length) : gt (jS X Y c i) i = gt c i := by
  simp [gt, jS, List.getElem?_append, h, Nat.min_eq_left (Nat.le_of_lt h)]
theorem jS_succ {X Y : Int} {c : List Int} {i : Nat} (h : i < c.length) : jS X Y c (i + 1) = (jS X Y c i).set i (jF X Y (gt c i)) := by
  have h1 : c.drop i = gt c i :: c.drop (i + 1) := by rw [List.drop_eq_getElem_cons h, gt_eq h]
  unfold jS
  rw [h1, List.take_succ_eq_append_getElem h, List.map_append, List.set_append_right _ _ (by simp [Nat.min_eq_left (Nat.le_of_lt h)])]
  simp [Nat.min_eq_left (Nat.le_of_lt h), gt_eq h]
  rw [List.drop_eq_getElem_cons h, List.set_cons_zero]
theorem jS_yes {X Y : Int} {c : List Int} {i : Nat} (h : i < c.length) (e : gt c i = Y) : jS X Y c (i + 1) = (jS X Y c i).set i X := by
  rw [jS_succ h, jF, if_pos e]
theorem jS_no {X Y : Int} {c : List Int} {i : Nat} (h : i < c.length) (e : ¬ gt c i = Y) : jS X Y c (i + 1) = jS X Y c i := by
  rw [jS_succ h, jF, if_neg e]
  have h2 := jS_at (X := X) (Y := Y) h
  rw [gt_eq (by rw [jS_len]; exact h)] at h2
  rw [← h2, List.set_getElem_self]
theorem ints_set (l : List Int) (i : Nat) (x : Int) : (ints l).set i (.int .i64 x) = ints (l.set i x) := by simp [ints, List.map_set]
theorem joinL_jF (c : List Int) (a b : Nat) : joinL c a b = c.map (jF (min (gt c a) (gt c b)) (max (gt c a) (gt c b))) := rfl
set_option maxRecDepth 10000 in
set_option maxHeartbeats 2000000 in
theorem s_l23Join (A : Option Addr) (n ca a b : Nat) (c : List Int) (w : World) (hn6 : n ≤ 6) (hc : InR n c) (ha : a < n) (hb : b < n) (hs : IS w w.heap.size A c) :
    Calls Tryz.prog 143 #[.slice A n ca, .int .i64 a, .int .i64 b] w (MI w.heap.size n (joinL c a b) w) := by
  obtain ⟨bk, off, rfl, hbk, hcell⟩ := hs.at (k := a) (by rw [hc.1]; exact ha)
  have e1 := hcell a (by rw [hc.1]; exact ha)
  have e2 := hcell b (by rw [hc.1]; exact hb)
  have hown := fun q => s_l01Own ⟨bk, off, none⟩ n ca c (w.drewN q) hc.1.symm (by omega) (fun j u hj => by
    have hjl : j < c.length := by
      have := (List.getElem?_eq_some_iff.1 hj).1
      simpa [ints] using this
    have h2 := hcell j hjl
    have h3 : u = .int .i64 (gt c j) := by
      simp [ints, hjl] at hj
      rw [gt_eq hjl]; exact hj.symm
    rw [h3, Go.WideShapes.add_plain]
    exact h2) (fun j => by rw [Go.WideShapes.add_plain]; exact hbk)
  rw [joinL_jF]
  generalize hX : min (gt c a) (gt c b) = X at *
  generalize hY : max (gt c a) (gt c b) = Y at *
  have hmn : min (gt c a) (gt c b) = X := hX
  have hmx : max (gt c a) (gt c b) = Y := hY
  generalize gt c a = ga at *
  generalize gt c b = gb at *
  have HN := Lib.hid hc.1.symm
  clear hcell hc hs
  go_enter Tryz.func143, Tryz.ntmps143
  go_wp2_with (go_quiet (fail))
  refine (hown _).mono ?_
  rintro e w2 ⟨v2, rfl, ho2, hb2⟩
  have hb2 := undrew hb2
  obtain ⟨A2, c2, rfl, _⟩ := own_slice' ho2
  obtain ⟨g2, rfl, hg2, _, _⟩ := own_src ho2 (by omega)
  have hg2 : w.heap.size ≤ g2 := hg2
  have ho2 := own_mono (base' := w.heap.size) ho2 (Nat.le_refl _)
  have hzs := jS_zero X Y c
  have hal := jS_all X Y c
  have hln := jS_len X Y c
  rw [← HN.out] at hal
  have hat := fun i (h : i < n) => jS_at (X := X) (Y := Y) (c := c) (i := i) (by rw [← HN.out]; exact h)
  have hye := fun i (h : i < n) => jS_yes (X := X) (Y := Y) (c := c) (i := i) (by rw [← HN.out]; exact h)
  have hno := fun i (h : i < n) => jS_no (X := X) (Y := Y) (c := c) (i := i) (by rw [← HN.out]; exact h)
  generalize jS X Y c = js at *
  have HAL := Lib.hid hal
  have HLN := Lib.hid hln
  have HAT := Lib.hid hat
  have HYE := Lib.hid hye
  have HNO := Lib.hid hno
  have HZS := Lib.hid hzs
  clear hal hln hat hye hno hzs e1 e2 hown hmn hmx hX hY
  go_wp2_with (fail)
  go_loopw [10] (fun u10 wr => ∃ i : Nat, i ≤ n ∧ u10 = .int .i64 i ∧ wr.ownsRow w.heap.size 2 1 (.slice (some ⟨g2, 0, none⟩) n c2) n (ints (js i)) ∧ w2.grownBy wr (some g2)) (fun u10 _ => n - (intOf u10).toNat)
  case atStart => exact ⟨0, Nat.zero_le _, rfl, by rw [HZS.out]; exact ho2, World.grownBy.refl _ _⟩
  case round =>
    clear ho2
    obtain ⟨ws, rfl⟩ : ∃ ws : World, ws = wr := ⟨_, rfl⟩
    obtain ⟨i, hi, rfl, ho, hg⟩ := hrel
    by_cases hlt : i < n
    · obtain ⟨g', e', _, _, hc⟩ := own_src ho (by omega)
      injection e' with e'
      injection e' with e'
      subst e'
      have hat := HAT.out i hlt
      have hcell := hc i _ (ints_at (l := js i) (by rw [HLN.out, ← HN.out]; exact hlt))
      rw [hat] at hcell
      have hfr := ho.frozenAt i
      have hst := ho.stored i (.int .i64 X)
      rw [ints_set] at hst
      have hye := HYE.out i hlt
      have hno := HNO.out i hlt
      generalize gt c i = z at *
      by_cases hzy : z = Y
      · rw [← hye hzy] at hst
        have HST := Lib.hid hst
        subst hzy
        clear hst hc hat hye hno
        have ht : (z == z) = true := by simp
        go_wp2_with (fail)
        go_roundw
        case rel => exact ⟨i + 1, by omega, by go_num, HST.out.1, grown_trans hg HST.out.2⟩
        case measure => simp [intOf]; omega
      · have e5 := hno hzy
        have ht : (z == Y) = false := by rw [beq_eq_false_iff_ne]; exact hzy
        have HST := Lib.hid e5
        clear hst hc hat hye hno hzy e5
        go_wp2_with (fail)
        go_roundw
        case rel => exact ⟨i + 1, by omega, by go_num, by rw [HST.out]; exact ho, hg⟩
        case measure => simp [intOf]; omega
    · obtain rfl : i = n := by omega
      rw [HAL.out] at ho
      generalize hF : c.map (jF X Y) = F at *
      have HF := Lib.hid hF
      clear hF
      go_wp2_with (fail)
      go_ret
      exact ⟨_, rfl, ho, hb2.grown hg hb2.size (fun x hx => by injection hx with hx; omega)⟩
end Go.Proofs.YtglijcdnnaekkaaGreat
