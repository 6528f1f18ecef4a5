/- Several parts of the proof in one text; each part says what it shows. Nothing is assumed. -/
import Derived.Test.YtjfinniebijgbaaDoorA96
import Derived.Test.YtjfinniebijgbaaDoorA20
import Derived.Deep.RegionLaw
/- IsEvenName, on the side of the reference; the law. -/
namespace Go.Proofs.YtjfinniebijgbaaDoor
set_option linter.unusedVariables false
set_option linter.unusedSimpArgs false
open Go.RowKit

end Go.Proofs.YtjfinniebijgbaaDoor
/- Types of permutations: insertion sort and its plain law; the type on both sides. -/
namespace Go.Proofs.YtjfinniebijgbaaDoor
set_option linter.unusedVariables false
set_option linter.unusedSimpArgs false
open Go.RowKit

/-- Where x goes among the first k of a sorted list. -/
def posL (out : List Int) (x : Int) : Nat → Nat
  | 0 => 0
  | k + 1 => if x < gt out k then posL out x k else k + 1
theorem pos_yes {out : List Int} {x : Int} {k : Nat} (h : x < gt out k) : posL out x (k + 1) = posL out x k := by rw [posL, if_pos h]
theorem pos_no {out : List Int} {x : Int} {k : Nat} (h : ¬ x < gt out k) : posL out x (k + 1) = k + 1 := by rw [posL, if_neg h]
theorem pos_le (out : List Int) (x : Int) : ∀ k, posL out x k ≤ k
  | 0 => Nat.le_refl _
  | k + 1 => by
    unfold posL
    split
    · exact Nat.le_trans (pos_le out x k) (by omega)
    · exact Nat.le_refl _
theorem pos_up (out : List Int) (x : Int) : ∀ k j, posL out x k ≤ j → j < k → x < gt out j
  | 0, j, _, h => by omega
  | k + 1, j, h1, h2 => by
    unfold posL at h1
    split at h1
    · rename_i hx
      by_cases hj : j = k
      · subst hj; exact hx
      · exact pos_up out x k j h1 (by omega)
    · omega
theorem pos_dn (out : List Int) (x : Int) : ∀ k, 0 < posL out x k → ¬ x < gt out (posL out x k - 1)
  | 0, h => by simp [posL] at h
  | k + 1, h => by
    by_cases hx : x < gt out k
    · rw [pos_yes hx] at h ⊢; exact pos_dn out x k h
    · rw [pos_no hx]; simpa using hx
def insL (out : List Int) (x : Int) : List Int := out.take (posL out x out.length) ++ [x] ++ out.drop (posL out x out.length)
theorem insL_len (out : List Int) (x : Int) : (insL out x).length = out.length + 1 := by
  have := pos_le out x out.length
  simp [insL]; omega
theorem insL_perm (out : List Int) (x : Int) : (insL out x).Perm (x :: out) := by
  unfold insL
  have h1 : (out.take (posL out x out.length) ++ [x] ++ out.drop (posL out x out.length)).Perm ([x] ++ (out.take (posL out x out.length) ++ out.drop (posL out x out.length))) := by
    rw [List.append_assoc, ← List.append_assoc [x]]
    rw [← List.append_assoc]
    exact (List.perm_append_comm).append_right _
  rw [List.take_append_drop] at h1
  exact h1
theorem insL_sorted {out : List Int} (x : Int) (h : out.Pairwise (· ≤ ·)) : (insL out x).Pairwise (· ≤ ·) := by
  have hle := pos_le out x out.length
  have hup := pos_up out x out.length
  have hdn := pos_dn out x out.length
  unfold insL
  generalize posL out x out.length = p at *
  have hg : ∀ j (hj : j < out.length), gt out j = out[j] := fun j hj => by simp [gt, hj]
  have hpw := List.pairwise_iff_getElem.1 h
  rw [List.append_assoc, List.pairwise_append]
  refine ⟨h.sublist (List.take_sublist _ _), ?_, fun a ha b hb => ?_⟩
  · rw [List.singleton_append, List.pairwise_cons]
    refine ⟨fun b hb => ?_, h.sublist (List.drop_sublist _ _)⟩
    obtain ⟨j, hj, e⟩ := List.mem_iff_getElem.1 hb
    rw [List.getElem_drop] at e
    simp at hj
    have h1 := hup (p + j) (by omega) (by omega)
    rw [hg _ (by omega), e] at h1
    omega
  · obtain ⟨j, hj, e⟩ := List.mem_iff_getElem.1 ha
    rw [List.getElem_take] at e
    simp at hj
    have h1 := hdn (by omega)
    rw [hg _ (by omega)] at h1
    have hax : a ≤ x := by
      by_cases hjp : j = p - 1
      · subst hjp; rw [← e]; omega
      · have h2 := hpw j (p - 1) (by omega) (by omega) (by omega)
        rw [e] at h2; omega
    rw [List.singleton_append, List.mem_cons] at hb
    rcases hb with rfl | hb
    · exact hax
    · obtain ⟨j', hj', e'⟩ := List.mem_iff_getElem.1 hb
      rw [List.getElem_drop] at e'
      simp at hj'
      have h3 := hup (p + j') (by omega) (by omega)
      rw [hg _ (by omega), e'] at h3
      omega
def insS (l : List Int) : Nat → List Int
  | 0 => []
  | k + 1 => insL (insS l k) (gt l k)
theorem insS_len (l : List Int) : ∀ k, (insS l k).length = k
  | 0 => rfl
  | k + 1 => by rw [insS, insL_len, insS_len l k]
theorem insS_sorted (l : List Int) : ∀ k, (insS l k).Pairwise (· ≤ ·)
  | 0 => List.Pairwise.nil
  | k + 1 => insL_sorted _ (insS_sorted l k)
theorem insS_perm (l : List Int) : ∀ k, k ≤ l.length → (insS l k).Perm (l.take k)
  | 0, _ => by simp [insS]
  | k + 1, h => by
    have h1 := insL_perm (insS l k) (gt l k)
    have h2 := insS_perm l k (by omega)
    rw [List.take_succ_eq_append_getElem h]
    have e : l[k] = gt l k := by simp [gt, List.getElem?_eq_getElem h]
    rw [e]
    exact h1.trans ((List.Perm.cons _ h2).trans (List.perm_append_comm (l₁ := [gt l k])))
/-- The insertion sort and the library's sort give the same. -/
theorem insS_sort (l : List Int) : insS l l.length = l.mergeSort fun x y => decide (x ≤ y) := by
  have hs : (l.mergeSort fun x y => decide (x ≤ y)).Pairwise fun x y => decide (x ≤ y) = true :=
    List.pairwise_mergeSort (le := fun x y => decide (x ≤ y)) (fun a b c h1 h2 => by simp at *; omega) (fun a b => by simp; omega) l
  have hp := insS_perm l l.length (Nat.le_refl _)
  rw [List.take_length] at hp
  refine List.Perm.eq_of_pairwise (le := (· ≤ ·)) (fun a b _ _ h1 h2 => by omega) (insS_sorted l l.length) (hs.imp fun h => by simpa using h) (hp.trans (List.mergeSort_perm l _).symm)
def lnL (ll : List (List Int)) : List Int := ll.map fun c => ((c.length : Nat) : Int)
theorem lnL_take {ll : List (List Int)} {k : Nat} (h : k < ll.length) : lnL (ll.take (k + 1)) = lnL (ll.take k) ++ [(((gl ll k).length : Nat) : Int)] := by
  simp only [lnL]
  rw [List.take_succ_eq_append_getElem h, List.map_append]
  simp [gl, List.getElem?_eq_getElem h]
/-- The type of a permutation. -/
def tyS (a : List Int) : List Int := (lnL (cycL a)).mergeSort fun x y => decide (x ≤ y)
theorem cyc_mono (a : List Int) : ∀ (m i : Nat) (sn : List Bool) (ll : List (List Int)), ll.length ≤ (cycS a m i sn ll).length
  | 0, _, _, _ => Nat.le_refl _
  | m + 1, i, sn, ll => by
    unfold cycS
    split
    · exact cyc_mono a m (i + 1) sn ll
    · have := cyc_mono a m (i + 1) (orb a (a.length + 1) i sn []).1 (ll ++ [(orb a (a.length + 1) i sn []).2])
      simp only [List.length_append, List.length_singleton] at this
      omega
theorem cycL_pos {a : List Int} (h : 0 < a.length) : 0 < (cycL a).length := by
  unfold cycL
  obtain ⟨m, hm⟩ : ∃ m, a.length = m + 1 := ⟨a.length - 1, by omega⟩
  rw [hm]
  have h0 : (List.replicate (m + 1) false).getD 0 false = false := by simp
  rw [cyc_new h0]
  have := cyc_mono a m (0 + 1) (orb a (a.length + 1) 0 (List.replicate (m + 1) false) []).1 ([] ++ [(orb a (a.length + 1) 0 (List.replicate (m + 1) false) []).2])
  simp only [List.length_append, List.length_singleton, List.length_nil] at this
  omega
end Go.Proofs.YtjfinniebijgbaaDoor
/- The reference's insertion sort. -/
namespace Go.Proofs.YtjfinniebijgbaaDoor
set_option linter.unusedVariables false
set_option linter.unusedSimpArgs false
open Go.RowKit

set_option maxRecDepth 10000 in
set_option maxHeartbeats 4000000 in
theorem s_l11Sorted (A : Option Addr) (n c : Nat) (l : List Int) (w : World) (hn : n = l.length) (hl : n ≤ 6) (hs : IS w w.heap.size A l) :
    Calls Tryd.prog 54 #[.slice A n c] w (MI w.heap.size n (insS l n) w) := by
  have HN := Lib.hid hn
  clear hn
  obtain ⟨i0, hi, hz0, hz1, hz2⟩ := info_parts infoI64
  go_enter Tryd.func54, Tryd.ntmps54
  go_wp2_with (fail)
  go_loopw [3, 4] (fun u3 u4 wr => ∃ (k g c3 : Nat), k ≤ n ∧ u4 = .int .i64 k ∧ u3 = .slice (some ⟨g, 0, none⟩) k c3 ∧ wr.ownsRow w.heap.size 2 1 u3 k (ints (insS l k)) ∧ Below w.heap.size w wr) (fun _ u4 _ => n - (intOf u4).toNat)
  case atStart => exact ⟨0, w.heap.size, 0, Nat.zero_le _, rfl, rfl, World.ownsRow_lit w #[] 0 (Nat.le_refl _) (by simp [maxLen]) rfl, (Below.refl _ _).alloc (Nat.le_refl _) _⟩
  case round =>
    obtain ⟨wo, rfl⟩ : ∃ wo : World, wo = wr := ⟨_, rfl⟩
    obtain ⟨k, g, c3, hk, rfl, rfl, hown, hb⟩ := hrel
    obtain ⟨hkc, hcm⟩ := own_cap hown
    have hgl := (hown.lt g rfl).2
    have hsz := hb.size
    by_cases hlt : k < n
    · have hkl : k < l.length := by rw [← HN.out]; exact hlt
      obtain ⟨b, off, rfl, hbb, hcell⟩ := hs.at hkl
      have e1 := (hb.cell (p := ⟨b, off + k, none⟩) hbb).trans (hcell k hkl)
      have hst : insS l (k + 1) = insL (insS l k) (gt l k) := rfl
      have hil := insS_len l k
      have hll := insS_len l (k + 1)
      generalize gt l k = x at *
      have hinsd : insL (insS l k) x = (insS l k).take (posL (insS l k) x (insS l k).length) ++ [x] ++ (insS l k).drop (posL (insS l k) x (insS l k).length) := rfl
      rw [hil] at hinsd
      rw [hst] at hll
      generalize insS l k = out at *
      have hcl : ∀ j, j < k → wo.cell? ⟨g, j, none⟩ = some (.int .i64 (gt out j)) := fun j hj => by
        have h9 := World.ownsRow.cells hown (g := g) rfl j _ (ints_at (by rw [hil]; exact hj))
        rw [Go.WideShapes.add_plain] at h9
        simpa using h9
      have HCL := Lib.hid hcl
      have HST := Lib.hid hst
      have HIL := Lib.hid hil
      have HLL := Lib.hid hll
      have HIN := Lib.hid hinsd
      have hple := pos_le out x k
      clear hcl hst hil hll hinsd hcell
      go_wp2_with (fail)
      go_loopw [5] (fun u5 wr => ∃ p : Nat, p ≤ k ∧ u5 = .int .i64 p ∧ Hid (posL out x p = posL out x k) ∧ DR wo wr) (fun u5 _ => (intOf u5).toNat)
      case atStart => exact ⟨k, Nat.le_refl _, rfl, rfl, DR.refl _⟩
      case round =>
        obtain ⟨p, hp, rfl, HP, hdr⟩ := hrel
        have e3 := (hdr.cell _).trans e1
        have hexit : ∀ wr' : World, True := fun _ => trivial
        rcases Nat.eq_zero_or_pos p with rfl | hp0
        · have hfin : Hid (posL out x k = 0) := HP.out.symm
          go_wp2_with (go_quiet (fail))
          have hd2 : ∀ (j : Nat) (u : Value), (ints (out.drop 0))[j]? = some u → (ints out)[j]? = some u := fun j u hj => by rw [List.drop_zero] at hj; exact hj
          have HFIN := hfin
          have hdr : DR wo (wr.drewN nq) := by repeat (first | exact hdr | refine DR.step ?_ _)
          generalize wr.drewN nq = wt at hdr ⊢
          clear e3
          have e3 := (hdr.cell ⟨b, off + k, none⟩).trans e1
          have hpk : 0 ≤ k := by have := HFIN.out; omega
          have hpl : (0 : Int) ≤ (k : Int) := by omega
          have hpc : 0 ≤ c3 := by omega
          have hpci : ((0 : Nat) : Int) ≤ (c3 : Int) := by omega
          have hoT : wt.ownsRow w.heap.size 2 1 (.slice (some ⟨g, 0, none⟩) k c3) k (ints out) := by obtain ⟨d, rfl⟩ := hdr; exact own_dr hown d
          have hbT : Below w.heap.size w wt := by obtain ⟨d, rfl⟩ := hdr; exact below_drewN hb d
          have hgT : g < wt.heap.size := (hoT.lt g rfl).2
          have hszT := hbT.size
          have hbwT : b < wt.heap.size := by omega
          have htk : (out.take (0)).length = 0 := by rw [List.length_take, HIL.out]; omega
          have hdp : (out.drop (0)).length = k - (0) := by rw [List.length_drop, HIL.out]
          have HTK := Lib.hid htk
          have HDP := Lib.hid hdp
          clear htk hdp
          have hownc : ∀ W : World, W.ownsRow w.heap.size 2 1 (.slice (some ⟨g, 0, none⟩) k c3) k (ints out) → Calls Tryd.prog 67 #[.slice (some ⟨g, 0, none⟩) (0) c3] W (MI W.heap.size (0) (out.take (0)) W) := fun W hl => by
            have hlt := (hl.lt g rfl).2
            refine s_l01Own ⟨g, 0, none⟩ (0) c3 (out.take (0)) W HTK.out.symm (by omega) (fun j u hj => World.ownsRow.cells hl (g := g) rfl j u ?_) (fun j => by rw [Go.WideShapes.add_plain]; exact hlt)
            unfold ints at hj ⊢
            rw [List.getElem?_map] at hj ⊢
            rw [List.getElem?_take] at hj
            split at hj
            · exact hj
            · simp at hj
          have hcell6 : ∀ W : World, Below wt.heap.size wt W → W.cell? ⟨b, off + k, none⟩ = some (.int .i64 x) := fun W hW => (hW.cell (p := ⟨b, off + k, none⟩) hbwT).trans e3
          have hoA : wt.drew.ownsRow w.heap.size 2 1 (.slice (some ⟨g, 0, none⟩) k c3) k (ints out) := hoT
          have hoB := World.ownsRow.alloc hoA (.cells #[.int .i64 x] 2)
          have hcA := hownc wt.drew hoA
          have hcB := hownc (wt.drew.alloc (.cells #[.int .i64 x] 2)) hoB
          have hsrc2 : ∀ W : World, W.ownsRow w.heap.size 2 1 (.slice (some ⟨g, 0, none⟩) k c3) k (ints out) → ∀ j u, (ints (out.drop (0)))[j]? = some u → W.cell? ((⟨g, 0, none⟩ : Addr).add j) = some u := fun W hl j u hj => by
            exact World.ownsRow.cells hl (g := g) rfl j u (hd2 j u hj)
          have hgl7 := fun (x7 : Nat) (h7 : wt.heap.size ≤ x7) => (show g ≠ x7 by omega)
          go_region_law
            (first
              | ((refine step_append_own (by rfl) (.tmp 40) (.tmp 43) 22 (by rfl) w.heap.size 2 i0 (.int .i64 0) 1 8 Tryd.underlying22 hi hz0 hz1 hz2 rfl (by omega) v7 (0 + 1) (ints (out.take (0)) ++ [.int .i64 x]) (by rfl) hown7 ⟨g, 0, none⟩ k c3 (ints (out.drop (0))) (by rfl) (by rw [ints_length, Nat.mul_one]; first | exact HDP.out | (rw [HDP.out]; omega)) (hsrc2 _ ho7) (ints_one _) (by simp only [maxLen]; omega) (by omega) (by have h1 := hbo.size; have h2 := hg7.size; simp at h1 h2; omega) ?_; intro v8 w8 hown8 hg8 hat8))
              | ((refine step_append_own (by rfl) (.tmp 34) (.tmp 39) 22 (by rfl) w.heap.size 2 i0 (.int .i64 0) 1 8 Tryd.underlying22 hi hz0 hz1 hz2 rfl (by omega) (.slice Ao (0) co) (0) (ints (out.take (0))) (by rfl) (World.ownsRow.alloc (own_mono hoo (by show w.heap.size ≤ wt.heap.size; omega)) _) ⟨w6.heap.size, 0, none⟩ 1 1 [.int .i64 x] (by rfl) (by rfl) (fun j u hj => one_src w6 _ _ _ rfl j u hj) (by intro u hu; simp at hu; subst hu; rfl) (by simp only [maxLen]; omega) (by omega) (by have := hbo.size; have : wt.heap.size ≤ w6.heap.size := this; simp; omega) ?_; intro v7 w7 hown7 hg7 hat7; have ho7 := World.ownsRow.kept (World.ownsRow.alloc (own_below (w := wt.drew) hoA hbo) _) hg7 (.inr (fun e => hgl7 g (hoo.lt g e.symm).1 rfl)); have hb7 := (Below.grown (((hbT.drew).trans (hbo.mono (by show w.heap.size ≤ wt.heap.size; omega))).alloc (by have := hbo.size; have : wt.heap.size ≤ w6.heap.size := this; omega) _) hg7 (by have := hbo.size; have : wt.heap.size ≤ w6.heap.size := this; simp; omega) (fun x7 hx7 => by have h3 : wt.heap.size ≤ x7 := (hoo.lt x7 hx7).1; omega))))
              | ((refine step_append_own (by rfl) (.tmp 34) (.tmp 39) 22 (by rfl) w.heap.size 2 i0 (.int .i64 0) 1 8 Tryd.underlying22 hi hz0 hz1 hz2 rfl (by omega) (.slice Ao (0) co) (0) (ints (out.take (0))) (by rfl) (own_mono hoo (by simp; omega)) ⟨wt.heap.size, 0, none⟩ 1 1 [.int .i64 x] (by rfl) (by rfl) (fun j u hj => (hbo.cell (p := (⟨wt.heap.size, 0, none⟩ : Addr).add j) (by rw [Go.WideShapes.add_plain]; simp)).trans (one_src wt.drew (.int .i64 x) 2 _ rfl j u hj)) (by intro u hu; simp at hu; subst hu; rfl) (by simp only [maxLen]; omega) (by omega) (by have := hbo.size; simp at this; omega) ?_; intro v7 w7 hown7 hg7 hat7; have ho7 := World.ownsRow.kept (own_below hoB hbo) hg7 (.inr (fun e => hgl7 g (by have h3 := (hoo.lt g e.symm).1; simp at h3; omega) rfl)); have hb7 := (Below.grown (((hbT.drew).alloc (by show w.heap.size ≤ wt.heap.size; omega) _).trans (hbo.mono (by simp; omega))) hg7 (by have := hbo.size; simp at this; omega) (fun x7 hx7 => by have h3 := (hoo.lt x7 hx7).1; simp at h3; omega))))
              | (go_simp; go_at_call 67; first | (refine hcA.mono ?_; rintro e w6 ⟨v6, rfl, hoo, hbo⟩; obtain ⟨Ao, co, rfl, _⟩ := own_slice' hoo; have e6 := hcell6 w6 (undrew (n := 1) hbo)) | (refine hcB.mono ?_; rintro e w6 ⟨v6, rfl, hoo, hbo⟩; obtain ⟨Ao, co, rfl, _⟩ := own_slice' hoo; have e6 := hcell6 w6 (((Below.refl wt.heap.size wt).drew.alloc (Nat.le_refl _) _).trans (hbo.mono (by simp))))))
          all_goals
            go_wp2_with (fail)
            have hlen8 : 0 + 1 + k = k + 1 := by omega
            rw [hlen8] at hown8
            have hins : ints (out.take (0)) ++ [Value.int .i64 x] ++ ints (out.drop (0)) = ints (insS l (k + 1)) := by
              rw [HST.out, HIN.out, HFIN.out]; simp [ints]
            rw [hins] at hown8
            have hb8 := hb7.grown hg8 (by have := hb7.size; omega) (fun x8 hx8 => (hown7.lt x8 hx8).1)
            obtain ⟨A8, c8, rfl, _⟩ := own_slice' hown8
            obtain ⟨g8, rfl, _, _, _⟩ := own_src hown8 (by omega)
            go_roundw
            case rel => exact ⟨k + 1, g8, c8, by omega, by go_num, rfl, hown8, hb8⟩
            case measure => simp [intOf]; omega
        · obtain ⟨q, rfl⟩ : ∃ q, p = q + 1 := ⟨p - 1, by omega⟩
          have e2 := (hdr.cell _).trans (HCL.out q (by omega))
          have hs1 : IntKind.i64.wrap (((q + 1 : Nat) : Int) - 1) = ((q + 1 : Nat) : Int) - 1 := IntWalk.i64_in _ (by omega)
          have hs2 : (((q + 1 : Nat) : Int) - 1).toNat = q := by omega
          have hs3 : (0 : Int) ≤ ((q + 1 : Nat) : Int) - 1 := by omega
          by_cases hx : x < gt out q
          · have HP' : Hid (posL out x q = posL out x k) := by unfold Hid; rw [← HP.out, pos_yes hx]
            go_wp2_with (go_quiet (fail))
            go_roundw
            case rel => exact ⟨q, by omega, by go_num, HP'.out, by repeat (first | exact hdr | refine DR.step ?_ _)⟩
            case measure => simp [intOf]
          · have hfin : Hid (posL out x k = q + 1) := by unfold Hid; rw [← HP.out, pos_no hx]
            go_wp2_with (go_quiet (fail))
            obtain ⟨p, hpp⟩ : ∃ p, p = q + 1 := ⟨_, rfl⟩
            have hpi : (q : Int) + 1 = (p : Int) := by omega
            rw [hpi]
            rw [← hpp] at hfin
            have hple0 : p ≤ k := by omega
            clear hpi hpp e2 hs1 hs2 hs3
            have hd2 : ∀ (j : Nat) (u : Value), (ints (out.drop p))[j]? = some u → (ints out)[p + j]? = some u := fun j u hj => by
              unfold ints at hj ⊢
              rw [List.getElem?_map] at hj ⊢
              rw [List.getElem?_drop] at hj
              exact hj
            have hkp0 : p ≤ k := hple0
            have hp3 : p ≤ c3 := by omega
            by_cases hcp : c3 = p
            · have hkp : k = p := by omega
              subst hcp
              subst hkp
              have hd3 : ∀ (j : Nat) (u : Value), (ints (out.drop k))[j]? = some u → False := fun j u hj => by
                have h8 : (ints (out.drop k)).length = 0 := by rw [ints_length, List.length_drop, HIL.out]; omega
                rw [List.getElem?_eq_none (by omega)] at hj; cases hj
              have HFIN := hfin
              have hdr : DR wo (wr.drewN nq) := by repeat (first | exact hdr | refine DR.step ?_ _)
              generalize wr.drewN nq = wt at hdr ⊢
              clear e3
              have e3 := (hdr.cell ⟨b, off + k, none⟩).trans e1
              have hpk : k ≤ k := by have := HFIN.out; omega
              have hpl : (k : Int) ≤ (k : Int) := by omega
              have hpc : k ≤ k := by omega
              have hpci : ((k : Nat) : Int) ≤ (k : Int) := by omega
              have hoT : wt.ownsRow w.heap.size 2 1 (.slice (some ⟨g, 0, none⟩) k k) k (ints out) := by obtain ⟨d, rfl⟩ := hdr; exact own_dr hown d
              have hbT : Below w.heap.size w wt := by obtain ⟨d, rfl⟩ := hdr; exact below_drewN hb d
              have hgT : g < wt.heap.size := (hoT.lt g rfl).2
              have hszT := hbT.size
              have hbwT : b < wt.heap.size := by omega
              have htk : (out.take (k)).length = k := by rw [List.length_take, HIL.out]; omega
              have hdp : (out.drop (k)).length = k - (k) := by rw [List.length_drop, HIL.out]
              have HTK := Lib.hid htk
              have HDP := Lib.hid hdp
              clear htk hdp
              have hownc : ∀ W : World, W.ownsRow w.heap.size 2 1 (.slice (some ⟨g, 0, none⟩) k k) k (ints out) → Calls Tryd.prog 67 #[.slice (some ⟨g, 0, none⟩) (k) k] W (MI W.heap.size (k) (out.take (k)) W) := fun W hl => by
                have hlt := (hl.lt g rfl).2
                refine s_l01Own ⟨g, 0, none⟩ (k) k (out.take (k)) W HTK.out.symm (by omega) (fun j u hj => World.ownsRow.cells hl (g := g) rfl j u ?_) (fun j => by rw [Go.WideShapes.add_plain]; exact hlt)
                unfold ints at hj ⊢
                rw [List.getElem?_map] at hj ⊢
                rw [List.getElem?_take] at hj
                split at hj
                · exact hj
                · simp at hj
              have hcell6 : ∀ W : World, Below wt.heap.size wt W → W.cell? ⟨b, off + k, none⟩ = some (.int .i64 x) := fun W hW => (hW.cell (p := ⟨b, off + k, none⟩) hbwT).trans e3
              have hoA : wt.drew.ownsRow w.heap.size 2 1 (.slice (some ⟨g, 0, none⟩) k k) k (ints out) := hoT
              have hoB := World.ownsRow.alloc hoA (.cells #[.int .i64 x] 2)
              have hcA := hownc wt.drew hoA
              have hcB := hownc (wt.drew.alloc (.cells #[.int .i64 x] 2)) hoB
              have hsrc2 : ∀ W : World, W.ownsRow w.heap.size 2 1 (.slice (some ⟨g, 0, none⟩) k k) k (ints out) → ∀ j u, (ints (out.drop (k)))[j]? = some u → W.cell? ((⟨g, 0, none⟩ : Addr).add j) = some u := fun W hl j u hj => by
                exact (hd3 j u hj).elim
              have hgl7 := fun (x7 : Nat) (h7 : wt.heap.size ≤ x7) => (show g ≠ x7 by omega)
              go_region_law
                (first
                  | ((refine step_append_own (by rfl) (.tmp 40) (.tmp 43) 22 (by rfl) w.heap.size 2 i0 (.int .i64 0) 1 8 Tryd.underlying22 hi hz0 hz1 hz2 rfl (by omega) v7 (k + 1) (ints (out.take (k)) ++ [.int .i64 x]) (by rfl) hown7 ⟨g, 0, none⟩ 0 0 (ints (out.drop (k))) (by rfl) (by rw [ints_length, Nat.mul_one]; first | exact HDP.out | (rw [HDP.out]; omega)) (hsrc2 _ ho7) (ints_one _) (by simp only [maxLen]; omega) (by omega) (by have h1 := hbo.size; have h2 := hg7.size; simp at h1 h2; omega) ?_; intro v8 w8 hown8 hg8 hat8))
                  | ((refine step_append_own (by rfl) (.tmp 34) (.tmp 39) 22 (by rfl) w.heap.size 2 i0 (.int .i64 0) 1 8 Tryd.underlying22 hi hz0 hz1 hz2 rfl (by omega) (.slice Ao (k) co) (k) (ints (out.take (k))) (by rfl) (World.ownsRow.alloc (own_mono hoo (by show w.heap.size ≤ wt.heap.size; omega)) _) ⟨w6.heap.size, 0, none⟩ 1 1 [.int .i64 x] (by rfl) (by rfl) (fun j u hj => one_src w6 _ _ _ rfl j u hj) (by intro u hu; simp at hu; subst hu; rfl) (by simp only [maxLen]; omega) (by omega) (by have := hbo.size; have : wt.heap.size ≤ w6.heap.size := this; simp; omega) ?_; intro v7 w7 hown7 hg7 hat7; have ho7 := World.ownsRow.kept (World.ownsRow.alloc (own_below (w := wt.drew) hoA hbo) _) hg7 (.inr (fun e => hgl7 g (hoo.lt g e.symm).1 rfl)); have hb7 := (Below.grown (((hbT.drew).trans (hbo.mono (by show w.heap.size ≤ wt.heap.size; omega))).alloc (by have := hbo.size; have : wt.heap.size ≤ w6.heap.size := this; omega) _) hg7 (by have := hbo.size; have : wt.heap.size ≤ w6.heap.size := this; simp; omega) (fun x7 hx7 => by have h3 : wt.heap.size ≤ x7 := (hoo.lt x7 hx7).1; omega))))
                  | ((refine step_append_own (by rfl) (.tmp 34) (.tmp 39) 22 (by rfl) w.heap.size 2 i0 (.int .i64 0) 1 8 Tryd.underlying22 hi hz0 hz1 hz2 rfl (by omega) (.slice Ao (k) co) (k) (ints (out.take (k))) (by rfl) (own_mono hoo (by simp; omega)) ⟨wt.heap.size, 0, none⟩ 1 1 [.int .i64 x] (by rfl) (by rfl) (fun j u hj => (hbo.cell (p := (⟨wt.heap.size, 0, none⟩ : Addr).add j) (by rw [Go.WideShapes.add_plain]; simp)).trans (one_src wt.drew (.int .i64 x) 2 _ rfl j u hj)) (by intro u hu; simp at hu; subst hu; rfl) (by simp only [maxLen]; omega) (by omega) (by have := hbo.size; simp at this; omega) ?_; intro v7 w7 hown7 hg7 hat7; have ho7 := World.ownsRow.kept (own_below hoB hbo) hg7 (.inr (fun e => hgl7 g (by have h3 := (hoo.lt g e.symm).1; simp at h3; omega) rfl)); have hb7 := (Below.grown (((hbT.drew).alloc (by show w.heap.size ≤ wt.heap.size; omega) _).trans (hbo.mono (by simp; omega))) hg7 (by have := hbo.size; simp at this; omega) (fun x7 hx7 => by have h3 := (hoo.lt x7 hx7).1; simp at h3; omega))))
                  | (go_simp; go_at_call 67; first | (refine hcA.mono ?_; rintro e w6 ⟨v6, rfl, hoo, hbo⟩; obtain ⟨Ao, co, rfl, _⟩ := own_slice' hoo; have e6 := hcell6 w6 (undrew (n := 1) hbo)) | (refine hcB.mono ?_; rintro e w6 ⟨v6, rfl, hoo, hbo⟩; obtain ⟨Ao, co, rfl, _⟩ := own_slice' hoo; have e6 := hcell6 w6 (((Below.refl wt.heap.size wt).drew.alloc (Nat.le_refl _) _).trans (hbo.mono (by simp))))))
              all_goals
                go_wp2_with (fail)
                have hlen8 : k + 1 + 0 = k + 1 := by omega
                rw [hlen8] at hown8
                have hins : ints (out.take (k)) ++ [Value.int .i64 x] ++ ints (out.drop (k)) = ints (insS l (k + 1)) := by
                  rw [HST.out, HIN.out, HFIN.out]; simp [ints]
                rw [hins] at hown8
                have hb8 := hb7.grown hg8 (by have := hb7.size; omega) (fun x8 hx8 => (hown7.lt x8 hx8).1)
                obtain ⟨A8, c8, rfl, _⟩ := own_slice' hown8
                obtain ⟨g8, rfl, _, _, _⟩ := own_src hown8 (by omega)
                go_roundw
                case rel => exact ⟨k + 1, g8, c8, by omega, by go_num, rfl, hown8, hb8⟩
                case measure => simp [intOf]; omega
            · skip
              have HFIN := hfin
              have hdr : DR wo (wr.drewN nq) := by repeat (first | exact hdr | refine DR.step ?_ _)
              generalize wr.drewN nq = wt at hdr ⊢
              clear e3
              have e3 := (hdr.cell ⟨b, off + k, none⟩).trans e1
              have hpk : p ≤ k := by have := HFIN.out; omega
              have hpl : (p : Int) ≤ (k : Int) := by omega
              have hpc : p ≤ c3 := by omega
              have hpci : ((p : Nat) : Int) ≤ (c3 : Int) := by omega
              have hoT : wt.ownsRow w.heap.size 2 1 (.slice (some ⟨g, 0, none⟩) k c3) k (ints out) := by obtain ⟨d, rfl⟩ := hdr; exact own_dr hown d
              have hbT : Below w.heap.size w wt := by obtain ⟨d, rfl⟩ := hdr; exact below_drewN hb d
              have hgT : g < wt.heap.size := (hoT.lt g rfl).2
              have hszT := hbT.size
              have hbwT : b < wt.heap.size := by omega
              have htk : (out.take (p)).length = p := by rw [List.length_take, HIL.out]; omega
              have hdp : (out.drop (p)).length = k - (p) := by rw [List.length_drop, HIL.out]
              have HTK := Lib.hid htk
              have HDP := Lib.hid hdp
              clear htk hdp
              have hownc : ∀ W : World, W.ownsRow w.heap.size 2 1 (.slice (some ⟨g, 0, none⟩) k c3) k (ints out) → Calls Tryd.prog 67 #[.slice (some ⟨g, 0, none⟩) (p) c3] W (MI W.heap.size (p) (out.take (p)) W) := fun W hl => by
                have hlt := (hl.lt g rfl).2
                refine s_l01Own ⟨g, 0, none⟩ (p) c3 (out.take (p)) W HTK.out.symm (by omega) (fun j u hj => World.ownsRow.cells hl (g := g) rfl j u ?_) (fun j => by rw [Go.WideShapes.add_plain]; exact hlt)
                unfold ints at hj ⊢
                rw [List.getElem?_map] at hj ⊢
                rw [List.getElem?_take] at hj
                split at hj
                · exact hj
                · simp at hj
              have hcell6 : ∀ W : World, Below wt.heap.size wt W → W.cell? ⟨b, off + k, none⟩ = some (.int .i64 x) := fun W hW => (hW.cell (p := ⟨b, off + k, none⟩) hbwT).trans e3
              have hoA : wt.drew.ownsRow w.heap.size 2 1 (.slice (some ⟨g, 0, none⟩) k c3) k (ints out) := hoT
              have hoB := World.ownsRow.alloc hoA (.cells #[.int .i64 x] 2)
              have hcA := hownc wt.drew hoA
              have hcB := hownc (wt.drew.alloc (.cells #[.int .i64 x] 2)) hoB
              have hsrc2 : ∀ W : World, W.ownsRow w.heap.size 2 1 (.slice (some ⟨g, 0, none⟩) k c3) k (ints out) → ∀ j u, (ints (out.drop (p)))[j]? = some u → W.cell? ((⟨g, p, none⟩ : Addr).add j) = some u := fun W hl j u hj => by
                (have h10 := World.ownsRow.cells hl (g := g) rfl _ u (hd2 j u hj); rw [Go.WideShapes.add_plain] at h10 ⊢; simpa using h10)
              have hgl7 := fun (x7 : Nat) (h7 : wt.heap.size ≤ x7) => (show g ≠ x7 by omega)
              go_region_law
                (first
                  | ((refine step_append_own (by rfl) (.tmp 40) (.tmp 43) 22 (by rfl) w.heap.size 2 i0 (.int .i64 0) 1 8 Tryd.underlying22 hi hz0 hz1 hz2 rfl (by omega) v7 (p + 1) (ints (out.take (p)) ++ [.int .i64 x]) (by rfl) hown7 ⟨g, p, none⟩ (k - p) (c3 - p) (ints (out.drop (p))) (by rfl) (by rw [ints_length, Nat.mul_one]; first | exact HDP.out | (rw [HDP.out]; omega)) (hsrc2 _ ho7) (ints_one _) (by simp only [maxLen]; omega) (by omega) (by have h1 := hbo.size; have h2 := hg7.size; simp at h1 h2; omega) ?_; intro v8 w8 hown8 hg8 hat8))
                  | ((refine step_append_own (by rfl) (.tmp 34) (.tmp 39) 22 (by rfl) w.heap.size 2 i0 (.int .i64 0) 1 8 Tryd.underlying22 hi hz0 hz1 hz2 rfl (by omega) (.slice Ao (p) co) (p) (ints (out.take (p))) (by rfl) (World.ownsRow.alloc (own_mono hoo (by show w.heap.size ≤ wt.heap.size; omega)) _) ⟨w6.heap.size, 0, none⟩ 1 1 [.int .i64 x] (by rfl) (by rfl) (fun j u hj => one_src w6 _ _ _ rfl j u hj) (by intro u hu; simp at hu; subst hu; rfl) (by simp only [maxLen]; omega) (by omega) (by have := hbo.size; have : wt.heap.size ≤ w6.heap.size := this; simp; omega) ?_; intro v7 w7 hown7 hg7 hat7; have ho7 := World.ownsRow.kept (World.ownsRow.alloc (own_below (w := wt.drew) hoA hbo) _) hg7 (.inr (fun e => hgl7 g (hoo.lt g e.symm).1 rfl)); have hb7 := (Below.grown (((hbT.drew).trans (hbo.mono (by show w.heap.size ≤ wt.heap.size; omega))).alloc (by have := hbo.size; have : wt.heap.size ≤ w6.heap.size := this; omega) _) hg7 (by have := hbo.size; have : wt.heap.size ≤ w6.heap.size := this; simp; omega) (fun x7 hx7 => by have h3 : wt.heap.size ≤ x7 := (hoo.lt x7 hx7).1; omega))))
                  | ((refine step_append_own (by rfl) (.tmp 34) (.tmp 39) 22 (by rfl) w.heap.size 2 i0 (.int .i64 0) 1 8 Tryd.underlying22 hi hz0 hz1 hz2 rfl (by omega) (.slice Ao (p) co) (p) (ints (out.take (p))) (by rfl) (own_mono hoo (by simp; omega)) ⟨wt.heap.size, 0, none⟩ 1 1 [.int .i64 x] (by rfl) (by rfl) (fun j u hj => (hbo.cell (p := (⟨wt.heap.size, 0, none⟩ : Addr).add j) (by rw [Go.WideShapes.add_plain]; simp)).trans (one_src wt.drew (.int .i64 x) 2 _ rfl j u hj)) (by intro u hu; simp at hu; subst hu; rfl) (by simp only [maxLen]; omega) (by omega) (by have := hbo.size; simp at this; omega) ?_; intro v7 w7 hown7 hg7 hat7; have ho7 := World.ownsRow.kept (own_below hoB hbo) hg7 (.inr (fun e => hgl7 g (by have h3 := (hoo.lt g e.symm).1; simp at h3; omega) rfl)); have hb7 := (Below.grown (((hbT.drew).alloc (by show w.heap.size ≤ wt.heap.size; omega) _).trans (hbo.mono (by simp; omega))) hg7 (by have := hbo.size; simp at this; omega) (fun x7 hx7 => by have h3 := (hoo.lt x7 hx7).1; simp at h3; omega))))
                  | (go_simp; go_at_call 67; first | (refine hcA.mono ?_; rintro e w6 ⟨v6, rfl, hoo, hbo⟩; obtain ⟨Ao, co, rfl, _⟩ := own_slice' hoo; have e6 := hcell6 w6 (undrew (n := 1) hbo)) | (refine hcB.mono ?_; rintro e w6 ⟨v6, rfl, hoo, hbo⟩; obtain ⟨Ao, co, rfl, _⟩ := own_slice' hoo; have e6 := hcell6 w6 (((Below.refl wt.heap.size wt).drew.alloc (Nat.le_refl _) _).trans (hbo.mono (by simp))))))
              all_goals
                go_wp2_with (fail)
                have hlen8 : p + 1 + (k - p) = k + 1 := by omega
                rw [hlen8] at hown8
                have hins : ints (out.take (p)) ++ [Value.int .i64 x] ++ ints (out.drop (p)) = ints (insS l (k + 1)) := by
                  rw [HST.out, HIN.out, HFIN.out]; simp [ints]
                rw [hins] at hown8
                have hb8 := hb7.grown hg8 (by have := hb7.size; omega) (fun x8 hx8 => (hown7.lt x8 hx8).1)
                obtain ⟨A8, c8, rfl, _⟩ := own_slice' hown8
                obtain ⟨g8, rfl, _, _, _⟩ := own_src hown8 (by omega)
                go_roundw
                case rel => exact ⟨k + 1, g8, c8, by omega, by go_num, rfl, hown8, hb8⟩
                case measure => simp [intOf]; omega
    · obtain rfl : k = n := by omega
      go_wp2_with (fail)
      go_ret
      exact ⟨_, rfl, hown, hb⟩
end Go.Proofs.YtjfinniebijgbaaDoor
/- Lists that are the same; types in a group. -/
namespace Go.Proofs.YtjfinniebijgbaaDoor
set_option linter.unusedVariables false
set_option linter.unusedSimpArgs false
open Go.RowKit

theorem ext_len {xs ys : List Int} (h : xs.length = ys.length) (h' : ∀ k, k < xs.length → gt xs k = gt ys k) : xs = ys := gt_ext h h'
set_option maxRecDepth 10000 in
set_option maxHeartbeats 4000000 in
theorem s_l21Type (A : Option Addr) (n c : Nat) (a : List Int) (w : World) (hn1 : 1 ≤ n) (hn6 : n ≤ 6) (ha : InR n a) (hs : IS w w.heap.size A a) :
    Calls Tryd.prog 34 #[.slice A n c] w (MI w.heap.size (cycL a).length (tyS a) w) := by
  have hcy := s_cycles A n c a w hn1 hn6 ha hs
  have hle := cycL_len a
  rw [ha.1] at hle
  have hty : tyS a = insS (lnL (cycL a)) (cycL a).length := by
    have h := insS_sort (lnL (cycL a))
    rw [show (lnL (cycL a)).length = (cycL a).length by simp [lnL]] at h
    rw [h]; rfl
  generalize tyS a = ty at *
  generalize cycL a = ll at *
  generalize hL : ll.length = L at *
  have hll : (lnL ll).length = L := by rw [← hL]; simp [lnL]
  have HL := Lib.hid hL
  have HTY := Lib.hid hty
  have HLL := Lib.hid hll
  clear hL hty ha hs hll
  unfold MII at hcy
  rw [HL.out] at hcy
  obtain ⟨i0, hi, hz0, hz1, hz2⟩ := info_parts infoI64
  go_enter Tryd.func34, Tryd.ntmps34
  go_wp2_with (go_at_call 53; refine hcy.mono ?_; rintro e w2 ⟨A', c', vs, rfl, ho, hr, hb2⟩)
  have hii := OwnII.ii ho hr
  have hz2' := hb2.size
  clear ho hr
  go_loopw [4, 5] (fun u3 u9 wr => ∃ k : Nat, k ≤ L ∧ u9 = .int .i64 k ∧ wr.ownsRow w2.heap.size 2 1 u3 k (ints (lnL (ll.take k))) ∧ Below w2.heap.size w2 wr) (fun _ u9 _ => L - (intOf u9).toNat)
  case atStart => exact ⟨0, Nat.zero_le _, rfl, World.ownsRow_lit w2 #[] 0 (Nat.le_refl _) (by simp [maxLen]) rfl, (Below.refl _ _).alloc (Nat.le_refl _) _⟩
  case round =>
    obtain ⟨ws, rfl⟩ : ∃ ws : World, ws = wr := ⟨_, rfl⟩
    obtain ⟨k, hk, rfl, hown, hb⟩ := hrel
    obtain ⟨A3, c3, rfl, _⟩ := own_slice' hown
    have hsz := hb.size
    by_cases hlt : k < L
    · have hkl : k < ll.length := by rw [HL.out]; exact hlt
      obtain ⟨b, off, rfl, hbb, hcell⟩ := hii.at hkl
      obtain ⟨Ac, cc, e1, _, _, _⟩ := hcell k hkl
      have e1 := (hb.cell (p := ⟨b, off + k, none⟩) hbb).trans e1
      have hst := lnL_take hkl
      generalize (gl ll k).length = m at *
      have HST := Lib.hid hst
      clear hst hcell
      go_wp2_with (first
        | (at_builtin; refine wpList_append_src rfl (.tmp 15) (.tmp 21) 22 rfl w2.heap.size 2 i0 (.int .i64 0) 1 8 Tryd.underlying22 hi hz0 hz1 hz2 rfl (by omega) (.slice A3 k c3) k (ints (lnL (ll.take k))) rfl (World.ownsRow.alloc hown _) (some ⟨ws.heap.size, 0, none⟩) 1 1 [.int .i64 (m : Int)] rfl rfl (one_src ws _ _) (by intro h; cases h) (by intro u hu; simp at hu; subst hu; rfl) (by simp only [maxLen]; omega) (by omega) (by simp; omega) ?_; intro v7 w7 hown7 hg7 hat7)
        | go_in)
      go_roundw
      case rel => exact ⟨k + 1, by omega, by go_num, by rw [HST.out, ints_snoc]; exact hown7, (hb.alloc hsz _).grown hg7 (by simp; omega) (fun g hg => (hown.lt g hg).1)⟩
      case measure => simp [intOf]; omega
    · obtain rfl : k = L := by omega
      rw [List.take_of_length_le (by rw [HL.out]; exact Nat.le_refl _)] at hown
      have his := own_isn hown HLL.out.symm
      go_wp2_with (go_at_call 54; refine (s_l11Sorted A3 k c3 (lnL ll) _ HLL.out.symm (by omega) his).mono ?_; rintro e w5 ⟨v, rfl, hown5, hb5⟩)
      go_ret
      have hz5 := hb.size
      exact ⟨_, rfl, by rw [HTY.out]; exact own_mono hown5 (by omega), bel_call (hb2.trans (hb.mono hz2')) hb5⟩
/-- Some permutation of the group has the type. -/
def hasT (n : Nat) (l xs : List Int) : Bool := (memL n l).any fun a => decide (tyS a = xs)
theorem tyS_len (a : List Int) : (tyS a).length = (cycL a).length := by simp [tyS, lnL]
end Go.Proofs.YtjfinniebijgbaaDoor
/- IsSuitable. -/
namespace Go.Proofs.YtjfinniebijgbaaDoor
set_option linter.unusedVariables false
set_option linter.unusedSimpArgs false
open Go.RowKit

theorem mem_InR {n : Nat} {l : List Int} {L : Nat} (hk : InK n l) (hL : L = l.length) : ∀ k, k < L → InR n (gl (memL n l) k) := fun k h => mem_in hk k (by rw [memL_len, ← hL]; exact h)
end Go.Proofs.YtjfinniebijgbaaDoor
