/- IsEvenName. -/
import Derived.Test.YtkhadipfibllnaaA95
namespace Go.Proofs.Ytkhadipfibllnaa
set_option linter.unusedVariables false
set_option linter.unusedSimpArgs false
open Go.RowKit

theorem lsL_in {n : Nat} {sn : List Bool} (h : sn.length = fact n) : InK n (lsL sn) := fun k hk => by
  obtain ⟨r, h1, h2, _⟩ := lsL_mem.1 (gt_mem hk)
  rw [h1]
  omega
theorem RK_in (i : Nat) (hi : i < 14) : InK (lbP i) (RK (lbP i) (lbG i)) := lsL_in (RG_gi (lb_in i hi).2.2.2.2).1
theorem mem_in {n : Nat} {l : List Int} (h : InK n l) : ∀ k, k < (memL n l).length → InR n (gl (memL n l) k) := fun k hk => by
  rw [memL_len] at hk
  have e : gl (memL n l) k = wrL n (gt l k).toNat := by simp [gl, memL, gt, hk]
  rw [e]
  obtain ⟨h1, h2⟩ := h k hk
  exact wrL_in (by omega)
def oddL (n : Nat) (l : List Int) : Bool := (memL n l).any fun a => decide (parN a < 0)
set_option maxRecDepth 10000 in
set_option maxHeartbeats 1000000 in
theorem i_hasOdd (A : Option Addr) (L c n : Nat) (ll : List (List Int)) (w : World) (B : Nat) (hn1 : 1 ≤ n) (hn6 : n ≤ 6) (hL : L = ll.length) (hl : L ≤ 1048576) (hB : B ≤ w.heap.size) (hin : ∀ k, k < L → InR n (gl ll k)) (hs : II w B A ll) :
    Calls Try.prog 60 #[.slice A L c, .func (.func 62) #[] #[]] w (M (.bool (ll.any fun a => decide (parN a < 0))) w) := by
  have hc := i_idxOdd A L c n ll w B hn1 hn6 hL hl hB hin hs
  clear hin hs hL
  generalize (ll.any fun a => decide (parN a < 0)) = b at *
  cases b
  · have hc2 := hc.mono (R' := fun e w' => ∃ k : Int, e = .returned (.int .i64 k) ∧ k < 0 ∧ Below w.heap.size w w') (fun e w' ⟨k, h1, h2, h3⟩ => ⟨k, h1, by have := of_decide_eq_false h2; omega, h3⟩)
    clear hc
    go_enter Try.func60, Try.ntmps60
    go_wp2_with (go_at_call 98; refine hc2.mono ?_; rintro e w1 ⟨k, rfl, hk, hb1⟩)
    go_ret
    exact ⟨ret_bool (by first | rfl | (simp; omega)), hb1⟩
  · have hc2 := hc.mono (R' := fun e w' => ∃ k : Int, e = .returned (.int .i64 k) ∧ 0 ≤ k ∧ Below w.heap.size w w') (fun e w' ⟨k, h1, h2, h3⟩ => ⟨k, h1, of_decide_eq_true h2, h3⟩)
    clear hc
    go_enter Try.func60, Try.ntmps60
    go_wp2_with (go_at_call 98; refine hc2.mono ?_; rintro e w1 ⟨k, rfl, hk, hb1⟩)
    go_ret
    exact ⟨ret_bool (by first | rfl | (simp; omega)), hb1⟩
set_option maxRecDepth 10000 in
set_option maxHeartbeats 2000000 in
theorem i_IsEvenName (s : ByteArray) (i : Nat) (hi : i < 14) (hs : s.toList = lbN i) (w : World) : Calls Try.prog 28 #[.string s] w (MBI (!(oddL (lbP i) (RK (lbP i) (lbG i)))) 0 w) := by
  have hg := fun W => i_GroupNamed s _ _ _ (.inl ⟨i, hi, hs, rfl, rfl, rfl⟩) W
  have hin := RK_in i hi
  have hlen := (nv_code (s := s) (.inl ⟨i, hi, hs, rfl, rfl, rfl⟩)).2
  obtain ⟨p1, p2, _, _, _⟩ := lb_in i hi
  generalize RK (lbP i) (lbG i) = l at *
  generalize lbP i = p at *
  have hmi := mem_in hin
  have hml := memL_len p l
  generalize hb : oddL p l = b at *
  generalize hL : l.length = L at *
  have HL := Lib.hid hL.symm
  have HIN := Lib.hid hin
  have HMI := Lib.hid hmi
  have HML := Lib.hid hml
  have HB := Lib.hid hb
  clear hs hL hin hmi hml hb
  go_enter Try.func28, Try.ntmps28
  go_wp2_with (first
    | (go_at_call 19; refine (hg _).mono ?_; rintro e w1 ⟨v, rfl, ho, hb1⟩; obtain ⟨Ar, cr, rfl, _⟩ := own_slice' ho; rw [← HL.out] at ho; rw [← HL.out]; obtain ⟨c0, c1, _, _⟩ := BK.two (BK.new w1 30 #[.int .i64 (p : Int), .slice Ar L cr]); have hisr := (own_isn ho HL.out).call ((Below.refl w1.heap.size w1).alloc (Nat.le_refl _) (.cells #[.int .i64 (p : Int), .slice Ar L cr] 30)))
    | (go_at_call 61; refine (i_members p Ar L cr l _ p1 (by omega) HL.out (by omega) HIN.out hisr).mono ?_; rintro e w2 ⟨Am, cm, vs, rfl, hom, hrm, hb2⟩; rw [HML.out] at hom ⊢)
    | (go_at_call 60; refine (i_hasOdd Am L cm p (memL p l) _ _ p1 (by omega) HML.out.symm (by omega) (Nat.le_refl _) (fun k hk => HMI.out k (by rw [HML.out]; exact hk)) (OwnII.ii hom hrm)).mono ?_; rintro e w3 ⟨rfl, hb3⟩))
  go_ret2
  refine ⟨?_, bel_call (bel_call (hb1.alloc hb1.size _) hb2) hb3⟩
  first
    | rfl
    | (have h9 := HB.out
       unfold oddL at h9
       rw [h9]
       rfl)
theorem i_IsEvenName_no (s : ByteArray) (h : NoN s) (w : World) : Calls Try.prog 28 #[.string s] w (MBI false 4 w) := by
  have hg := fun W => i_GroupNamed s _ _ _ (.inr ⟨h, rfl, rfl, rfl⟩) W
  clear h
  go_enter Try.func28, Try.ntmps28
  go_wp2_with (go_at_call 19; refine (hg _).mono ?_; rintro e w1 ⟨v, rfl, ho, hb1⟩; obtain ⟨Ar, cr, rfl, _⟩ := own_slice' ho)
  go_ret2
  exact ⟨rfl, hb1.alloc hb1.size _⟩
/-- How many of the ranks are of even permutations. -/
def evK (n : Nat) (l : List Int) (k : Nat) : Nat := ((l.take k).filter fun x => decide (parN (wrL n x.toNat) = 1)).length
theorem evK_yes {n : Nat} {l : List Int} {k : Nat} (hk : k < l.length) (h : parN (wrL n (gt l k).toNat) = 1) : evK n l (k + 1) = evK n l k + 1 := by
  unfold evK
  rw [List.take_succ_eq_append_getElem hk, List.filter_append]
  have : l[k] = gt l k := by simp [gt, List.getElem?_eq_getElem hk]
  rw [this]
  simp [h]
theorem evK_no {n : Nat} {l : List Int} {k : Nat} (hk : k < l.length) (h : ¬ parN (wrL n (gt l k).toNat) = 1) : evK n l (k + 1) = evK n l k := by
  unfold evK
  rw [List.take_succ_eq_append_getElem hk, List.filter_append]
  have : l[k] = gt l k := by simp [gt, List.getElem?_eq_getElem hk]
  rw [this]
  simp [h]
theorem evK_le (n : Nat) (l : List Int) (k : Nat) : evK n l k ≤ k := by
  unfold evK
  exact Nat.le_trans (List.length_filter_le _ _) (by simp; omega)
theorem even_law (n : Nat) (l : List Int) : decide (evK n l l.length = l.length) = !(oddL n l) := by
  unfold evK oddL memL
  rw [List.take_length, Bool.eq_iff_iff]
  simp only [decide_eq_true_eq, Bool.not_eq_true', List.any_eq_false, List.length_filter_eq_length_iff]
  constructor
  · intro h a ha
    obtain ⟨x, hx, rfl⟩ := List.mem_map.1 ha
    have h1 := h x hx
    rw [h1]; simp
  · intro h x hx
    have h1 := h _ (List.mem_map.2 ⟨x, hx, rfl⟩)
    unfold parN at h1 ⊢
    split at h1
    · simp at h1
    · rename_i hh; rw [if_neg hh]
end Go.Proofs.Ytkhadipfibllnaa
