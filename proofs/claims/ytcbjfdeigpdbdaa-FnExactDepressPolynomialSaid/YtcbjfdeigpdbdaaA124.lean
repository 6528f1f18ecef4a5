/- Contracts: DepressPolynomial, the program's side. -/
import Derived.Test.YtcbjfdeigpdbdaaA123
namespace Go.Proofs.Ytcbjfdeigpdbdaa
set_option linter.unusedVariables false
set_option linter.unusedSimpArgs false
open Go.RowKit

def dpV (xs : List Int) : List Int := dpO xs (xs.length - 1) (gt xs (xs.length - 1 - 1)) xs.length
noncomputable def dpC (xs : List Int) : Int := if codeM xs 2 4 = 0 then (if polyB (dpV xs) then 0 else 3) else codeM xs 2 4
noncomputable def dpL (xs : List Int) : List Int := if dpC xs = 0 then dpV xs else []
theorem dpV_len (xs : List Int) : (dpV xs).length ≤ xs.length := dpO_len _ _ _ _
theorem polyB_len {xs : List Int} (h : polyB xs = true) : xs.length ≤ 9 := by
  unfold polyB at h
  simp only [Bool.and_eq_true, Bool.or_eq_true, decide_eq_true_eq] at h
  exact h.2.1
theorem codeM_len {xs : List Int} (h : codeM xs 2 4 = 0) : 3 ≤ xs.length ∧ xs.length ≤ 5 := by
  obtain ⟨_, _, h1, h2⟩ := codeM_0 h
  omega
theorem dpL_len (xs : List Int) : (dpL xs).length ≤ 1048576 := by
  unfold dpL
  split
  · rename_i h
    unfold dpC at h
    split at h
    · rename_i h2
      have := dpV_len xs
      have := codeM_len h2
      omega
    · rename_i h2
      exact absurd h h2
  · simp
theorem codeM_3 {xs : List Int} : codeM xs 2 4 = 0 ∨ (dpC xs = codeM xs 2 4 ∧ codeM xs 2 4 ≠ 0 ∧ dpL xs = []) := by
  by_cases h : codeM xs 2 4 = 0
  · exact .inl h
  · have hc : dpC xs = codeM xs 2 4 := by unfold dpC; rw [if_neg h]
    exact .inr ⟨hc, h, by unfold dpL; rw [hc, if_neg h]⟩
set_option maxHeartbeats 1000000 in
theorem i_orNo_y (A : Option Addr) (n c : Nat) (xs : List Int) (w : World) (B : Nat) (hn : n = xs.length) (hl : n ≤ 1048576) (hs : IS w B A xs) (hp : polyB xs = true) :
    Calls Try.prog 49 #[.slice A n c] w (Q (.tuple #[.slice A n c, .int .i64 0]) w) := by
  have hc := fun W h => i_IsPolynomial A n c xs W B hn hl h
  rw [hp] at hc
  have HC := Lib.hid hc
  clear hc hp hn
  go_enter Try.func49, Try.ntmps49
  go_wp2_with (go_at_call 92; refine (HC.out _ hs).mono ?_; rintro e w' ⟨rfl, nq, rfl⟩)
  go_ret2
  exact ⟨rfl, nq, rfl⟩
set_option maxHeartbeats 1000000 in
theorem i_orNo_n (A : Option Addr) (n c : Nat) (xs : List Int) (w : World) (B : Nat) (hn : n = xs.length) (hl : n ≤ 1048576) (hs : IS w B A xs) (hp : polyB xs = false) :
    Calls Try.prog 49 #[.slice A n c] w (Q (.tuple #[.slice none 0 0, .int .i64 3]) w) := by
  have hc := fun W h => i_IsPolynomial A n c xs W B hn hl h
  rw [hp] at hc
  have HC := Lib.hid hc
  clear hc hp hn
  go_enter Try.func49, Try.ntmps49
  go_wp2_with (go_at_call 92; refine (HC.out _ hs).mono ?_; rintro e w' ⟨rfl, nq, rfl⟩)
  go_ret2
  exact ⟨rfl, nq, rfl⟩
theorem is_here {w : World} {B : Nat} {A : Option Addr} {xs : List Int} (h : IS w B A xs) : IS w w.heap.size A xs := fun hp => by
  obtain ⟨b, off, h1, _, h3⟩ := h hp
  refine ⟨b, off, h1, ?_, h3⟩
  have h4 := h3 0 hp
  by_cases hlt : b < w.heap.size
  · exact hlt
  · exfalso
    have hn : w.heap[b]? = none := Array.getElem?_eq_none (by omega)
    simp [World.cell?, hn] at h4
theorem own_drw {w : World} {base n : Nat} {e : TypeId} {size : Nat} {v : Value} {xs : List Value} (h : w.ownsRow base e size v n xs) (k : Nat) : (w.drewN k).ownsRow base e size v n xs := h
set_option maxRecDepth 10000 in
set_option maxHeartbeats 4000000 in
theorem i_dep (A : Option Addr) (n N c : Nat) (xs : List Int) (w : World) (hN : N = n + 1) (hn : n + 1 = xs.length) (h2 : 2 ≤ n) (h4 : n ≤ 4) (hcm : codeM xs 2 4 = 0) (hs : IS w w.heap.size A xs) :
    Calls Try.prog 11 #[.slice A N c] w (RS (dpL xs) (dpC xs) w) := by
  have hm := (codeM_0 hcm).2.1
  have hx := modB_all hm
  have hxj : ∀ j, (gt xs j).natAbs ≤ 20 := gt_le (fun k hk => by have := hx k hk; omega)
  have ha := hxj (n - 1)
  have hpd : ∀ i j, (gt (dpP (gt xs (n - 1)) i) j).natAbs ≤ 21 ^ i := dpP_bd ha
  have hod : ∀ i j, (gt (dpO xs n (gt xs (n - 1)) i) j).natAbs ≤ 5120 * 21 ^ i := dpO_bd ha hxj h4
  have hpp := dpP_pos (gt xs (n - 1))
  have hpl := dpP_len (gt xs (n - 1))
  have hol := dpO_len xs n (gt xs (n - 1))
  have hO1 : ∀ i, dpO xs n (gt xs (n - 1)) (i + 1) = addL (dpO xs n (gt xs (n - 1)) i) (mulL (dpP (gt xs (n - 1)) i) [gt xs i * (n : Int) ^ (n - i)]) := fun i => rfl
  have hP1 : ∀ i, dpP (gt xs (n - 1)) (i + 1) = mulL (dpP (gt xs (n - 1)) i) [-(gt xs (n - 1)), 1] := fun i => rfl
  have hV : dpV xs = dpO xs n (gt xs (n - 1)) (n + 1) := by unfold dpV; rw [← hn]; rfl
  have hC : dpC xs = if polyB (dpV xs) then 0 else 3 := by unfold dpC; rw [if_pos hcm]
  have hL : dpL xs = if polyB (dpV xs) then dpV xs else [] := by
    unfold dpL; rw [hC]; cases polyB (dpV xs) <;> rfl
  have hmul : ∀ i, (mulL (dpP (gt xs (n - 1)) i) [gt xs i * (n : Int) ^ (n - i)]).length ≤ i + 1 := fun i => by
    have h1 := mulL_len (dpP (gt xs (n - 1)) i) [gt xs i * (n : Int) ^ (n - i)]
    have h2 := hpl i
    simp at h1
    omega
  have hmb : ∀ i j, (gt (mulL (dpP (gt xs (n - 1)) i) [gt xs i * (n : Int) ^ (n - i)]) j).natAbs ≤ 21 ^ i * 5120 := fun i j => by
    rw [mulL_1]
    exact nabs_mul (hpd i j) (dp_coef (hxj i) h4 (by omega))
  obtain ⟨b, off, rfl, hbb, hcell⟩ := hs.at (k := n - 1) (by omega)
  have hcl := hcell (n - 1) (by omega)
  rw [hV, ← hN] at hC hL
  rw [← hN] at hn
  have HN := Lib.hid hn
  have HX := Lib.hid hxj
  have HPD := Lib.hid hpd
  have HOD := Lib.hid hod
  have HPP := Lib.hid hpp
  have HPL := Lib.hid hpl
  have HOL := Lib.hid hol
  have HO1 := Lib.hid hO1
  have HP1 := Lib.hid hP1
  have HC := Lib.hid hC
  have HL := Lib.hid hL
  have HMUL := Lib.hid hmul
  have HMB := Lib.hid hmb
  have HCM := Lib.hid hcm
  clear hn hxj hpd hod hpp hpl hol hO1 hP1 hC hL hmul hmb hcm hV hm hx
  have HA : Hid (gt xs (n - 1) = gt xs (n - 1)) := rfl
  generalize gt xs (n - 1) = a at *
  have HCELL := Lib.hid hcell
  clear hcell
  have hs2 : ((N : Int) - 1) = (n : Int) := by omega
  have hs3 : ((n : Int) - 1).toNat = n - 1 := by omega
  have hs4 : 0 ≤ (n : Int) - 1 := by omega
  have hs5 : (n : Int) - 1 < (N : Int) := by omega
  have HNN := Lib.hid hN
  have hl5 : N ≤ 5 := by omega
  clear hN
  have hb0 := Below.refl w.heap.size w
  go_enter Try.func11, Try.ntmps11
  go_wp2_with (first
    | (go_at_call 43; refine (i_moderate _ _ _ xs _ _ _ w.heap.size HN.out (by omega) hs).mono ?_; rintro e w' ⟨rfl, nq, rfl⟩; rw [HCM.out])
    | (go_at_call 44; refine (i_degree _ _ _ _ (by omega)).mono ?_; rintro e w' ⟨rfl, nq2, rfl⟩; rw [hs2]))
  clear hs2 hs3 hs4 hs5 hcl HA
  go_loopw [7, 8, 26] (fun u7 u8 u26 wr => ∃ i : Nat, i ≤ N ∧ u26 = .int .i64 i ∧ wr.ownsRow w.heap.size 2 1 u7 (dpO xs n a i).length (ints (dpO xs n a i)) ∧ wr.ownsRow w.heap.size 2 1 u8 (dpP a i).length (ints (dpP a i)) ∧ Below w.heap.size w wr) (fun _ _ u26 _ => N - (intOf u26).toNat)
  case atStart =>
    have e0 : dpO xs n a 0 = [] := rfl
    have e1 : dpP a 0 = [1] := rfl
    refine ⟨0, Nat.zero_le _, rfl, ?_, ?_, ?_⟩
    · rw [e0]; exact World.ownsRow_nil _ _ _ _
    · rw [e1]; exact own_mono (own_one _ (.int .i64 1) _) (Nat.le_refl _)
    · exact (below_drewN hb0 _).alloc (Nat.le_refl _) _
  case round =>
    obtain ⟨ws, rfl⟩ : ∃ ws : World, ws = wr := ⟨_, rfl⟩
    obtain ⟨i, hi, rfl, ho7, ho8, hb⟩ := hrel
    obtain ⟨A7, c7, rfl, _⟩ := own_slice' ho7
    obtain ⟨A8, c8, rfl, _⟩ := own_slice' ho8
    have hsz := hb.size
    by_cases hlt : i < N
    · have hN := HNN.out
      have hin := (hb.cell (p := ⟨b, off + i, none⟩) hbb).trans (HCELL.out i (by rw [← HN.out]; exact hlt))
      have h21 : 21 ^ i ≤ 194481 := Nat.le_trans (Nat.pow_le_pow_right (by omega) (show i ≤ 4 by omega)) (show 21 ^ 4 ≤ 194481 by decide)
      have hni : (n : Int) - (i : Int) = ((n - i : Nat) : Int) := by omega
      have hpw : n ^ (n - i) ≤ 256 := pow_le4 h4 (by omega)
      have hpc : ((n ^ (n - i) : Nat) : Int) = (n : Int) ^ (n - i) := by simp
      have hxb := HX.out i
      have hcoef := dp_coef (n := n) (e := n - i) hxb h4 (by omega)
      have hpow := fun W => i_power n (n - i) W (by omega) (by omega) (by omega)
      have hsc := fun A c W h => i_scaled A (dpP a i).length c (21 ^ i) 5120 (dpP a i) (gt xs i * (n : Int) ^ (n - i)) W rfl (HPP.out i) (by have := HPL.out i; omega) (HPD.out i) hcoef (by omega) h
      have hsum := fun A c A' c' W h h' => i_sumOf A A' (dpO xs n a i).length c (mulL (dpP a i) [gt xs i * (n : Int) ^ (n - i)]).length c' _ _ (dpO xs n a i) (mulL (dpP a i) [gt xs i * (n : Int) ^ (n - i)]) W rfl rfl (by have := HOL.out i; omega) (by have := HMUL.out i; omega) (HOD.out i) (HMB.out i) (by omega) h h'
      have hnb : ∀ j, (gt [-a, 1] j).natAbs ≤ 20 := fun j => by
        match j with
        | 0 => simpa [gt] using ha
        | 1 => simp [gt]
        | j + 2 => simp [gt]
      have hprod := fun A c A' c' W h h' => i_productOf A A' (dpP a i).length c 2 c' (21 ^ i) 20 (dpP a i) [-a, 1] W rfl rfl (HPP.out i) (by omega) (by have := HPL.out i; omega) (by omega) (HPD.out i) hnb (by omega) h h'
      rw [← HO1.out i] at hsum
      rw [← HP1.out i] at hprod
      have hmx : (gt xs i * ((n ^ (n - i) : Nat) : Int)).natAbs ≤ 5120 := by rw [hpc]; exact hcoef
      have hpn : ((n ^ (n - i) : Nat) : Int) ≤ 256 := by omega
      clear hN hni hpw hcoef
      have HNI : Hid ((n : Int) - (i : Int) = ((n - i : Nat) : Int)) := by have := HNN.out; unfold Hid; omega
      have HPC := Lib.hid hpc
      clear hpc
      rw [← HPC.out] at hsc hsum
      generalize gt xs i = x at *
      generalize n - i = d at *
      generalize (dpP a i) = Pi at *
      generalize (dpO xs n a i) = Oi at *
      generalize hPe : dpP a (i + 1) = P1 at *
      generalize hOe : dpO xs n a (i + 1) = O1 at *
      have HPE := Lib.hid hPe
      have HOE := Lib.hid hOe
      clear hPe hOe
      generalize n ^ d = Q at *
      have hna : -20 ≤ -a ∧ -a ≤ 20 := by omega
      clear h21 hxb hnb hpn
      go_wp2_with (first
        | (go_at_call 47; rw [HNI.out]; refine (hpow _).mono ?_; rintro e w1 ⟨rfl, q1, rfl⟩)
        | (go_at_call 46; refine (hsc _ _ _ (own_isn (own_drw ho8 _) rfl)).mono ?_; rintro e w2 ⟨A2, c2, rfl, o2, b2⟩)
        | (go_at_call 45; refine (hsum _ _ _ _ _ (own_isn (own_below (own_drw ho7 _) b2) rfl) (own_isn o2 rfl)).mono ?_; rintro e w3 ⟨A3, c3, rfl, o3, b3⟩)
        | (go_at_call 48; refine (hprod _ _ _ _ _ (own_isn (World.ownsRow.alloc (own_below (own_below (own_drw ho8 _) b2) b3) _) rfl) (own_isn (l := [-a, 1]) (World.ownsRow_lit (base := w3.heap.size) (e := 2) (size := 1) w3 #[.int .i64 (-a), .int .i64 1] 2 (Nat.le_refl _) (by simp [maxLen]) rfl) rfl)).mono ?_; rintro e w4 ⟨A4, c4, rfl, o4, b4⟩))
      go_roundw
      case rel =>
        have z2 := b2.size
        have z3 := b3.size
        have z4 := b4.size
        simp at z2 z4
        refine ⟨i + 1, by omega, by go_num, by rw [HOE.out]; exact own_mono (own_below (World.ownsRow.alloc o3 _) b4) (by omega), by rw [HPE.out]; exact own_mono o4 (by simp; omega), bel_call ((bel_call (bel_call (below_drewN hb _) b2) b3).alloc (by omega) _) b4⟩
      case measure => simp [intOf]; omega
    · obtain rfl : N = i := by omega
      have hlo := HOL.out N
      generalize dpO xs n a N = O at *
      cases hp : polyB O
      · have hX : dpC xs = 3 ∧ dpL xs = [] := by rw [HC.out, HL.out, hp]; exact ⟨rfl, rfl⟩
        have HX2 := Lib.hid hX
        clear hX
        go_wp2_with (go_at_call 49; refine (i_orNo_n A7 O.length c7 O _ _ rfl (by omega) (own_isn ho7 rfl) hp).mono ?_; rintro e w' ⟨rfl, nq, rfl⟩)
        rw [HX2.out.1, HX2.out.2]
        go_ret2
        exact RS.nil (below_drewN hb _)
      · have hX : dpC xs = 0 ∧ dpL xs = O := by rw [HC.out, HL.out, hp]; exact ⟨rfl, rfl⟩
        have HX2 := Lib.hid hX
        clear hX
        go_wp2_with (go_at_call 49; refine (i_orNo_y A7 O.length c7 O _ _ rfl (by omega) (own_isn ho7 rfl) hp).mono ?_; rintro e w' ⟨rfl, nq, rfl⟩)
        rw [HX2.out.1, HX2.out.2]
        go_ret2
        exact ⟨A7, c7, rfl, own_drw ho7 _, below_drewN hb _⟩
set_option maxHeartbeats 1000000 in
theorem i_DepressPolynomial (A : Option Addr) (n c : Nat) (xs : List Int) (w : World) (B : Nat) (hn : n = xs.length) (hl : n ≤ 1048576) (hs : IS w B A xs) :
    Calls Try.prog 11 #[.slice A n c] w (RS (dpL xs) (dpC xs) w) := by
  rcases codeM_3 (xs := xs) with h0 | ⟨hc, h0, hlx⟩
  · have h3 := codeM_len h0
    exact i_dep A (n - 1) n c xs w (by omega) (by omega) (by omega) (by omega) h0 (is_here hs)
  · have HN := Lib.hid hn
    have h0' : (codeM xs 2 4 != 0) = true := by simpa using h0
    rw [hlx, hc]
    clear h0 hn hc hlx
    go_enter Try.func11, Try.ntmps11
    go_wp2_with (go_at_call 43; refine (i_moderate _ _ _ xs _ _ _ B HN.out hl hs).mono ?_; rintro e w' ⟨rfl, nq, rfl⟩)
    go_ret2
    exact RS.nil (below_drewN (Below.refl _ _) _)
end Go.Proofs.Ytcbjfdeigpdbdaa
