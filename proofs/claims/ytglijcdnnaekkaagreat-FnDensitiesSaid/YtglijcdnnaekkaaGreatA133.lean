/- Several parts of the proof in one text; each part says what it shows. Nothing is assumed. -/
import Derived.Test.YtglijcdnnaekkaaGreatA92
import Derived.Test.YtglijcdnnaekkaaGreatA121
import Derived.Test.YtglijcdnnaekkaaGreatA96
/- Inverses of permutations and conjugates. -/
namespace Go.Proofs.YtglijcdnnaekkaaGreat
set_option linter.unusedVariables false
set_option linter.unusedSimpArgs false
open Go.RowKit

def invS (a : List Int) : Nat → List Int
  | 0 => List.replicate a.length 0
  | k + 1 => (invS a k).set (gt a k).toNat (k : Int)
def invL (a : List Int) : List Int := invS a a.length
theorem invS_len (a : List Int) : ∀ k, (invS a k).length = a.length
  | 0 => by simp [invS]
  | k + 1 => by rw [invS, List.length_set, invS_len a k]
theorem invS_in {a : List Int} {n : Nat} (hn : 1 ≤ n) (ha : InR n a) : ∀ k, k ≤ n → ∀ j, j < n → 0 ≤ gt (invS a k) j ∧ gt (invS a k) j < (n : Int)
  | 0, _, j, _ => by rw [invS, gt_rep]; omega
  | k + 1, h, j, hj => by
    obtain ⟨h1, h2⟩ := ha.2 k (by omega)
    rw [invS, gt_setI j (by rw [invS_len, ha.1]; omega)]
    split
    · omega
    · exact invS_in hn ha k (by omega) j hj
theorem InR.inv {n : Nat} {a : List Int} (hn : 1 ≤ n) (ha : InR n a) : InR n (invL a) := by
  unfold invL
  rw [ha.1]
  exact ⟨by rw [invS_len, ha.1], invS_in hn ha n (Nat.le_refl _)⟩
/-- A product with a permutation and its inverse. -/
def cjL (a b : List Int) : List Int := prodL (prodL a b) (invL a)
theorem InR.cj {n : Nat} {a b : List Int} (hn : 1 ≤ n) (ha : InR n a) (hb : InR n b) : InR n (cjL a b) := (ha.prod hb).prod (ha.inv hn)
theorem gt_prod {a b : List Int} {k : Nat} (h : k < b.length) : gt (prodL a b) k = gt a (gt b k).toNat := by
  simp [gt, prodL, List.getElem?_eq_getElem h]
theorem prod_assoc {n : Nat} {a b c : List Int} (hb : InR n b) (hc : InR n c) : prodL a (prodL b c) = prodL (prodL a b) c := by
  have hl : (prodL b c).length = n := by simp [prodL, hc.1]
  refine gt_ext (by simp [prodL]) (fun k hk => ?_)
  have hkn : k < n := by simpa [prodL, hc.1] using hk
  obtain ⟨h1, h2⟩ := hc.2 k hkn
  rw [gt_prod (by omega), gt_prod (by rw [hc.1]; exact hkn), gt_prod (by rw [hc.1]; exact hkn), gt_prod (by rw [hb.1]; omega)]
theorem cj_assoc {n : Nat} {a b : List Int} (hn : 1 ≤ n) (ha : InR n a) (hb : InR n b) : prodL a (prodL b (invL a)) = cjL a b := prod_assoc hb (ha.inv hn)
end Go.Proofs.YtglijcdnnaekkaaGreat
/- Conjugates of groups, the program's side. -/
namespace Go.Proofs.YtglijcdnnaekkaaGreat
set_option linter.unusedVariables false
set_option linter.unusedSimpArgs false
open Go.RowKit

theorem take_mapf {ll : List (List Int)} {i : Nat} (f : List Int → List Int) (h : i < ll.length) : (ll.take (i + 1)).map f = (ll.take i).map f ++ [f (gl ll i)] := by
  rw [List.take_succ_eq_append_getElem h, List.map_append]
  simp [gl, List.getElem?_eq_getElem h]
def cjM (n : Nat) (a l : List Int) : List (List Int) := (memL n l).map (cjL a)
theorem cjM_len (n : Nat) (a l : List Int) : (cjM n a l).length = l.length := by simp [cjM, memL_len]
theorem gl_map {ll : List (List Int)} {f : List Int → List Int} {k : Nat} (h : k < ll.length) : gl (ll.map f) k = f (gl ll k) := by
  simp [gl, List.getElem?_eq_getElem h]
theorem cjM_in {n : Nat} {a l : List Int} (hn : 1 ≤ n) (ha : InR n a) (hk : InK n l) {k : Nat} (h : k < l.length) : InR n (gl (cjM n a l) k) := by
  unfold cjM
  rw [gl_map (by rw [memL_len]; exact h)]
  exact ha.cj hn (mem_in hk k (by rw [memL_len]; exact h))
end Go.Proofs.YtglijcdnnaekkaaGreat
/- Conjugates of groups, the reference's side. -/
namespace Go.Proofs.YtglijcdnnaekkaaGreat
set_option linter.unusedVariables false
set_option linter.unusedSimpArgs false
open Go.RowKit

/-- The flags of the ranks of the first i permutations. -/
def flS (F : Nat) (ms : List (List Int)) : Nat → List Bool
  | 0 => List.replicate F false
  | i + 1 => (flS F ms i).set (rk (gl ms i)) true
theorem flS_len (F : Nat) (ms : List (List Int)) : ∀ i, (flS F ms i).length = F
  | 0 => by simp [flS]
  | i + 1 => by rw [flS, List.length_set, flS_len F ms i]
theorem flS_mem {F : Nat} {ms : List (List Int)} (h : ∀ k, k < ms.length → rk (gl ms k) < F) : ∀ i, i ≤ ms.length → ∀ r, (flS F ms i).getD r false = true ↔ ∃ k, k < i ∧ rk (gl ms k) = r
  | 0, _, r => by
    constructor
    · intro h
      rw [flS, List.getD_eq_getElem?_getD, List.getElem?_replicate] at h
      split at h <;> simp at h
    · rintro ⟨k, hk, _⟩; omega
  | i + 1, hi, r => by
    have ih := flS_mem h i (by omega) r
    have hlt : rk (gl ms i) < (flS F ms i).length := by rw [flS_len]; exact h i (by omega)
    rw [flS]
    by_cases hx : rk (gl ms i) = r
    · subst hx
      rw [getD_set_self hlt]
      exact ⟨fun _ => ⟨i, by omega, rfl⟩, fun _ => rfl⟩
    · rw [getD_set_ne hx, ih]
      constructor
      · rintro ⟨k, h1, h2⟩; exact ⟨k, by omega, h2⟩
      · rintro ⟨k, h1, h2⟩
        by_cases hk : k = i
        · subst hk; exact absurd h2 hx
        · exact ⟨k, by omega, h2⟩
end Go.Proofs.YtglijcdnnaekkaaGreat
/- Flags of a list of ranks, common ranks. -/
namespace Go.Proofs.YtglijcdnnaekkaaGreat
set_option linter.unusedVariables false
set_option linter.unusedSimpArgs false
open Go.RowKit

def fgS (F : Nat) (l : List Int) : Nat → List Bool
  | 0 => List.replicate F false
  | i + 1 => (fgS F l i).set (gt l i).toNat true
theorem fgS_len (F : Nat) (l : List Int) : ∀ i, (fgS F l i).length = F
  | 0 => by simp [fgS]
  | i + 1 => by rw [fgS, List.length_set, fgS_len F l i]
theorem fgS_mem {F : Nat} {l : List Int} (h : ∀ k, k < l.length → 0 ≤ gt l k ∧ gt l k < (F : Int)) : ∀ i, i ≤ l.length → ∀ r : Nat, (fgS F l i).getD r false = true ↔ ∃ k, k < i ∧ gt l k = (r : Int)
  | 0, _, r => by
    constructor
    · intro h
      rw [fgS, List.getD_eq_getElem?_getD, List.getElem?_replicate] at h
      split at h <;> simp at h
    · rintro ⟨k, hk, _⟩; omega
  | i + 1, hi, r => by
    have ih := fgS_mem h i (by omega) r
    obtain ⟨h1, h2⟩ := h i (by omega)
    have hlt : (gt l i).toNat < (fgS F l i).length := by rw [fgS_len]; omega
    rw [fgS]
    by_cases hx : (gt l i).toNat = r
    · subst hx
      rw [getD_set_self hlt]
      exact ⟨fun _ => ⟨i, Nat.lt_succ_self i, (Int.toNat_of_nonneg h1).symm⟩, fun _ => rfl⟩
    · rw [getD_set_ne hx, ih]
      constructor
      · rintro ⟨k, h1, h2⟩; exact ⟨k, by omega, h2⟩
      · rintro ⟨k, h3, h4⟩
        by_cases hk : k = i
        · subst hk; exact absurd (by rw [h4]; exact Int.toNat_natCast r) hx
        · exact ⟨k, by omega, h4⟩
set_option maxRecDepth 10000 in
set_option maxHeartbeats 1000000 in
theorem s_l22Flags (n : Nat) (A : Option Addr) (L c : Nat) (l : List Int) (w : World) (hn6 : n ≤ 6) (hL : L = l.length) (hl : L ≤ 1000) (hk : InK n l) (hs : IS w w.heap.size A l) :
    Calls Tryz.prog 131 #[.int .i64 n, .slice A L c] w (fun e w' => ∃ g, e = .returned (.slice (some ⟨g, 0, none⟩) (fact n) (fact n)) ∧ BB w' g (fgS (fact n) l L) ∧ w.heap.size ≤ g ∧ Below w.heap.size w w') := by
  have hF1 := fact_le hn6
  have hfa := fun W => s_factN n W hn6
  have hfl := fgS_len (fact n) l
  have hbb0 : ∀ W : World, BB (W.alloc (.cells (madeCells #[.bool false] (fact n)) 4)) W.heap.size (fgS (fact n) l 0) := fun W => BB.new W (fact n)
  have hst : ∀ k, fgS (fact n) l (k + 1) = (fgS (fact n) l k).set (gt l k).toNat true := fun k => rfl
  have hkk : ∀ k, k < L → 0 ≤ gt l k ∧ gt l k < (fact n : Nat) := fun k h => hk k (by omega)
  generalize fgS (fact n) l = fl at *
  generalize fact n = F at *
  obtain ⟨hF1, hF2⟩ := hF1
  have hmk := fun W => run_make_row' (P := Tryz.prog) 128 4 (.bool false) 1 Tryz.underlying128 infoBool rfl .i64 .i64 F (by omega) (by omega) W
  have HFL := Lib.hid hfl
  have HST := Lib.hid hst
  have HK := Lib.hid hkk
  have HL := Lib.hid hL
  clear hfl hst hkk hk hL
  go_enter Tryz.func131, Tryz.ntmps131
  go_wp2_with (go_at_call 89; refine (hfa _).mono ?_; rintro e w4 ⟨rfl, nq, rfl⟩)
  have hbb : BB ((w.drewN nq).alloc (.cells (madeCells #[.bool false] F) 4)) w.heap.size (fl 0) := hbb0 (w.drewN nq)
  have hbg := (below_drewN (Below.refl w.heap.size w) nq).alloc (Nat.le_refl _) (.cells (madeCells #[.bool false] F) 4)
  clear hbb0 hmk hfa
  go_loopw [6] (fun u6 wr => ∃ k : Nat, k ≤ L ∧ u6 = .int .i64 k ∧ BB wr w.heap.size (fl k) ∧ Below w.heap.size w wr) (fun u6 _ => L - (intOf u6).toNat)
  case atStart => exact ⟨0, Nat.zero_le _, rfl, hbb, hbg⟩
  case round =>
    clear hbb hbg
    obtain ⟨ws, rfl⟩ : ∃ ws : World, ws = wr := ⟨_, rfl⟩
    obtain ⟨k, hk, rfl, hbb, hb⟩ := hrel
    by_cases hlt : k < L
    · obtain ⟨b, off, rfl, hb2, hcell⟩ := IS.at hs (k := k) (by rw [← HL.out]; exact hlt)
      have hin := (hb.cell (p := ⟨b, off + k, none⟩) hb2).trans (hcell k (by rw [← HL.out]; exact hlt))
      obtain ⟨r, hr⟩ : ∃ r : Nat, gt l k = r := ⟨(gt l k).toNat, by have := (HK.out k hlt).1; omega⟩
      have hrF : r < F := by have := (HK.out k hlt).2; omega
      have hst := HST.out k
      rw [hr] at hin hst
      rw [Int.toNat_natCast] at hst
      have hrl : r < (fl k).length := by rw [HFL.out]; exact hrF
      obtain ⟨e1, e2⟩ := hbb.cell hrl
      have hset := hbb.set hrl
      rw [← hst] at hset
      have HSET := Lib.hid hset
      generalize hFk : fl (k + 1) = FK at *
      have HFK := Lib.hid hFk
      clear hset hst hrl hFk hr hcell
      go_wp2_with (go_quiet (fail))
      go_roundw
      case rel => exact ⟨k + 1, by omega, by go_num, by rw [HFK.out]; exact HSET.out, hb.setCell (Nat.le_refl _) _⟩
      case measure => simp [intOf]; omega
    · obtain rfl : k = L := by omega
      go_wp2_with (fail)
      go_ret
      exact ⟨_, rfl, hbb, Nat.le_refl _, hb⟩
def cmL (fl : List Bool) (l : List Int) : List Int := l.filter fun x => fl.getD x.toNat false
theorem cmL_yes {fl : List Bool} {l : List Int} {k : Nat} (h : k < l.length) (hf : fl.getD (gt l k).toNat false = true) : cmL fl (l.take (k + 1)) = cmL fl (l.take k) ++ [gt l k] := by
  unfold cmL
  rw [List.take_succ_eq_append_getElem h, List.filter_append]
  have e : gt l k = l[k] := by simp [gt, List.getElem?_eq_getElem h]
  rw [e] at hf ⊢
  simp only [List.filter_cons, List.filter_nil, hf, if_true]
theorem cmL_no {fl : List Bool} {l : List Int} {k : Nat} (h : k < l.length) (hf : fl.getD (gt l k).toNat false = false) : cmL fl (l.take (k + 1)) = cmL fl (l.take k) := by
  unfold cmL
  rw [List.take_succ_eq_append_getElem h, List.filter_append]
  have e : gt l k = l[k] := by simp [gt, List.getElem?_eq_getElem h]
  rw [e] at hf
  simp only [List.filter_cons, List.filter_nil, hf, Bool.false_eq_true, if_false, List.append_nil]
theorem cmL_le (fl : List Bool) (l : List Int) : (cmL fl l).length ≤ l.length := List.length_filter_le _ _
end Go.Proofs.YtglijcdnnaekkaaGreat
