/- What the laws ask of types and shares, in plain terms. -/
import Derived.Test.YtglijcdnnaekkaaGreatA275
import Derived.Test.YtglijcdnnaekkaaGreatA276
namespace Go.Proofs.YtglijcdnnaekkaaGreat
set_option linter.unusedVariables false
set_option linter.unusedSimpArgs false
open Go.RowKit

/-- The sum of what a function says of the first rows. -/
def smT (f : List Int → Int) (ll : List (List Int)) : Nat → Int
  | 0 => 0
  | k + 1 => smT f ll k + f (gl ll k)
theorem smT_take (f : List Int → Int) (ll : List (List Int)) : ∀ k, k ≤ ll.length → smT f ll k = ((ll.take k).map f).sum
  | 0, _ => by simp [smT]
  | k + 1, h => by
    rw [smT, smT_take f ll k (by omega), List.take_succ_eq_append_getElem h, List.map_append, List.sum_append, List.map_singleton]
    rw [show ll[k] = gl ll k by simp [gl, List.getElem?_eq_getElem h]]
    simp
theorem smT_all (f : List Int → Int) (ll : List (List Int)) : smT f ll ll.length = (ll.map f).sum := by
  rw [smT_take f ll ll.length (Nat.le_refl _), List.take_length]
theorem smT_bd {f : List Int → Int} {ll : List (List Int)} {b : Nat} (h : ∀ k, k < ll.length → 0 ≤ f (gl ll k) ∧ f (gl ll k) ≤ b) : ∀ k, k ≤ ll.length → 0 ≤ smT f ll k ∧ smT f ll k ≤ (b * k : Nat)
  | 0, _ => by simp [smT]
  | k + 1, hk => by
    have h1 := smT_bd h k (by omega)
    have h2 := h k (by omega)
    rw [smT, Nat.mul_succ]
    omega
/-- What the law asks of all types of so many points. -/
structure FTY (n : Nat) (ll : List (List Int)) : Prop where
  ty : ∀ k, k < ll.length → TypeP (gl ll k)
  bd : ∀ k, k < ll.length → 0 ≤ soV (gl ll k) ∧ soV (gl ll k) ≤ 720
  all : smT soV ll ll.length = (fact n : Nat)
theorem soV_bd {t : List Int} (h : TypeP t) : 0 ≤ soV t ∧ soV t ≤ 720 := by
  rw [(soV_szC h).1]
  have := szF_bd h t.length (Nat.le_refl _)
  exact ⟨this.1, this.2.1⟩
theorem toT_eq {n : Nat} (h1 : 1 ≤ n) (h6 : n ≤ 6) : toT n = srt (tyF 20 1 n) (tyF 20 1 n).length ∧ toC n = 0 := by
  have hin : inB (n : Int) 1 6 = true := inB_mk (by omega) (by omega)
  unfold toT toC
  rw [hin, Int.toNat_natCast, tyF_eq 19 n 1 (by omega) (by omega)]
  exact ⟨rfl, rfl⟩
theorem fty_of {n : Nat} (h1 : 1 ≤ n) (h6 : n ≤ 6) : FTY n (toT n) ∧ (toT n).length = (tyL 1 n).length := by
  obtain ⟨m, rfl⟩ : ∃ m, n = m + 1 := ⟨n - 1, by omega⟩
  have hk := ty_k2 ⟨m, by omega⟩
  rw [(toT_eq h1 h6).1]
  generalize hll : srt (tyF 20 1 (m + 1)) (tyF 20 1 (m + 1)).length = ll at *
  have hk' : (ll.map szC).sum = (fact (m + 1) : Nat) ∧ ll.all typC = true := by
    have hk := of_decide_eq_true hk
    rw [Bool.and_eq_true] at hk
    exact ⟨of_decide_eq_true hk.1, of_decide_eq_true hk.2⟩
  have hty : ∀ k, k < ll.length → TypeP (gl ll k) := fun k hk2 => typC_p (List.all_eq_true.1 hk'.2 _ (gl_mem hk2))
  refine ⟨⟨hty, fun k hk2 => soV_bd (hty k hk2), ?_⟩, ?_⟩
  · rw [smT_all, ← hk'.1]
    congr 1
    refine List.map_congr_left fun t ht => ?_
    obtain ⟨k, hk2, rfl⟩ := mem_gl.1 ht
    exact (soV_szC (hty k hk2)).1
  · rw [← hll, srt_len, tyF_eq 19 (m + 1) 1 (by omega) (by omega)]
theorem lsum_in {x : List Int} : ∀ {out : List (List Int)}, out.Nodup → x ∈ out → lsum out (fun y => if x = y then 1 else 0) = 1
  | [], _, h => by simp at h
  | y :: out, hd, h => by
    rw [lsum_cons]
    rw [List.nodup_cons] at hd
    by_cases e : x = y
    · subst e
      rw [if_pos rfl, lsum_congr (g := fun _ => 0) (fun z hz => if_neg (fun e => hd.1 (by rw [e]; exact hz))), lsum_zero]
    · rw [if_neg e]
      rw [List.mem_cons] at h
      rcases h with h | h
      · exact absurd h e
      · rw [lsum_in hd.2 h]
theorem cnt_lsum (ts : List (List Int)) (i : Nat) (x : List Int) : cntT ts i x = lsum (List.range i) (fun j => if gl ts j = x then 1 else 0) := by
  have h := lsum_filter (fun j => decide (gl ts j = x)) 1 (List.range i)
  rw [Nat.mul_one] at h
  unfold cntT
  rw [← h]
  refine lsum_congr fun j _ => ?_
  by_cases e : gl ts j = x
  · simp [e]
  · simp [e]
theorem sh_total (ts : List (List Int)) (i : Nat) : lsum (shO ts i) (fun x => cntT ts i x) = i := by
  rw [lsum_congr (g := fun x => lsum (List.range i) (fun j => if gl ts j = x then 1 else 0)) (fun x _ => cnt_lsum ts i x), lsum_swap]
  have hnd : (shO ts i).Nodup := (shO_strict ts i).imp fun {a b} h e => by subst e; rw [cmpT_eq0.2 rfl] at h; omega
  rw [lsum_congr (g := fun _ => 1) (fun j hj => lsum_in hnd (shO_mem.2 ⟨j, List.mem_range.1 hj, rfl⟩)), lsum_len, List.length_range]
/-- The sum of the first numbers. -/
def smI (l : List Int) : Nat → Int
  | 0 => 0
  | k + 1 => smI l k + gt l k
theorem smI_ctL (ts : List (List Int)) (i : Nat) (out : List (List Int)) : ∀ k, k ≤ out.length → smI (ctL ts i out) k = (lsum (out.take k) (fun x => cntT ts i x) : Nat)
  | 0, _ => by simp [smI, lsum]
  | k + 1, h => by
    rw [smI, smI_ctL ts i out k (by omega), ctL_gt h, List.take_succ_eq_append_getElem h]
    unfold lsum
    rw [List.map_append, List.sum_append, List.map_singleton]
    rw [show out[k] = gl out k by simp [gl, List.getElem?_eq_getElem h]]
    simp
theorem tyR_eq (n r : Nat) : tyR n r = tyS (wrL n r) := ty_ins _
/-- What the law asks of shares. -/
structure FSH (l : List Int) (ts : List (List Int)) (cs : List Int) : Prop where
  ty : ∀ k, k < ts.length → TypeP (gl ts k)
  c1 : ∀ k, k < ts.length → 1 ≤ gt cs k ∧ gt cs k ≤ soV (gl ts k)
  all : smI cs ts.length = (l.length : Int)
theorem fsh_of {p : Int} {l : List Int} (h : grpB p l = true) : FSH l (shT p l) (shKs p l) := by
  obtain ⟨n, rfl, h1, h6, h3, h4, hk⟩ := grpB_t h
  obtain ⟨e1, e2, _⟩ := shT_yes h
  rw [e1, e2]
  obtain ⟨m, rfl⟩ : ∃ m, n = m + 1 := ⟨n - 1, by omega⟩
  have k0 := ty_k0 ⟨m, by omega⟩
  have k1 := ty_k1 ⟨m, by omega⟩
  have hrow : ∀ k, k < (shO (tyM (m + 1) l) l.length).length → ∃ j, j < l.length ∧ gl (shO (tyM (m + 1) l) l.length) k = tyR (m + 1) (gt l j).toNat ∧ (gt l j).toNat < fact (m + 1) := fun k hk' => by
    obtain ⟨j, hj, e⟩ := shO_mem.1 (gl_mem hk')
    have := hk j hj
    exact ⟨j, hj, by rw [← e, gl_tyM hj, gl_memW hj, tyR_eq], by omega⟩
  have hin : ∀ k, k < (shO (tyM (m + 1) l) l.length).length → TypeP (gl (shO (tyM (m + 1) l) l.length) k) ∧ (cntR (m + 1) (gl (shO (tyM (m + 1) l) l.length) k) : Int) = soV (gl (shO (tyM (m + 1) l) l.length) k) := fun k hk' => by
    obtain ⟨j, hj, e, hlt⟩ := hrow k hk'
    have h1 := List.all_eq_true.1 k1 _ (List.mem_range.2 hlt)
    obtain ⟨t, ht, he⟩ := List.any_eq_true.1 h1
    have he := of_decide_eq_true he
    have h2 := List.all_eq_true.1 k0 t ht
    rw [Bool.and_eq_true, Bool.and_eq_true] at h2
    have hT := typC_p h2.1
    rw [e]
    have he' : tyR (m + 1) (gt l j).toNat = t := he
    rw [he', (soV_szC hT).1]
    exact ⟨hT, of_decide_eq_true h2.2.2⟩
  refine ⟨fun k hk' => (hin k hk').1, fun k hk' => ?_, ?_⟩
  · rw [ctL_gt hk']
    obtain ⟨j, hj, e⟩ := shO_mem.1 (gl_mem hk')
    have hp := cntT_pos hj e
    refine ⟨by omega, ?_⟩
    rw [← (hin k hk').2]
    have hle : cntT (tyM (m + 1) l) l.length (gl (shO (tyM (m + 1) l) l.length) k) ≤ cntR (m + 1) (gl (shO (tyM (m + 1) l) l.length) k) := by
      unfold cntT cntR
      have hpw : l.Pairwise (· < ·) := rise_pw (riseB_p (by
        unfold grpB at h
        simp only [Bool.and_eq_true] at h
        have := h.2.2.2.1
        rw [Int.toNat_natCast] at this
        exact this))
      refine inj_len (fun j => (gt l j).toNat) (List.Nodup.sublist List.filter_sublist List.nodup_range) (fun q hq => ?_) (fun q hq r hr e => ?_)
      · rw [List.mem_filter] at hq ⊢
        obtain ⟨hq1, hq2⟩ := hq
        have hq1 := List.mem_range.1 hq1
        have := hk q hq1
        refine ⟨List.mem_range.2 (by omega), decide_eq_true ?_⟩
        rw [tyR_eq, ← gl_memW hq1, ← gl_tyM hq1]
        exact of_decide_eq_true hq2
      · have hq1 := List.mem_range.1 (List.mem_filter.1 hq).1
        have hr1 := List.mem_range.1 (List.mem_filter.1 hr).1
        have b1 := hk q hq1
        have b2 := hk r hr1
        have e' : gt l q = gt l r := by omega
        exact nd_inj (hpw.imp fun h => by omega) hq1 hr1 e'
    omega
  · rw [smI_ctL _ _ _ _ (Nat.le_refl _), List.take_length, sh_total]
end Go.Proofs.YtglijcdnnaekkaaGreat
