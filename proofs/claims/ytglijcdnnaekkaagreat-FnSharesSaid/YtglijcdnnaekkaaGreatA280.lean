/- Several parts of the proof in one text; each part says what it shows. Nothing is assumed. -/
import Derived.Test.YtglijcdnnaekkaaGreatA275
import Derived.Test.YtglijcdnnaekkaaGreatA276
import Derived.Test.YtglijcdnnaekkaaGreatA247
import Derived.Deep.Cut
/- FnShares: what the law asks of types and shares, in plain terms. -/
namespace Go.Proofs.YtglijcdnnaekkaaGreat
set_option linter.unusedVariables false
set_option linter.unusedSimpArgs false
open Go.RowKit

/-- The sum of what a function says of the first rows. -/
def smT (f : List Int → Int) (ll : List (List Int)) : Nat → Int
  | 0 => 0
  | k + 1 => smT f ll k + f (gl ll k)
theorem smT_take (f : List Int → Int) (ll : List (List Int)) : ∀ k, k ≤ ll.length → smT f ll k = ((ll.take k).map f).sum
  | 0, _ => by simp [smT]
  | k + 1, h => by
    rw [smT, smT_take f ll k (by omega), List.take_succ_eq_append_getElem h, List.map_append, List.sum_append, List.map_singleton]
    rw [show ll[k] = gl ll k by simp [gl, List.getElem?_eq_getElem h]]
    simp
theorem smT_all (f : List Int → Int) (ll : List (List Int)) : smT f ll ll.length = (ll.map f).sum := by
  rw [smT_take f ll ll.length (Nat.le_refl _), List.take_length]
theorem smT_bd {f : List Int → Int} {ll : List (List Int)} {b : Nat} (h : ∀ k, k < ll.length → 0 ≤ f (gl ll k) ∧ f (gl ll k) ≤ b) : ∀ k, k ≤ ll.length → 0 ≤ smT f ll k ∧ smT f ll k ≤ (b * k : Nat)
  | 0, _ => by simp [smT]
  | k + 1, hk => by
    have h1 := smT_bd h k (by omega)
    have h2 := h k (by omega)
    rw [smT, Nat.mul_succ]
    omega
/-- What the law asks of all types of so many points. -/
structure FTY (n : Nat) (ll : List (List Int)) : Prop where
  ty : ∀ k, k < ll.length → TypeP (gl ll k)
  bd : ∀ k, k < ll.length → 0 ≤ soV (gl ll k) ∧ soV (gl ll k) ≤ 720
  all : smT soV ll ll.length = (fact n : Nat)
theorem soV_bd {t : List Int} (h : TypeP t) : 0 ≤ soV t ∧ soV t ≤ 720 := by
  rw [(soV_szC h).1]
  have := szF_bd h t.length (Nat.le_refl _)
  exact ⟨this.1, this.2.1⟩
theorem toT_eq {n : Nat} (h1 : 1 ≤ n) (h6 : n ≤ 6) : toT n = srt (tyF 20 1 n) (tyF 20 1 n).length ∧ toC n = 0 := by
  have hin : inB (n : Int) 1 6 = true := inB_mk (by omega) (by omega)
  unfold toT toC
  rw [hin, Int.toNat_natCast, tyF_eq 19 n 1 (by omega) (by omega)]
  exact ⟨rfl, rfl⟩
theorem fty_of {n : Nat} (h1 : 1 ≤ n) (h6 : n ≤ 6) : FTY n (toT n) ∧ (toT n).length = (tyL 1 n).length := by
  obtain ⟨m, rfl⟩ : ∃ m, n = m + 1 := ⟨n - 1, by omega⟩
  have hk := ty_k2 ⟨m, by omega⟩
  rw [(toT_eq h1 h6).1]
  generalize hll : srt (tyF 20 1 (m + 1)) (tyF 20 1 (m + 1)).length = ll at *
  have hk' : (ll.map szC).sum = (fact (m + 1) : Nat) ∧ ll.all typC = true := by
    have hk := of_decide_eq_true hk
    rw [Bool.and_eq_true] at hk
    exact ⟨of_decide_eq_true hk.1, of_decide_eq_true hk.2⟩
  have hty : ∀ k, k < ll.length → TypeP (gl ll k) := fun k hk2 => typC_p (List.all_eq_true.1 hk'.2 _ (gl_mem hk2))
  refine ⟨⟨hty, fun k hk2 => soV_bd (hty k hk2), ?_⟩, ?_⟩
  · rw [smT_all, ← hk'.1]
    congr 1
    refine List.map_congr_left fun t ht => ?_
    obtain ⟨k, hk2, rfl⟩ := mem_gl.1 ht
    exact (soV_szC (hty k hk2)).1
  · rw [← hll, srt_len, tyF_eq 19 (m + 1) 1 (by omega) (by omega)]
theorem lsum_in {x : List Int} : ∀ {out : List (List Int)}, out.Nodup → x ∈ out → lsum out (fun y => if x = y then 1 else 0) = 1
  | [], _, h => by simp at h
  | y :: out, hd, h => by
    rw [lsum_cons]
    rw [List.nodup_cons] at hd
    by_cases e : x = y
    · subst e
      rw [if_pos rfl, lsum_congr (g := fun _ => 0) (fun z hz => if_neg (fun e => hd.1 (by rw [e]; exact hz))), lsum_zero]
    · rw [if_neg e]
      rw [List.mem_cons] at h
      rcases h with h | h
      · exact absurd h e
      · rw [lsum_in hd.2 h]
theorem cnt_lsum (ts : List (List Int)) (i : Nat) (x : List Int) : cntT ts i x = lsum (List.range i) (fun j => if gl ts j = x then 1 else 0) := by
  have h := lsum_filter (fun j => decide (gl ts j = x)) 1 (List.range i)
  rw [Nat.mul_one] at h
  unfold cntT
  rw [← h]
  refine lsum_congr fun j _ => ?_
  by_cases e : gl ts j = x
  · simp [e]
  · simp [e]
theorem sh_total (ts : List (List Int)) (i : Nat) : lsum (shO ts i) (fun x => cntT ts i x) = i := by
  rw [lsum_congr (g := fun x => lsum (List.range i) (fun j => if gl ts j = x then 1 else 0)) (fun x _ => cnt_lsum ts i x), lsum_swap]
  have hnd : (shO ts i).Nodup := (shO_strict ts i).imp fun {a b} h e => by subst e; rw [cmpT_eq0.2 rfl] at h; omega
  rw [lsum_congr (g := fun _ => 1) (fun j hj => lsum_in hnd (shO_mem.2 ⟨j, List.mem_range.1 hj, rfl⟩)), lsum_len, List.length_range]
/-- The sum of the first numbers. -/
def smI (l : List Int) : Nat → Int
  | 0 => 0
  | k + 1 => smI l k + gt l k
theorem smI_ctL (ts : List (List Int)) (i : Nat) (out : List (List Int)) : ∀ k, k ≤ out.length → smI (ctL ts i out) k = (lsum (out.take k) (fun x => cntT ts i x) : Nat)
  | 0, _ => by simp [smI, lsum]
  | k + 1, h => by
    rw [smI, smI_ctL ts i out k (by omega), ctL_gt h, List.take_succ_eq_append_getElem h]
    unfold lsum
    rw [List.map_append, List.sum_append, List.map_singleton]
    rw [show out[k] = gl out k by simp [gl, List.getElem?_eq_getElem h]]
    simp
theorem tyR_eq (n r : Nat) : tyR n r = tyS (wrL n r) := ty_ins _
/-- What the law asks of shares. -/
structure FSH (l : List Int) (ts : List (List Int)) (cs : List Int) : Prop where
  ty : ∀ k, k < ts.length → TypeP (gl ts k)
  c1 : ∀ k, k < ts.length → 1 ≤ gt cs k ∧ gt cs k ≤ soV (gl ts k)
  all : smI cs ts.length = (l.length : Int)
theorem fsh_of {p : Int} {l : List Int} (h : grpB p l = true) : FSH l (shT p l) (shKs p l) := by
  obtain ⟨n, rfl, h1, h6, h3, h4, hk⟩ := grpB_t h
  obtain ⟨e1, e2, _⟩ := shT_yes h
  rw [e1, e2]
  obtain ⟨m, rfl⟩ : ∃ m, n = m + 1 := ⟨n - 1, by omega⟩
  have k0 := ty_k0 ⟨m, by omega⟩
  have k1 := ty_k1 ⟨m, by omega⟩
  have hrow : ∀ k, k < (shO (tyM (m + 1) l) l.length).length → ∃ j, j < l.length ∧ gl (shO (tyM (m + 1) l) l.length) k = tyR (m + 1) (gt l j).toNat ∧ (gt l j).toNat < fact (m + 1) := fun k hk' => by
    obtain ⟨j, hj, e⟩ := shO_mem.1 (gl_mem hk')
    have := hk j hj
    exact ⟨j, hj, by rw [← e, gl_tyM hj, gl_memW hj, tyR_eq], by omega⟩
  have hin : ∀ k, k < (shO (tyM (m + 1) l) l.length).length → TypeP (gl (shO (tyM (m + 1) l) l.length) k) ∧ (cntR (m + 1) (gl (shO (tyM (m + 1) l) l.length) k) : Int) = soV (gl (shO (tyM (m + 1) l) l.length) k) := fun k hk' => by
    obtain ⟨j, hj, e, hlt⟩ := hrow k hk'
    have h1 := List.all_eq_true.1 k1 _ (List.mem_range.2 hlt)
    obtain ⟨t, ht, he⟩ := List.any_eq_true.1 h1
    have he := of_decide_eq_true he
    have h2 := List.all_eq_true.1 k0 t ht
    rw [Bool.and_eq_true, Bool.and_eq_true] at h2
    have hT := typC_p h2.1
    rw [e]
    have he' : tyR (m + 1) (gt l j).toNat = t := he
    rw [he', (soV_szC hT).1]
    exact ⟨hT, of_decide_eq_true h2.2.2⟩
  refine ⟨fun k hk' => (hin k hk').1, fun k hk' => ?_, ?_⟩
  · rw [ctL_gt hk']
    obtain ⟨j, hj, e⟩ := shO_mem.1 (gl_mem hk')
    have hp := cntT_pos hj e
    refine ⟨by omega, ?_⟩
    rw [← (hin k hk').2]
    have hle : cntT (tyM (m + 1) l) l.length (gl (shO (tyM (m + 1) l) l.length) k) ≤ cntR (m + 1) (gl (shO (tyM (m + 1) l) l.length) k) := by
      unfold cntT cntR
      have hpw : l.Pairwise (· < ·) := rise_pw (riseB_p (by
        unfold grpB at h
        simp only [Bool.and_eq_true] at h
        have := h.2.2.2.1
        rw [Int.toNat_natCast] at this
        exact this))
      refine inj_len (fun j => (gt l j).toNat) (List.Nodup.sublist List.filter_sublist List.nodup_range) (fun q hq => ?_) (fun q hq r hr e => ?_)
      · rw [List.mem_filter] at hq ⊢
        obtain ⟨hq1, hq2⟩ := hq
        have hq1 := List.mem_range.1 hq1
        have := hk q hq1
        refine ⟨List.mem_range.2 (by omega), decide_eq_true ?_⟩
        rw [tyR_eq, ← gl_memW hq1, ← gl_tyM hq1]
        exact of_decide_eq_true hq2
      · have hq1 := List.mem_range.1 (List.mem_filter.1 hq).1
        have hr1 := List.mem_range.1 (List.mem_filter.1 hr).1
        have b1 := hk q hq1
        have b2 := hk r hr1
        have e' : gt l q = gt l r := by omega
        exact nd_inj (hpw.imp fun h => by omega) hq1 hr1 e'
    omega
  · rw [smI_ctL _ _ _ _ (Nat.le_refl _), List.take_length, sh_total]
end Go.Proofs.YtglijcdnnaekkaaGreat
/- FnShares: draws; lists of shares that are alike. -/
namespace Go.Proofs.YtglijcdnnaekkaaGreat
set_option linter.unusedVariables false
set_option linter.unusedSimpArgs false
open Go.RowKit

set_option maxHeartbeats 1000000 in
theorem l_likeShares (A A' : Option Addr) (n c c' base base' : Nat) (vs vs' : List Value) (cs : List Int) (ts : List (List Int)) (w : World) (hn : n = ts.length) (hcs : cs.length = n) (hl : n ≤ 1000) (hrl : ∀ k, k < n → (gl ts k).length ≤ 6)
    (ho : w.ownsRow base 59 2 (.slice A n c) n (shC vs cs)) (hr : RowsO w base vs ts) (ho' : w.ownsRow base' 59 2 (.slice A' n c') n (shC vs' cs)) (hr' : RowsO w base' vs' ts) :
    Calls Tryz.prog 37 #[.slice A n c, .slice A' n c'] w (Q (.bool true) w) := by
  have HN := Lib.hid hn
  have HC := Lib.hid hcs
  have HR := Lib.hid hrl
  clear hn hrl hcs
  go_enter Tryz.func37, Tryz.ntmps37
  go_wp2_with (fail)
  go_loopw [5] (fun u wr => ∃ k : Nat, k ≤ n ∧ u = .int .i64 k ∧ DR w wr) (fun u _ => n - (intOf u).toNat)
  case atStart => exact ⟨0, Nat.zero_le _, rfl, DR.refl _⟩
  case round =>
    obtain ⟨ws, rfl⟩ : ∃ ws : World, ws = wr := ⟨_, rfl⟩
    obtain ⟨k, hk, rfl, hdr⟩ := hrel
    by_cases hlt : k < n
    · have ow : ws.ownsRow base 59 2 (.slice A n c) n (shC vs cs) := by obtain ⟨q, rfl⟩ := hdr; exact ho
      have rw1 : RowsO ws base vs ts := by obtain ⟨q, rfl⟩ := hdr; exact hr.drewN q
      have ow' : ws.ownsRow base' 59 2 (.slice A' n c') n (shC vs' cs) := by obtain ⟨q, rfl⟩ := hdr; exact ho'
      have rw2 : RowsO ws base' vs' ts := by obtain ⟨q, rfl⟩ := hdr; exact hr'.drewN q
      obtain ⟨g, rfl, _⟩ := own_src ow (by omega)
      obtain ⟨g', rfl, _⟩ := own_src ow' (by omega)
      obtain ⟨Ah, ch, e1, e2, _, ih⟩ := sh_cell ow rw1 HN.out HC.out hlt
      obtain ⟨Ah', ch', e1', e2', _, ih'⟩ := sh_cell ow' rw2 HN.out HC.out hlt
      have hrk := HR.out k hlt
      generalize hL : (gl ts k).length = Lh at *
      have HLH := Lib.hid hL.symm
      generalize gt cs k = x at *
      clear hL ow ow' rw1 rw2
      go_wp2_with (go_quiet ((go_at_call 19; exact Calls.quiet_of (l_likeInts Ah Ah' Lh ch ch' (gl ts k) _ _ _ HLH.out (by omega) (ih.drewN _) (ih'.drewN _)))))
      go_roundw
      case rel => exact ⟨k + 1, by omega, by go_num, by repeat (first | exact hdr | refine DR.step ?_ _)⟩
      case measure => simp [intOf]; omega
    · obtain rfl : k = n := by omega
      go_wp2_with (fail)
      go_ret
      exact ⟨rfl, hdr⟩
/-- A drawn permutation. -/
def VP (g : Nat) (w : World) (e : Ending) (w' : World) : Prop := ∃ (n r c : Nat) (A : Option Addr), 1 ≤ n ∧ n ≤ 6 ∧ r < fact n ∧ e = .returned (.slice A n c) ∧ w'.ownsRow w.heap.size 2 1 (.slice A n c) n (ints (wrL n r)) ∧ SRC w' g ∧ Up g w.heap.size w w'
set_option maxRecDepth 20000 in
set_option maxHeartbeats 1000000 in
theorem s_l21Valid (g : Nat) (w : World) (hs : SRC w g) : Calls Tryz.prog 154 #[.pointer (some ⟨g, 0, none⟩)] w (VP g w) := by
  have hgl := hs.lt
  have hn6 := s_nextI g 6 (by omega) w hs
  go_enter Tryz.func154, Tryz.ntmps154
  go_wp2_with (go_at_call 69; refine hn6.mono ?_; rintro e w1 ⟨k, rfl, hk, hs1, hu1⟩; have hw1 : IntKind.i64.wrap (1 + (k : Int)) = 1 + (k : Int) := IntWalk.i64_in _ (by omega); have hpk := s_pick4 g 4 5 6 (1 + (k : Int)) w1 hs1)
  refine hpk.mono ?_
  rintro e w2 ⟨x, rfl, hx, hs2, hu2⟩
  have hx6 : 1 ≤ x ∧ x ≤ 6 := by simp at hx; omega
  obtain ⟨n, rfl⟩ : ∃ n : Nat, x = n := ⟨x.toNat, by omega⟩
  have hn1 : 1 ≤ n := by omega
  have hn6' : n ≤ 6 := by omega
  have hfc := fun W => s_factN n W (by omega)
  have hf1 := fact_pos n
  have hwn := fun r W h => s_l21With n r W hn1 (by omega) h
  have u2 := hu1.call hu2
  clear hx hx6 hn6 hpk hw1 hu1 hu2 hs hs1
  generalize hF : fact n = F at *
  have HF := Lib.hid hF
  clear hF
  go_wp2_with (first
    | (go_at_call 89; refine (hfc _).mono ?_; rintro e w3 ⟨rfl, q3, rfl⟩)
    | (go_at_call 69; refine (s_nextI g (F : Nat) (by omega) _ (hs2.drewN q3)).mono ?_; rintro e w4 ⟨r, rfl, hr, hs4, hu4⟩; have hu4 : Up g w2.heap.size w2 w4 := ⟨hu4.os, hu4.tape, hu4.output, hu4.size, hu4.block⟩; have hr := Int.ofNat_lt.mp hr)
    | (go_at_call 102; refine (hwn r _ hr).mono ?_; rintro e w5 ⟨v5, rfl, o5, hb5⟩; obtain ⟨A5, c5, rfl, _⟩ := own_slice' o5))
  have hz := (u2.call hu4).size
  go_ret
  exact ⟨n, r, c5, A5, hn1, hn6', by rw [HF.out]; exact hr, rfl, own_mono o5 hz, hs4.call hb5, (u2.call hu4).thenB hb5⟩
/-- A list out of a source. -/
def LSD (g : Nat) (w : World) (e : Ending) (w' : World) : Prop := ∃ (A : Option Addr) (L c : Nat) (l : List Int), e = .returned (.slice A L c) ∧ L = l.length ∧ L ≤ 7 ∧ IS w' w'.heap.size A l ∧ SRC w' g ∧ Up g w.heap.size w w'
/-- A list out of a code. -/
def LCD (w : World) (e : Ending) (w' : World) : Prop := ∃ (A : Option Addr) (L c : Nat) (l : List Int), e = .returned (.slice A L c) ∧ L = l.length ∧ L ≤ 7 ∧ IS w' w'.heap.size A l ∧ Below w.heap.size w w'
theorem up_set {g h : Nat} {w w' : World} (hu : Up g w.heap.size w w') (hh : w.heap.size ≤ h) (i : Nat) (u : Value) : Up g w.heap.size w (w'.setCell ⟨h, i, none⟩ u) :=
  hu.trans (Up.of ((Below.refl w.heap.size w').setCell (p := ⟨h, i, none⟩) hh u))
set_option maxRecDepth 20000 in
set_option maxHeartbeats 2000000 in
theorem s_l25Draw (g : Nat) (w : World) (hs : SRC w g) : Calls Tryz.prog 86 #[.pointer (some ⟨g, 0, none⟩)] w (LSD g w) := by
  have hgl := hs.lt
  have hv := s_l21Valid g w hs
  have hnx := fun W h => s_nextI g 20 (by omega) W h
  obtain ⟨i0, hi, hz0', hz1', hz2'⟩ := info_parts infoI64
  go_enter Tryz.func86, Tryz.ntmps86
  go_wp2_with (fail)
  refine hv.mono ?_
  rintro e w1 ⟨n, r, c, A, h1, h6, hr, rfl, o1, hs1, hu1⟩
  have hin := wrL_in hr
  have hty := s_l21Type A n c (wrL n r) w1 h1 h6 hin (own_isn o1 hin.1.symm)
  have hle := cycL_len (wrL n r)
  have hpos := cycL_pos (a := wrL n r) (by rw [hin.1]; exact h1)
  have htl := tyS_len (wrL n r)
  rw [hin.1] at hle
  generalize (cycL (wrL n r)).length = m at *
  generalize tyS (wrL n r) = t at *
  have HTL := Lib.hid htl
  clear hin hr htl hv hs
  go_wp2_with (fail)
  refine hty.mono ?_
  rintro e w2 ⟨v, rfl, o2, hb2⟩
  obtain ⟨A2, c2, rfl, _⟩ := own_slice' o2
  have hs2 := hs1.call hb2
  have u2 := hu1.thenB hb2
  have hz1 := hu1.size
  have hz2 := hb2.size
  clear o1 hs1 hu1 hb2 hty
  go_wp2_with (fail)
  refine (hnx _ hs2).mono ?_
  rintro e w3 ⟨k, rfl, hk, hs3, hu3⟩
  have o3 := up_own (B := 0) o2 hu3 (by omega)
  have u3 := u2.call hu3
  have hz3 := hu3.size
  clear o2 hs2 u2 hnx
  have hk4 : k = 0 ∨ k = 1 ∨ k = 2 ∨ 2 < k := by omega
  rcases hk4 with rfl | rfl | rfl | hk2
  · have hpk := s_pick3 g 1 0 6 w3 hs3
    go_wp2_with (fail)
    refine hpk.mono ?_
    rintro e w4 ⟨x, rfl, _, hs4, hu4⟩
    have o4 := up_own (B := 0) o3 hu4 (by omega)
    have u4 := u3.call hu4
    have hz4 := hu4.size
    have hbx : Below w4.heap.size w4 (w4.alloc (.cells #[.int .i64 x] 2)) := (Below.refl _ _).alloc (Nat.le_refl _) _
    have o5 := own_below o4 hbx
    have hsx := one_src w4 (.int .i64 x) 2
    clear o3 hpk
    go_wp2_with (at_builtin; refine wpList_append_own _ rfl (.tmp 11) (.tmp 15) 24 rfl w1.heap.size 2 i0 (.int .i64 0) 1 8 Tryz.underlying24 hi hz0' hz1' hz2' rfl (by omega) (.slice A2 m c2) m (ints t) rfl o5 ⟨w4.heap.size, 0, none⟩ 1 1 [.int .i64 x] rfl rfl (hsx _ rfl) (by intro u hu; simp at hu; subst hu; rfl) (by simp only [maxLen]; omega) (by omega) (by simp; omega) ?_; intro v6 w6 o6 g6 _; obtain ⟨A6, c6, rfl, _⟩ := own_slice' o6; rw [← ints_snoc] at o6)
    go_ret
    have hl : m + 1 = (t ++ [x]).length := by rw [List.length_append, HTL.out]; rfl
    have hb6 : Below w.heap.size w4 w6 := ((Below.refl w.heap.size w4).alloc (by omega) (.cells #[.int .i64 x] 2)).grown g6 (by simp; omega) (fun y hy => by have := (o5.lt y hy).1; omega)
    exact ⟨A6, m + 1, c6, t ++ [x], rfl, hl, by omega, own_isn o6 hl, hs4.below hb6 (by omega), u4.trans (Up.of hb6)⟩
  · have hpk := s_pick3 g 0 7 3 w3 hs3
    go_wp2_with (fail)
    refine hpk.mono ?_
    rintro e w4 ⟨x, rfl, _, hs4, hu4⟩
    have o4 := up_own (B := 0) o3 hu4 (by omega)
    have u4 := u3.call hu4
    have hz4 := hu4.size
    obtain ⟨gb, rfl, hgb, hgb', hcells⟩ := own_src o4 hpos
    have c0 := hcells 0 _ (ints_at (l := t) (k := 0) (by rw [HTL.out]; exact hpos))
    have f0 := o4.frozenAt 0
    obtain ⟨o5, g5⟩ := o4.stored 0 (.int .i64 x)
    have hset : (ints t).set 0 (.int .i64 x) = ints (t.set 0 x) := by simp [ints, List.map_set]
    rw [hset] at o5
    have hl : m = (t.set 0 x).length := by rw [List.length_set, HTL.out]
    have hi5 := own_isn o5 hl
    have hs5 := hs4.grown g5 (fun y hy => by injection hy with hy; omega)
    have u5 := up_set u4 (by omega : w.heap.size ≤ gb) 0 (.int .i64 x)
    have HI := Lib.hid hi5
    have HS := Lib.hid hs5
    have HU := Lib.hid u5
    have HL := Lib.hid hl
    clear hl o3 o4 o5 hcells hpk hset hi5 hs5 u5 g5
    go_wp2_with (fail)
    go_ret
    exact ⟨_, m, c2, t.set 0 x, rfl, HL.out, by omega, HI.out, HS.out, HU.out⟩
  · go_wp2_with (fail)
    go_ret
    have hb : Below w.heap.size w3 (w3.alloc (.cells #[] 2)) := (Below.refl _ _).alloc (by omega) _
    exact ⟨_, 0, 0, [], rfl, rfl, by omega, fun h => by simp at h, hs3.below hb (by omega), u3.trans (Up.of hb)⟩
  · go_wp2_with (fail)
    go_ret
    exact ⟨A2, m, c2, t, rfl, HTL.out.symm, by omega, own_isn o3 HTL.out.symm, hs3, u3⟩
set_option maxRecDepth 20000 in
set_option maxHeartbeats 2000000 in
theorem s_DrawSharesOf (A : Option Addr) (n c : Nat) (w : World) (hn : n ≤ 4096) (hs : YB w w.heap.size A n) : Calls Tryz.prog 24 #[.slice A n c] w (GCD w) := by
  have B0 := BK.new w 26 #[.int .i64 0, .slice none 0 0]
  have hb0 := (Below.refl w.heap.size w).alloc (Nat.le_refl _) (.cells #[.int .i64 0, .slice none 0 0] 26)
  have hz0 := B0.lt
  have hf := s_l01From A n c _ hn (hs.call hb0)
  have hd := fun g W h => s_l22Draw g W h
  clear hn hs
  go_enter Tryz.func24, Tryz.ntmps24
  go_wp2_with (fail)
  generalize w.alloc (.cells #[.int .i64 0, .slice none 0 0] 26) = w0 at *
  refine hf.mono ?_
  rintro e w1 ⟨rfl, hs1, hb1⟩
  have B1 := B0.below hb1 hz0
  have hz1 := hb1.size
  have hl1 := hs1.lt
  clear hf
  go_wp2_with (fail)
  refine (hd _ _ hs1).mono ?_
  rintro e w2 ⟨p, A2, L, c2, l, rfl, hL, hl, hi, hs2, hu2⟩
  have HL := Lib.hid hL
  have B2 := bk_upg B1 hu2 (by omega) (by omega)
  have u2 := (Up.of (g := w0.heap.size) hb1).call hu2
  have b2 := bel_call hb0 (u2.below (Nat.le_refl _))
  obtain ⟨f0, f1, f2, f3⟩ := B2.two
  obtain ⟨d0, d1⟩ := set2 (x := .int .i64 p) (y := .slice A2 L c2) B2
  have b3 := (b2.setCell (p := ⟨w.heap.size, 0, none⟩) (Nat.le_refl _) (.int .i64 p)).setCell (p := ⟨w.heap.size, 1, none⟩) (Nat.le_refl _) (.slice A2 L c2)
  have hi3 := isf_two hi (r := w.heap.size) (by omega) (.int .i64 p) (.slice A2 L c2)
  clear B0 B1 B2 u2 hu2 hs1 hs2 hd hb1 hL hi
  go_wp2_with (fail)
  generalize (w2.setCell ⟨w.heap.size, 0, none⟩ (.int .i64 p)).setCell ⟨w.heap.size, 1, none⟩ (.slice A2 L c2) = w3 at *
  refine bodyPost_ret (v := .agg #[.int .i64 p, .slice A2 L c2]) (by simp [results, Tryz.results24, go_sem, d0, d1]) rfl ?_
  exact ⟨p, A2, L, c2, l, rfl, HL.out, hl, hi3.is, b3⟩
set_option maxHeartbeats 1000000 in
theorem s_DrawTypesOf (A : Option Addr) (n c : Nat) (w : World) (hn : n ≤ 4096) (hs : YB w w.heap.size A n) : Calls Tryz.prog 27 #[.slice A n c] w (fun e w' => ∃ x : Int, -1 ≤ x ∧ x ≤ 7 ∧ e = .returned (.int .i64 x) ∧ Below w.heap.size w w') := by
  have hf := s_l01From A n c w hn hs
  have hd := fun W h => s_nextI w.heap.size 9 (by omega) W h
  clear hn hs
  go_enter Tryz.func27, Tryz.ntmps27
  go_wp2_with (fail)
  refine hf.mono ?_
  rintro e w1 ⟨rfl, hs1, hb1⟩
  go_wp2_with (fail)
  refine (hd _ hs1).mono ?_
  rintro e w2 ⟨k, rfl, hk, hs2, hu2⟩
  have hw : IntKind.i64.wrap ((k : Int) - 1) = (k : Int) - 1 := IntWalk.i64_in _ (by omega)
  go_wp2_with (fail)
  go_ret
  exact ⟨_, by omega, by omega, rfl, hb1.trans ((hu2.mono (B' := w.heap.size) hb1.size).below (Nat.le_refl _))⟩
set_option maxHeartbeats 1000000 in
theorem s_DrawSizeOfType (A : Option Addr) (n c : Nat) (w : World) (hn : n ≤ 4096) (hs : YB w w.heap.size A n) : Calls Tryz.prog 32 #[.slice A n c] w (LCD w) := by
  have hf := s_l01From A n c w hn hs
  have hd := fun W h => s_l25Draw w.heap.size W h
  clear hn hs
  go_enter Tryz.func32, Tryz.ntmps32
  go_wp2_with (fail)
  refine hf.mono ?_
  rintro e w1 ⟨rfl, hs1, hb1⟩
  go_wp2_with (fail)
  refine (hd _ hs1).mono ?_
  rintro e w2 ⟨A2, L, c2, l, rfl, hL, hl, hi, hs2, hu2⟩
  have HL := Lib.hid hL
  clear hL
  go_wp2_with (fail)
  go_ret
  exact ⟨A2, L, c2, l, rfl, HL.out, hl, hi, hb1.trans ((hu2.mono (B' := w.heap.size) hb1.size).below (Nat.le_refl _))⟩
end Go.Proofs.YtglijcdnnaekkaaGreat
/- The law FnShares: for every code. -/
namespace Go.Proofs.YtglijcdnnaekkaaGreat
set_option linter.unusedVariables false
set_option linter.unusedSimpArgs false
open Go.RowKit

theorem fty_x (x : Int) : toC x = 0 → ∃ n : Nat, x = n ∧ 1 ≤ n ∧ n ≤ 6 ∧ FTY n (toT x) ∧ ctV x = ((toT x).length : Int) := fun h => by
  unfold toC at h
  cases hin : inB x 1 6
  · rw [hin] at h; simp at h
  · have hb := inB_true hin
    obtain ⟨n, rfl⟩ : ∃ n : Nat, x = n := ⟨x.toNat, by omega⟩
    obtain ⟨h1, h2⟩ := fty_of (n := n) (by omega) (by omega)
    refine ⟨n, rfl, by omega, by omega, h1, ?_⟩
    unfold ctV
    rw [hin, Int.toNat_natCast, h2]
    rfl
theorem ty_code (t : List Int) : (typeB t = true ∧ sgC t = 0) ∨ (typeB t = false ∧ sgC t = 1) := by
  unfold sgC
  cases typeB t
  · exact .inr ⟨rfl, rfl⟩
  · exact .inl ⟨rfl, rfl⟩
theorem smI_mono {l : List Int} {m : Nat} (h : ∀ k, k < m → 0 ≤ gt l k) : ∀ i, i ≤ m → 0 ≤ smI l i ∧ smI l i ≤ smI l m := by
  have h0 : ∀ i, i ≤ m → 0 ≤ smI l i := fun i => by
    induction i with
    | zero => intro _; exact Int.le_refl _
    | succ i ih => intro hi; have := ih (by omega); have := h i (by omega); rw [smI]; omega
  have h1 : ∀ d i, i + d = m → smI l i ≤ smI l m := fun d => by
    induction d with
    | zero => intro i e; rw [show i = m by omega]; exact Int.le_refl _
    | succ d ih => intro i e; have := ih (i + 1) (by omega); have := h i (by omega); rw [smI] at *; omega
  exact fun i hi => ⟨h0 i hi, h1 (m - i) i (by omega)⟩
theorem II.drewN {w : World} {B : Nat} {A : Option Addr} {ll : List (List Int)} (h : II w B A ll) (n : Nat) : II (w.drewN n) B A ll := h
theorem fsh_c {p : Int} {l : List Int} (h : mvC p l = 0) : FSH l (shT p l) (shKs p l) := by
  refine fsh_of ?_
  unfold mvC at h
  cases hg : grpB p l
  · rw [hg] at h; simp at h
  · rfl
set_option maxRecDepth 20000 in
set_option maxHeartbeats 4000000 in
theorem law_Shares (A : Option Addr) (n c : Nat) (w : World) (hm : n ≤ maxLen) (hs : YB w w.heap.size A n) :
    Calls Tryz.prog 4 #[.slice A n c] w (M (.bool true) w) := by
  unfold maxLen at hm
  by_cases hbig : 4096 < n
  · go_enter Tryz.func4, Tryz.ntmps4
    go_wp2_with (go_at_call 7; refine (l_bigYes A n c _ hbig).mono ?_; rintro e w1 ⟨rfl, q1, rfl⟩)
    go_ret
    exact ⟨rfl, below_drewN (Below.refl _ _) _⟩
  have hn : n ≤ 4096 := by omega
  clear hm hbig
  have hd1 := fun W h => s_DrawSharesOf A n c W hn h
  have hd2 := fun W h => s_DrawTypesOf A n c W hn h
  have hd3 := fun W h => s_DrawSizeOfType A n c W hn h
  go_enter Tryz.func4, Tryz.ntmps4
  go_wp2_with (go_at_call 7; refine (l_bigNo A n c _ hn).mono ?_; rintro e w1 ⟨rfl, q1, rfl⟩)
  have b1 := below_drewN (Below.refl w.heap.size w) q1
  generalize w.drewN q1 = w1 at *
  refine (hd1 _ (hs.call b1)).mono ?_
  rintro e w2 ⟨p, A2, L, c2, l, rfl, hL, hl, IL, hb2⟩
  have b2 := bel_call b1 hb2
  have h1 := fun W h => i_SharesOf p A2 L c2 l W hL (by omega) h
  have h2 := fun W h => s_SharesOf p A2 L c2 l W hL (by omega) h
  unfold SHS at h1 h2
  have hF := Lib.hid (fun h => fsh_c (p := p) (l := l) h)
  have hsm := shT_small p l
  have hkl := shKs_len p l
  generalize shT p l = ts at *
  generalize shKs p l = cs at *
  generalize mvC p l = C0 at *
  generalize hmm : ts.length = m at *
  have HM := Lib.hid hmm.symm
  have HSM := Lib.hid hsm
  have HKL := Lib.hid hkl
  have HL := Lib.hid hL
  clear hmm hsm hkl hL hb2 b1 hd1
  have QB := BK.new w2 26 #[.int .i64 p, .slice A2 L c2]
  have hbx := (Below.refl w2.heap.size w2).alloc (Nat.le_refl _) (.cells #[.int .i64 p, .slice A2 L c2] 26)
  have b3 := bel_call b2 hbx
  clear hbx
  have IL := IL.call (show Below w2.heap.size w2 (w2.alloc (.cells #[.int .i64 p, .slice A2 L c2] 26)) from (Below.refl _ _).alloc (Nat.le_refl _) _)
  obtain ⟨QB0, QB1, _, _⟩ := QB.two
  go_wp2_with (fail)
  generalize w2.alloc (.cells #[.int .i64 p, .slice A2 L c2] 26) = w3 at *
  refine (h1 _ IL).mono ?_
  rintro e w4 ⟨A4, c4, vs4, rfl, o4, r4, hb4⟩
  have b4 := bel_call b3 hb4
  have QB := QB.of_below hb4
  have IL := IL.call hb4
  clear QB0 QB1
  obtain ⟨QB0, QB1, _, _⟩ := QB.two
  go_wp2_with (fail)
  refine (h2 _ IL).mono ?_
  rintro e w5 ⟨A5, c5, vs5, rfl, o5, r5, hb5⟩
  have b5 := bel_call b4 hb5
  have QB := QB.of_below hb5
  have o4 := own_below o4 hb5
  have r4 := RowsO.below r4 hb5
  clear IL
  clear QB0 QB1
  go_wp2_with (fail)
  refine (hd2 _ (hs.call b5)).mono ?_
  rintro e w6 ⟨x, x1, x2, rfl, hb6⟩
  have b6 := bel_call b5 hb6
  have QB := QB.of_below hb6
  have o4 := own_below o4 hb6
  have o5 := own_below o5 hb6
  have r4 := RowsO.below r4 hb6
  have r5 := RowsO.below r5 hb6
  have k1 := fun W => i_TypesOf x W
  have k2 := fun W => s_TypesOf x W
  have k3 := fun W => i_CountTypes x W
  have k4 := fun W => s_CountTypes x W
  unfold RLS at k1
  unfold RLI at k2
  unfold M2 at k3 k4
  have hT := Lib.hid (fty_x x)
  have hts := toT_small x
  generalize toT x = ll at *
  generalize toC x = C1 at *
  generalize ctV x = V3 at *
  generalize ctC x = C3 at *
  generalize hLL : ll.length = LL at *
  have HLL := Lib.hid hLL.symm
  have HTS := Lib.hid hts
  clear hLL hts hd2
  go_wp2_with (fail)
  refine (k1 _).mono ?_
  rintro e w7 ⟨A7, m7, c7, vs7, hm7, rfl, o7, r7, hb7⟩
  have b7 := bel_call b6 hb7
  have QB := QB.of_below hb7
  have o4 := own_below o4 hb7
  have o5 := own_below o5 hb7
  have r4 := RowsO.below r4 hb7
  have r5 := RowsO.below r5 hb7
  obtain rfl : LL = m7 := hm7.symm
  clear hm7
  go_wp2_with (fail)
  refine (k2 _).mono ?_
  rintro e w8 ⟨A8, m8, c8, hm8, rfl, i8, hb8⟩
  have b8 := bel_call b7 hb8
  have QB := QB.of_below hb8
  have o4 := own_below o4 hb8
  have o5 := own_below o5 hb8
  have o7 := own_below o7 hb8
  have r4 := RowsO.below r4 hb8
  have r5 := RowsO.below r5 hb8
  have r7 := RowsO.below r7 hb8
  obtain rfl : LL = m8 := hm8.symm
  clear hm8
  have HL8 := Lib.hid i8
  clear i8
  have i8 := HL8.out
  go_wp2_with (fail)
  refine (k3 _).mono ?_
  rintro e w9 ⟨rfl, hb9⟩
  have b9 := bel_call b8 hb9
  have QB := QB.of_below hb9
  have o4 := own_below o4 hb9
  have o5 := own_below o5 hb9
  have o7 := own_below o7 hb9
  have r4 := RowsO.below r4 hb9
  have r5 := RowsO.below r5 hb9
  have r7 := RowsO.below r7 hb9
  have i8 := i8.below hb9
  go_wp2_with (fail)
  refine (k4 _).mono ?_
  rintro e w10 ⟨rfl, hb10⟩
  have b10 := bel_call b9 hb10
  have QB := QB.of_below hb10
  have o4 := own_below o4 hb10
  have o5 := own_below o5 hb10
  have o7 := own_below o7 hb10
  have r4 := RowsO.below r4 hb10
  have r5 := RowsO.below r5 hb10
  have r7 := RowsO.below r7 hb10
  have i8 := i8.below (hb10.mono hb9.size)
  go_wp2_with (fail)
  refine (hd3 _ (hs.call b10)).mono ?_
  rintro e w11 ⟨A11, L11, c11, t, rfl, hL11, hl11, I11, hb11⟩
  have b11 := bel_call b10 hb11
  have QB := QB.of_below hb11
  have o4 := own_below o4 hb11
  have o5 := own_below o5 hb11
  have o7 := own_below o7 hb11
  have r4 := RowsO.below r4 hb11
  have r5 := RowsO.below r5 hb11
  have r7 := RowsO.below r7 hb11
  have i8 := i8.below (hb11.mono (Nat.le_trans hb9.size hb10.size))
  have HL11 := Lib.hid hL11
  have q1 := fun W h => i_SizeOfType A11 L11 c11 t W w11.heap.size hL11 (by omega) h
  have q2 := fun W h => s_SizeOfType A11 L11 c11 t W w11.heap.size hL11 (by omega) h
  have q3 := fun W h => i_SignOfType A11 L11 c11 t W w11.heap.size hL11 (by omega) h
  have q4 := fun W h => s_SignOfType A11 L11 c11 t W w11.heap.size hL11 (by omega) h
  have q5 := fun W h => i_IsType A11 L11 c11 t W w11.heap.size hL11 (by omega) h
  have hTB := ty_code t
  generalize soV t = V5 at *
  generalize sgV t = V6 at *
  generalize sgC t = C5 at *
  generalize typeB t = TB at *
  clear hL11 hd3 k1 k2 k3 k4 h1 h2
  have ii7 := OwnII.ii o7 r7
  have hz11 := Below.refl w11.heap.size w11
  have lk1 := fun W (h : DR w11 W) => (show Calls Tryz.prog 37 #[.slice A4 m c4, .slice A5 m c5] W (Q (.bool true) W) from by
    obtain ⟨qd, rfl⟩ := h
    exact l_likeShares A4 A5 m c4 c5 _ _ vs4 vs5 cs ts _ HM.out HKL.out (by have := HSM.out.1; omega) HSM.out.2 (own_dr o4 qd) (r4.drewN qd) (own_dr o5 qd) (r5.drewN qd))
  have lk2 := fun W (h : DR w11 W) => (show Calls Tryz.prog 18 #[.slice A7 LL c7, .slice A8 LL c8] W (Q (.bool true) W) from by
    obtain ⟨qd, rfl⟩ := h
    exact l_likeTables A7 A8 LL c7 c8 ll _ _ _ HLL.out (by have := HTS.out.1; omega) (fun k hk => by have := HTS.out.2 k hk; omega) (ii7.drewN qd) (i8.drewN qd))
  have iT := fun W (h : DR w11 W) => (show IS W w11.heap.size A11 t from by
    obtain ⟨qd, rfl⟩ := h
    exact I11.drewN qd)
  have hfz : ∀ z : Int, z = 0 ∨ ((z == 0) = false ∧ (z != 0) = true) := fun z => by
    by_cases h : z = 0
    · exact .inl h
    · exact .inr ⟨by rw [beq_eq_false_iff_ne]; exact h, by rw [bne_iff_ne]; exact h⟩
  have hC0 := hfz C0
  have hC1 := hfz C1
  clear hfz i8
  go_upto_region 16 with (first
    | (go_at_call 33; refine (q1 _ (iT _ (DR.refl _))).mono ?_; rintro e w12 ⟨rfl, q12, rfl⟩)
    | (go_at_call 34; refine (q2 _ (iT _ ⟨_, rfl⟩)).mono ?_; rintro e w13 ⟨rfl, q13, rfl⟩)
    | (go_at_call 35; refine (q3 _ (iT _ ⟨_, rfl⟩)).mono ?_; rintro e w14 ⟨rfl, q14, rfl⟩)
    | (go_at_call 36; refine (q4 _ (iT _ ⟨_, rfl⟩)).mono ?_; rintro e w15 ⟨rfl, q15, rfl⟩))
  go_cut [150] from 94 (fun s wx => s = .bool false ∧ DR w11 wx)
  case first =>
    rcases hTB with ⟨rfl, rfl⟩ | ⟨rfl, rfl⟩
    · go_wp2_with (first
        | (go_at_call 37; refine (lk1 _ ⟨_, rfl⟩).mono ?_; rintro e w16 ⟨rfl, q16, rfl⟩)
        | (go_at_call 18; refine (lk2 _ ⟨_, rfl⟩).mono ?_; rintro e w17 ⟨rfl, q17, rfl⟩)
        | (go_at_call 38; refine (q5 _ (iT _ ⟨_, rfl⟩)).mono ?_; rintro e w18 ⟨rfl, q18, rfl⟩))
      go_meet
      case rel => exact ⟨rfl, _, rfl⟩
    · go_wp2_with (first
        | (go_at_call 37; refine (lk1 _ ⟨_, rfl⟩).mono ?_; rintro e w16 ⟨rfl, q16, rfl⟩)
        | (go_at_call 18; refine (lk2 _ ⟨_, rfl⟩).mono ?_; rintro e w17 ⟨rfl, q17, rfl⟩)
        | (go_at_call 38; refine (q5 _ (iT _ ⟨_, rfl⟩)).mono ?_; rintro e w18 ⟨rfl, q18, rfl⟩))
      go_meet
      case rel => exact ⟨rfl, _, rfl⟩
  case rest =>
    obtain ⟨rfl, hd16⟩ := hcut
    obtain ⟨w16, rfl⟩ : ∃ w16 : World, w16 = wc := ⟨_, rfl⟩
    clear lk1 lk2 q1 q2 q3 q4 q5 iT
    go_upto_if 152 with (fail)
    go_cut [] from 26 (fun wx => DR w11 wx)
    case first =>
      rcases hC1 with rfl | ⟨x3, x4⟩
      · obtain ⟨N, rfl, n1, n6, ⟨hty, hbd, hall⟩, rfl⟩ := hT.out rfl
        rw [← HLL.out] at hty hbd hall
        have HTY := Lib.hid hty
        have HBD := Lib.hid hbd
        have HALL := Lib.hid hall
        have hLb : LL ≤ 12 := HTS.out.1
        have jj7 := fun W (h : DR w11 W) => (show II W w11.heap.size A7 ll from by obtain ⟨qd, rfl⟩ := h; exact ii7.drewN qd)
        clear hty hbd hall
        go_wp2_with (fail)
        go_loopw [26, 28] (fun u26 u28 wr => ∃ i : Nat, i ≤ LL ∧ u26 = .int .i64 (smT soV ll i) ∧ u28 = .int .i64 (i : Int) ∧ DR w11 wr) (fun _ u28 _ => LL - (intOf u28).toNat)
        case atStart => exact ⟨0, Nat.zero_le _, rfl, rfl, hd16⟩
        case round =>
          obtain ⟨ws, rfl⟩ : ∃ ws : World, ws = wr := ⟨_, rfl⟩
          obtain ⟨i, hi, rfl, rfl, hdr⟩ := hrel
          have hsb := smT_bd (f := soV) (ll := ll) (b := 720) (fun k hk => HBD.out k (by rw [HLL.out]; exact hk)) i (by rw [← HLL.out]; exact hi)
          have HS := Lib.hid (show smT soV ll (i + 1) = smT soV ll i + soV (gl ll i) from rfl)
          by_cases hlt : i < LL
          · obtain ⟨b, off, rfl, hbb, hcell⟩ := (jj7 _ hdr).at (k := i) (by rw [← HLL.out]; exact hlt)
            obtain ⟨Ar, cr, h1, _, _, i1⟩ := hcell i (by rw [← HLL.out]; exact hlt)
            have hb1 := HBD.out i hlt
            have hr6 := HTS.out.2 i hlt
            generalize hX : (gl ll i).length = X at *
            have HX := Lib.hid hX.symm
            have hsz := i_SizeOfType Ar X cr (gl ll i) ws w11.heap.size HX.out (by omega) i1
            rw [(soV_szC (HTY.out i hlt)).2] at hsz
            generalize smT soV ll i = s at *
            generalize soV (gl ll i) = y at *
            have hsy : 0 ≤ s + y ∧ s + y ≤ 20000 := by omega
            obtain ⟨z1, z2⟩ := hsy
            have hws : IntKind.i64.wrap (s + y) = s + y := IntWalk.i64_in _ (by omega)
            clear hcell hX i1
            go_wp2_with (go_at_call 33; refine hsz.mono ?_; rintro e w20 ⟨rfl, q20, rfl⟩)
            go_roundw
            case rel => exact ⟨i + 1, by omega, by rw [HS.out], by go_num, by repeat (first | exact hdr | refine DR.step ?_ _)⟩
            case measure => simp [intOf]; omega
          · obtain rfl : i = LL := by omega
            rw [HALL.out]
            clear hsb HS
            obtain ⟨wl, rfl⟩ : ∃ wl : World, wl = ws := ⟨_, rfl⟩
            go_wp2_with (fail)
            go_loopw [27, 31] (fun u27 u31 wr => ∃ j : Nat, 1 ≤ j ∧ j ≤ N ∧ u27 = .int .i64 ((fact j : Nat) : Int) ∧ u31 = .int .i64 ((j + 1 : Nat) : Int) ∧ DR w11 wr) (fun _ u31 _ => N + 2 - (intOf u31).toNat)
            case atStart => exact ⟨1, Nat.le_refl _, n1, rfl, rfl, hdr⟩
            case round =>
              obtain ⟨wz, rfl⟩ : ∃ wz : World, wz = wr := ⟨_, rfl⟩
              obtain ⟨j, hj1, hjN, rfl, rfl, hdj⟩ := hrel
              have HF1 := Lib.hid (show fact (j + 1) = (j + 1) * fact j from rfl)
              by_cases hlt : j < N
              · have hb := (fact_le (k := j + 1) (by omega)).2
                rw [HF1.out] at hb
                have hmul : ((fact j : Nat) : Int) * ((j : Int) + 1) = (((j + 1) * fact j : Nat) : Int) := by rw [Int.natCast_mul, Int.mul_comm]; rfl
                have hwm : IntKind.i64.wrap (((fact j : Nat) : Int) * ((j : Int) + 1)) = (((j + 1) * fact j : Nat) : Int) := by rw [hmul]; exact IntWalk.i64_in _ (by omega)
                rw [← HF1.out] at hwm
                have hjj : (((j + 1 : Nat)) : Int) = (j : Int) + 1 := by omega
                rw [hjj]
                clear hmul hjj hb
                generalize fact j = f at *
                generalize hf2 : fact (j + 1) = f2 at *
                have HF2 := Lib.hid hf2
                clear hf2
                go_wp2_with (fail)
                go_roundw
                case rel => exact ⟨j + 1, by omega, by omega, by rw [HF2.out], by go_num, hdj⟩
                case measure => simp [intOf]; omega
              · obtain rfl : j = N := by omega
                generalize fact j = f at *
                go_wp2_with (fail)
                go_meet
                case rel => exact hdj
      · go_wp2_with (fail)
        go_meet
        case rel => exact hd16
    case rest =>
      obtain ⟨w17, rfl⟩ : ∃ w17 : World, w17 = wc := ⟨_, rfl⟩
      have hd17 := hcut
      rcases hC0 with rfl | ⟨x5, x6⟩
      · obtain ⟨hty, hc1, hall⟩ := hF.out rfl
        rw [← HM.out] at hty hc1 hall
        have HTY := Lib.hid hty
        have HC1 := Lib.hid hc1
        have HALL := Lib.hid hall
        have hL1 := HL.out
        have HMO := Lib.hid (smI_mono (l := cs) (m := m) (fun k hk => by have := hc1 k hk; omega))
        have hmb := HSM.out.1
        clear hty hc1 hall hL1 hF hT hTB hC1
        go_wp2_with (fail)
        go_loopw [32, 33] (fun u32 u33 wr => ∃ i : Nat, i ≤ m ∧ u32 = .int .i64 (smI cs i) ∧ u33 = .int .i64 (i : Int) ∧ DR w11 wr) (fun _ u33 _ => m - (intOf u33).toNat)
        case atStart => exact ⟨0, Nat.zero_le _, rfl, rfl, hd17⟩
        case round =>
          obtain ⟨ws, rfl⟩ : ∃ ws : World, ws = wr := ⟨_, rfl⟩
          obtain ⟨i, hi, rfl, rfl, hdr⟩ := hrel
          have hmo := HMO.out i hi
          rw [HALL.out, ← HL.out] at hmo
          have HS := Lib.hid (show smI cs (i + 1) = smI cs i + gt cs i from rfl)
          by_cases hlt : i < m
          · have ow : ws.ownsRow w3.heap.size 59 2 (.slice A4 m c4) m (shC vs4 cs) := by obtain ⟨q, rfl⟩ := hdr; exact own_dr o4 q
            have rw1 : RowsO ws w3.heap.size vs4 ts := by obtain ⟨q, rfl⟩ := hdr; exact r4.drewN q
            obtain ⟨g, rfl, _⟩ := own_src ow (by omega)
            obtain ⟨Ah, ch, e1, e2, _, ih⟩ := sh_cell ow rw1 HM.out HKL.out hlt
            have hc := HC1.out i hlt
            have hsv := soV_bd (HTY.out i hlt)
            have hr6 := HSM.out.2 i hlt
            generalize hX : (gl ts i).length = X at *
            have HX := Lib.hid hX.symm
            have hsz := i_SizeOfType Ah X ch (gl ts i) ws ws.heap.size HX.out (by omega) ih
            rw [(soV_szC (HTY.out i hlt)).2] at hsz
            generalize smI cs i = s at *
            generalize gt cs i = y at *
            generalize soV (gl ts i) = v at *
            obtain ⟨z1, z2⟩ := hc
            obtain ⟨z3, z4⟩ := hsv
            obtain ⟨z5, z6⟩ := hmo
            have hws : IntKind.i64.wrap (s + y) = s + y := IntWalk.i64_in _ (by omega)
            have hy1 : ¬ y < 1 := by omega
            have hy2 : ¬ v < y := by omega
            clear hX ih ow rw1
            go_wp2_with (go_at_call 33; refine hsz.mono ?_; rintro e w20 ⟨rfl, q20, rfl⟩)
            go_roundw
            case rel => exact ⟨i + 1, by omega, by rw [HS.out], by go_num, by repeat (first | exact hdr | refine DR.step ?_ _)⟩
            case measure => simp [intOf]; omega
          · obtain rfl : i = m := by omega
            rw [HALL.out, ← HL.out]
            have hbz : Below w11.heap.size w11 ws := by obtain ⟨qd, rfl⟩ := hdr; exact below_drewN (Below.refl _ _) qd
            obtain ⟨QB0, QB1, _, _⟩ := (QB.of_below hbz).two
            go_wp2_with (fail)
            go_ret
            exact ⟨by simp, bel_call b11 hbz⟩
      · go_wp2_with (fail)
        go_ret
        have hbz : Below w11.heap.size w11 w17 := by obtain ⟨qd, rfl⟩ := hd17; exact below_drewN (Below.refl _ _) qd
        exact ⟨rfl, bel_call b11 hbz⟩
end Go.Proofs.YtglijcdnnaekkaaGreat
