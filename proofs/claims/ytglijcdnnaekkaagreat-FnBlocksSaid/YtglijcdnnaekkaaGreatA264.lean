/- Several parts of the proof in one text; each part says what it shows. Nothing is assumed. -/
import Derived.Test.YtglijcdnnaekkaaGreatA259
import Derived.Test.YtglijcdnnaekkaaGreatA254
import Derived.Test.YtglijcdnnaekkaaGreatA247
/- FnBlocks: what the law asks of blocks, in plain terms. -/
namespace Go.Proofs.YtglijcdnnaekkaaGreat
set_option linter.unusedVariables false
set_option linter.unusedSimpArgs false
open Go.RowKit

theorem img_same {n : Nat} {ms : List (List Int)} (hG : PG n ms) {B : List Nat} (hr : B.Pairwise (· < ·)) (hn : ∀ x ∈ B, x < n) (hB : BlkP ms B) {a b : List Int} (ha : a ∈ ms) (hb : b ∈ ms) {z : Int} (h1 : z ∈ imgL a (tJ B)) (h2 : z ∈ imgL b (tJ B)) : imgL a (tJ B) = imgL b (tJ B) := by
  have key : ∀ a ∈ ms, ∀ b ∈ ms, z ∈ imgL a (tJ B) → z ∈ imgL b (tJ B) → ∀ x, x ∈ imgL a (tJ B) → x ∈ imgL b (tJ B) := by
    intro a ha b hb hm1 hm2 x hx
    obtain ⟨y1, hy1, f1⟩ := img_mem.1 hm1
    obtain ⟨y2, hy2, f2⟩ := img_mem.1 hm2
    obtain ⟨p1, hp1, rfl⟩ := mem_tJ.1 hy1
    obtain ⟨p2, hp2, rfl⟩ := mem_tJ.1 hy2
    obtain ⟨y3, hy3, f3⟩ := img_mem.1 hx
    obtain ⟨p3, hp3, rfl⟩ := mem_tJ.1 hy3
    rw [Int.toNat_natCast] at f1 f2 f3
    obtain ⟨b', hb', hi⟩ := hG.inv b hb
    obtain ⟨c, hc, hcm⟩ := hG.mul b' hb' a ha
    have e1 : ap a p1 = ap b p2 := by unfold ap; rw [f1, f2]
    have hcp : ap c p1 = p2 := by rw [hcm p1 (hn p1 hp1), e1, (hi p2 (hn p2 hp2)).1]
    have hc3 := hB c hc ⟨p1, hp1, by rw [hcp]; exact hp2⟩ p3 hp3
    refine img_mem.2 ⟨((ap c p3 : Nat) : Int), mem_tJ.2 ⟨_, hc3, rfl⟩, ?_⟩
    rw [Int.toNat_natCast, (ap_gt (hG.inr b hb) (hn _ hc3)).1, hcm p3 (hn p3 hp3), (hi _ (hG.lt ha (hn p3 hp3))).2, ← (ap_gt (hG.inr a ha) (hn p3 hp3)).1, f3]
  exact rise_eq (img_rise hG ha hr hn) (img_rise hG hb hr hn) fun x => ⟨key a ha b hb h1 h2 x, key b hb a ha h2 h1 x⟩
theorem flat_len {k : Nat} : ∀ {L : List (List Int)}, (∀ r ∈ L, r.length = k) → L.flatten.length = L.length * k
  | [], _ => by simp
  | r :: L, h => by
    rw [List.flatten_cons, List.length_append, flat_len (L := L) (fun r hr => h r (by simp [hr])), h r (by simp), List.length_cons, Nat.succ_mul]
    omega
theorem bk_count {n : Nat} {l : List Int} (hG : PG n (memL n l)) (ht : ∀ j, j < n → ∃ a ∈ memL n l, ap a 0 = j) {B : List Nat} (hr : B.Pairwise (· < ·)) (hn : ∀ x ∈ B, x < n) (hB : BlkP (memL n l) B) (h0 : 0 ∈ B) {out : List (List Int)} (ho : bkO n l (tJ B) out) : out.length * B.length = n := by
  have hlen : ∀ r ∈ out, r.length = B.length := fun r hr => by
    obtain ⟨a, _, rfl⟩ := (ho.2 r).1 hr
    rw [img_len, tJ_len]
  rw [← flat_len hlen]
  have hnd : out.flatten.Nodup := by
    unfold List.Nodup
    rw [List.pairwise_flatten]
    refine ⟨fun r hr' => ?_, ho.1.imp_of_mem fun {a b} ha hb h x hx y hy e => ?_⟩
    · obtain ⟨a, ha, rfl⟩ := (ho.2 r).1 hr'
      exact (img_rise hG ha hr hn).imp fun h => by omega
    · subst e
      obtain ⟨a', ha', rfl⟩ := (ho.2 a).1 ha
      obtain ⟨b', hb', rfl⟩ := (ho.2 b).1 hb
      rw [img_same hG hr hn hB ha' hb' hx hy, lexC_self] at h
      omega
  have htn : (tJ (List.range n)).Nodup := (tJ_rise List.pairwise_lt_range).imp fun h => by omega
  have hl : (tJ (List.range n)).length = n := by rw [tJ_len, List.length_range]
  refine Nat.le_antisymm ?_ ?_
  · refine Nat.le_trans (nodup_sub_len hnd (T := tJ (List.range n)) fun x hx => ?_) (Nat.le_of_eq hl)
    obtain ⟨r, hr', hx⟩ := List.mem_flatten.1 hx
    obtain ⟨a, ha, rfl⟩ := (ho.2 r).1 hr'
    obtain ⟨y, hy, rfl⟩ := img_mem.1 hx
    obtain ⟨q, hq, rfl⟩ := mem_tJ.1 hy
    rw [Int.toNat_natCast, (ap_gt (hG.inr a ha) (hn q hq)).1]
    exact mem_tJ'.2 (List.mem_range.2 (hG.lt ha (hn q hq)))
  · refine Nat.le_trans (Nat.le_of_eq hl.symm) (nodup_sub_len htn fun x hx => ?_)
    obtain ⟨j, hj, rfl⟩ := mem_tJ.1 hx
    obtain ⟨a, ha, e⟩ := ht j (List.mem_range.1 hj)
    refine List.mem_flatten.2 ⟨imgL a (tJ B), (ho.2 _).2 ⟨a, ha, rfl⟩, img_mem.2 ⟨((0 : Nat) : Int), mem_tJ'.2 h0, ?_⟩⟩
    rw [Int.toNat_natCast, (ap_gt (hG.inr a ha) (hn 0 h0)).1, e]
theorem gt_zero_mem {B : List Nat} (h : 0 < B.length) (h0 : gt (tJ B) 0 = 0) : 0 ∈ B := by
  have hm := gt_mem (xs := tJ B) (k := 0) (by rw [tJ_len]; exact h)
  rw [h0] at hm
  exact (mem_tJ' (k := 0)).1 hm
/-- What the law asks of a list of blocks. -/
structure FBK (n k : Nat) (l : List Int) (ll : List (List Int)) : Prop where
  n1 : 1 ≤ n
  n6 : n ≤ 6
  k1 : 1 ≤ k
  row : ∀ j, j < ll.length → (gl ll j).length = k
  all : ll.length * k = n
  inr : ∀ i t, i < ll.length → t < k → 0 ≤ gt (gl ll i) t ∧ gt (gl ll i) t < (n : Int)
  img : ∀ r, r < l.length → ∀ i, i < ll.length → ∃ j, j < ll.length ∧ ∀ t, t < k → gt (wrL n (gt l r).toNat) (gt (gl ll i) t).toNat ∈ gl ll j
  rk : ∀ r, r < l.length → ∃ q : Nat, gt l r = q ∧ q < fact n
theorem fbk_of {p s : Int} {l : List Int} {ll : List (List Int)} (h : BSP p l s ll 0) : ∃ n k : Nat, p = n ∧ s = k ∧ FBK n k l ll ∧ 0 < l.length := by
  rcases h with ⟨_, _, e⟩ | ⟨n, rfl, hg, h⟩
  · omega
  · rcases h with ⟨_, _, e⟩ | ⟨k, rfl, k1, k2, k3, h⟩
    · omega
    · rcases h with ⟨_, _, e⟩ | ⟨ht, h⟩
      · omega
      · rcases h with ⟨_, _, e⟩ | ⟨pts, hb, ho, _⟩
        · omega
        · obtain ⟨n', e, h1, h2, h3, h4, hk⟩ := grpB_t hg
          obtain rfl : n' = n := by omega
          obtain ⟨B, rfl, b1, b2, b3, b4, b5⟩ := bkF_some hb
          have hG := pg_of hg
          have hB := (blk_iff hG b2 b3).1 b5
          have hta := orL_all h1 hk ht
          have h0 := gt_zero_mem (by omega) b4
          have hrow : ∀ j, j < ll.length → ∃ a ∈ memL n' l, imgL a (tJ B) = gl ll j := fun j hj => (ho.2 _).1 (gl_mem hj)
          refine ⟨n', k, rfl, rfl, ⟨h1, h2, k1, fun j hj => ?_, ?_, fun i t hi ht => ?_, fun r hr i hi => ?_, fun r hr => ?_⟩, by omega⟩
          · obtain ⟨a, _, e⟩ := hrow j hj
            rw [← e, img_len, tJ_len]; exact b1
          · rw [← b1]; exact bk_count hG hta b2 b3 hB h0 ho
          · obtain ⟨a, ha, e⟩ := hrow i hi
            have hm := gt_mem (xs := gl ll i) (k := t) (by rw [← e, img_len, tJ_len]; omega)
            have hm' : gt (gl ll i) t ∈ imgL a (tJ B) := by rw [e]; exact hm
            obtain ⟨y, hy, f⟩ := img_mem.1 hm'
            obtain ⟨q, hq, rfl⟩ := mem_tJ.1 hy
            rw [← f, Int.toNat_natCast]
            exact (hG.inr a ha).2 q (b3 q hq)
          · obtain ⟨a, ha, e⟩ := hrow i hi
            have hwr : wrL n' (gt l r).toNat ∈ memL n' l := mem_memL.2 ⟨gt l r, gt_mem hr, rfl⟩
            obtain ⟨c, hc, hm⟩ := hG.mul _ hwr a ha
            obtain ⟨j, hj, ej⟩ := mem_gl.1 ((ho.2 (imgL c (tJ B))).2 ⟨c, hc, rfl⟩)
            refine ⟨j, hj, fun t ht => ?_⟩
            rw [ej]
            have hm1 := gt_mem (xs := gl ll i) (k := t) (by rw [← e, img_len, tJ_len]; omega)
            have hm2 : gt (gl ll i) t ∈ imgL a (tJ B) := by rw [e]; exact hm1
            obtain ⟨y, hy, f⟩ := img_mem.1 hm2
            obtain ⟨q, hq, rfl⟩ := mem_tJ.1 hy
            refine img_mem.2 ⟨(q : Int), mem_tJ'.2 hq, ?_⟩
            rw [← f, Int.toNat_natCast, (ap_gt (hG.inr c hc) (b3 q hq)).1, hm q (b3 q hq), ← (ap_gt (hG.inr _ hwr) (hG.lt ha (b3 q hq))).1]
            rfl
          · have := hk r hr
            exact ⟨(gt l r).toNat, by omega, by omega⟩
/-- What the law asks of a block with two points. -/
theorem bw_facts {q x y : Int} {m out : List Int} (h : BWP q m x y out 0) : ∃ n : Nat, q = n ∧ 1 ≤ n ∧ n ≤ 6 ∧ x ∈ out ∧ y ∈ out ∧ 0 < out.length ∧ out.length ≤ 6 ∧ n % out.length = 0 ∧ (x ≠ y → prV q m = true → out.length = n) := by
  rcases h with ⟨e, _, e'⟩ | ⟨_, _, _, _, _, _, e⟩ | ⟨n, x', y', c, rfl, rfl, rfl, hx, hy, hg, _, ht, hc, hc2, hxy, rfl, _⟩
  · exact absurd e'.symm e
  · omega
  · obtain ⟨n', e, h1, h2, h3, h4, hk⟩ := grpB_t hg
    obtain rfl : n' = n := by omega
    have hG := pg_of hg
    have hta := orL_all h1 hk ht
    have hmx : x' ∈ clsN n' c x' := mem_cls.2 ⟨hx, rfl⟩
    have hmy : y' ∈ clsN n' c x' := mem_cls.2 ⟨hy, hxy.symm⟩
    have hsz := cls_size hG hta hc hc2 hx
    have hdv := cls_div hG hta hc hc2
    have hle : (clsN n' c x').length ≤ n' := by
      have := List.length_filter_le (fun p => ap c p == ap c x') (List.range n')
      rwa [List.length_range] at this
    refine ⟨n', rfl, h1, h2, mem_tJ'.2 hmx, mem_tJ'.2 hmy, ?_, ?_, ?_, fun hne hp => ?_⟩
    · rw [tJ_len]; exact List.length_pos_of_mem hmx
    · rw [tJ_len]; omega
    · rw [tJ_len, hsz]; exact hdv
    · rw [tJ_len]
      by_cases hn : (clsN n' c x').length = n'
      · exact hn
      · exfalso
        have hpp := (prV_yes hg).1
        rw [hp] at hpp
        have hpr : prB n' m = true := by
          cases hq : prB n' m
          · rw [hq] at hpp; simp at hpp
          · rfl
        have hblk := cls_blk hG hc hc2 0
        have hr0 := cls_rise n' c 0
        have hn0 : ∀ z ∈ clsN n' c 0, z < n' := fun z hz => (mem_cls.1 hz).1
        have h00 : 0 ∈ clsN n' c 0 := mem_cls.2 ⟨by omega, rfl⟩
        have h2 : 2 ≤ (clsN n' c x').length := by
          have hnd : ([x', y'] : List Nat).Nodup := by simp; omega
          have hs : ∀ z ∈ ([x', y'] : List Nat), z ∈ clsN n' c x' := fun z hz => by
            simp at hz
            rcases hz with rfl | rfl
            · exact hmx
            · exact hmy
          have hnd2 : (tJ [x', y']).Nodup := by simp [tJ]; omega
          have := nodup_sub_len hnd2 (T := tJ (clsN n' c x')) (fun z hz => by
            obtain ⟨k, hk, rfl⟩ := mem_tJ.1 hz
            exact mem_tJ'.2 (hs k hk))
          rw [tJ_len, tJ_len] at this
          exact this
        have hno : bkF n' m (clsN n' c 0).length ≠ none := fun hn' => bkF_none hn' rfl hr0 hn0 (first0 hr0 h00) ((blk_iff hG hr0 hn0).2 hblk)
        have := prB_no (l := m) (by omega) (by omega : (clsN n' c 0).length < n') hdv hno
        rw [hpr] at this
        cases this
/-- Is a group transitive, as both sides answer. -/
def tvV (p : Int) (l : List Int) : Bool := grpB p l && decide ((orL p.toNat l 0).length = p.toNat)
theorem tvV_no {p : Int} {l : List Int} (h : grpB p l = false) : tvV p l = false := by
  unfold tvV; rw [h]; rfl
theorem tvV_yes {n : Nat} {l : List Int} (h : grpB n l = true) : tvV n l = decide ((orL n l 0).length = n) := by
  unfold tvV; rw [h, Int.toNat_natCast, Bool.true_and]
theorem prV_tv {p : Int} {l : List Int} (h : prV p l = true) : tvV p l = true := by
  unfold prV at h
  unfold tvV
  rw [Bool.and_eq_true] at h
  rw [Bool.and_eq_true] at h
  rw [Bool.and_eq_true]
  exact ⟨h.1, h.2.1⟩
theorem mvL_ok2 {p a b : Int} {l : List Int} (h : mvL p l [a, b] = 0) : ∃ n x y : Nat, p = n ∧ a = x ∧ b = y ∧ x < n ∧ y < n ∧ grpB n l = true := by
  cases hg : grpB p l
  · rw [mvL_no hg] at h; omega
  · obtain ⟨n, rfl, _⟩ := grpB_t hg
    rw [mvL_two hg] at h
    cases h1 : inB a 0 ((n : Int) - 1)
    · rw [h1] at h; simp at h
    · cases h2 : inB b 0 ((n : Int) - 1)
      · rw [h1, h2] at h; simp at h
      · have h1 := inB_true h1
        have h2 := inB_true h2
        exact ⟨n, a.toNat, b.toNat, rfl, by omega, by omega, by omega, by omega, hg⟩
theorem cls_ex {n : Nat} {ms : List (List Int)} (hG : PG n ms) (ht : ∀ j, j < n → ∃ a ∈ ms, ap a 0 = j) {x y : Nat} (hx : x < n) (hy : y < n) : ∃ c, Cls n ms [x, y] c ∧ Cong n ms c ∧ ap c x = ap c y := by
  have main : ∀ (N : Nat) (c : List Int), smL c n ≤ N → Cls n ms [x, y] c → ap c x = ap c y → ∃ c, Cls n ms [x, y] c ∧ Cong n ms c ∧ ap c x = ap c y := by
    intro N
    induction N with
    | zero =>
      intro c hN hc hxy
      refine ⟨c, hc, fun a ha p hp => ?_, hxy⟩
      have hq := hc.lt hp
      have h1 := hc.join hG ht (hG.lt ha hp) (hG.lt ha hq) (fun B hB hpt => rel_map hG ha hp hq (hc.low B hB hpt p hp))
      by_cases e : joinL c (ap a p) (ap a (ap c p)) = c
      · exact join_fix hc (hG.lt ha hp) (hG.lt ha hq) e
      · have := sm_lt h1.inr hc.inr (fun q hq' => join_le hc.inr (hG.lt ha hp) (hG.lt ha hq) hq') e
        omega
    | succ N ih =>
      intro c hN hc hxy
      by_cases hcg : Cong n ms c
      · exact ⟨c, hc, hcg, hxy⟩
      · have : ∃ a ∈ ms, ∃ p, p < n ∧ ap c (ap a p) ≠ ap c (ap a (ap c p)) := by
          refine Classical.byContradiction fun hno => hcg fun a ha p hp => ?_
          exact Classical.byContradiction fun hne => hno ⟨a, ha, p, hp, hne⟩
        obtain ⟨a, ha, p, hp, hne⟩ := this
        have hq := hc.lt hp
        have h1 := hc.join hG ht (hG.lt ha hp) (hG.lt ha hq) (fun B hB hpt => rel_map hG ha hp hq (hc.low B hB hpt p hp))
        refine ih (joinL c (ap a p) (ap a (ap c p))) ?_ h1 (join_tog hc.inr (hG.lt ha hp) (hG.lt ha hq) hx hy hxy)
        have := sm_lt h1.inr hc.inr (fun q hq' => join_le hc.inr (hG.lt ha hp) (hG.lt ha hq) hq') (fun e => hne (join_fix hc (hG.lt ha hp) (hG.lt ha hq) e))
        omega
  have h0 := Cls.start n (pts := [x, y]) (x0 := x) hG ht (by simp) hx
  have h1 := h0.join hG ht hx hy (fun B hB hpt => by
    obtain ⟨g, hg, hge⟩ := hG.one
    exact ⟨g, hg, by rw [hge x hx]; exact hpt x (by simp), by rw [hge y hy]; exact hpt y (by simp)⟩)
  exact main _ _ (Nat.le_refl _) h1 (join_ab h0.inr hx hy)
theorem bwp_sm {p : Int} {l : List Int} {a b : Int} {out : List Int} {code : Int} (h : BWP p l a b out code) : out.length ≤ 6 := by
  rcases h with ⟨_, rfl, _⟩ | ⟨n, _, _, _, _, rfl, _⟩ | ⟨n, x, y, c, rfl, _, _, _, _, hg, _, _, _, _, _, rfl, _⟩
  · simp
  · simp
  · obtain ⟨n', e, h1, h2, _⟩ := grpB_t hg
    rw [tJ_len]
    unfold clsN
    refine Nat.le_trans (List.length_filter_le _ _) ?_
    simp; omega
theorem bwp_ex (q x y : Int) (m : List Int) : ∃ out code, BWP q m x y out code ∧ out.length ≤ 6 := by
  by_cases h0 : mvL q m [x, y] = 0
  · obtain ⟨n, a, b, rfl, rfl, rfl, ha, hb, hg⟩ := mvL_ok2 h0
    obtain ⟨n', e, h1, h2, h3, h4, hk⟩ := grpB_t hg
    obtain rfl : n' = n := by omega
    by_cases ht : (orL n' m 0).length = n'
    · have hG := pg_of hg
      have hta := orL_all h1 hk ht
      obtain ⟨c, hc, hc2, hxy⟩ := cls_ex hG hta ha hb
      have h : BWP n' m a b (tJ (clsN n' c a)) 0 := .inr (.inr ⟨n', a, b, c, rfl, rfl, rfl, ha, hb, hg, h0, ht, hc, hc2, hxy, rfl, rfl⟩)
      exact ⟨_, _, h, bwp_sm h⟩
    · exact ⟨[], 5, .inr (.inl ⟨n', rfl, hg, h0, ht, rfl, rfl⟩), by simp⟩
  · exact ⟨[], mvL q m [x, y], .inl ⟨h0, rfl, rfl⟩, by simp⟩
theorem bwp_unique {q x y : Int} {m : List Int} {o1 o2 : List Int} {c1 c2 : Int} (h1 : BWP q m x y o1 c1) (h2 : BWP q m x y o2 c2) : o1 = o2 ∧ c1 = c2 := by
  rcases h1 with ⟨n1, rfl, rfl⟩ | ⟨n, rfl, hg, z1, t1, rfl, rfl⟩ | ⟨n, a, b, c, rfl, rfl, rfl, ha, hb, hg, z1, t1, hc, hcg, hxy, rfl, rfl⟩
  · rcases h2 with ⟨n2, rfl, rfl⟩ | ⟨_, _, _, z2, _⟩ | ⟨_, _, _, _, _, _, _, _, _, _, z2, _⟩
    · exact ⟨rfl, rfl⟩
    · exact absurd z2 n1
    · exact absurd z2 n1
  · rcases h2 with ⟨n2, _, _⟩ | ⟨_, _, _, z2, _, rfl, rfl⟩ | ⟨n', _, _, _, e, _, _, _, _, _, z2, t2, _⟩
    · exact absurd z1 n2
    · exact ⟨rfl, rfl⟩
    · obtain rfl : n = n' := by omega
      exact absurd t2 t1
  · rcases h2 with ⟨n2, _, _⟩ | ⟨n', e, _, _, t2, _⟩ | ⟨n', a', b', c', e, ea, eb, ha', hb', _, _, _, hc', hcg', hxy', rfl, rfl⟩
    · exact absurd z1 n2
    · obtain rfl : n = n' := by omega
      exact absurd t1 t2
    · obtain rfl : n = n' := by omega
      obtain rfl : a = a' := by omega
      obtain rfl : b = b' := by omega
      refine ⟨?_, rfl⟩
      have hG := pg_of hg
      have hin : ∀ (c : List Int), Cls n (memL n m) [a, b] c → ap c a = ap c b → ∀ z ∈ [a, b], z ∈ clsN n c a := fun c hc hxy z hz => by
        simp at hz
        rcases hz with rfl | rfl
        · exact mem_cls.2 ⟨ha, rfl⟩
        · exact mem_cls.2 ⟨hb, hxy.symm⟩
      congr 1
      exact natrise_eq (cls_rise n c a) (cls_rise n c' a) fun z => ⟨cls_low hG hc ha (cls_blk hG hc' hcg' a) (mem_cls.2 ⟨ha, rfl⟩) (hin c' hc' hxy') z, cls_low hG hc' ha (cls_blk hG hc hcg a) (mem_cls.2 ⟨ha, rfl⟩) (hin c hc hxy) z⟩
end Go.Proofs.YtglijcdnnaekkaaGreat
/- FnBlocks: draws of groups with a size or with points; is a group transitive; does a list have a number. -/
namespace Go.Proofs.YtglijcdnnaekkaaGreat
set_option linter.unusedVariables false
set_option linter.unusedSimpArgs false
open Go.RowKit

set_option maxHeartbeats 1000000 in
theorem l_hasIntB (A : Option Addr) (n c : Nat) (x : Int) (l : List Int) (w : World) (B : Nat) (hn : n = l.length) (hl : n ≤ 1048576) (hs : IS w B A l) :
    Calls Tryz.prog 20 #[.slice A n c, .int .i64 x] w (Q (.bool (decide (x ∈ l))) w) := by
  by_cases hx : x ∈ l
  · rw [decide_eq_true hx]
    exact l_hasInt A n c x l w B hn hl hx hs
  rw [decide_eq_false hx]
  have hne : ∀ k, k < n → (gt l k == x) = false := fun k hk => by
    rw [beq_eq_false_iff_ne]
    intro e
    exact hx (e ▸ gt_mem (by omega))
  have HN := Lib.hid hn
  have HE := Lib.hid hne
  clear hn hne hx
  go_enter Tryz.func20, Tryz.ntmps20
  go_wp2_with (fail)
  go_loopw [5] (fun u wr => ∃ k : Nat, k ≤ n ∧ u = .int .i64 k ∧ DR w wr) (fun u _ => n - (intOf u).toNat)
  case atStart => exact ⟨0, Nat.zero_le _, rfl, DR.refl _⟩
  case round =>
    obtain ⟨k, hk, rfl, hdr⟩ := hrel
    by_cases hlt : k < n
    · obtain ⟨b, off, rfl, hbb, hcell⟩ := hs.at (k := k) (by rw [← HN.out]; exact hlt)
      have e1 := (hdr.cell _).trans (hcell k (by rw [← HN.out]; exact hlt))
      have ht := HE.out k hlt
      clear hcell
      generalize gt l k = y at *
      go_wp2_with (go_quiet (fail))
      go_roundw
      case rel => exact ⟨k + 1, by omega, by go_num, by repeat (first | exact hdr | refine DR.step ?_ _)⟩
      case measure => simp [intOf]; omega
    · obtain rfl : k = n := by omega
      go_wp2_with (fail)
      go_ret
      exact ⟨rfl, hdr⟩
set_option maxHeartbeats 1000000 in
theorem i_IsTransitiveV (p : Int) (A : Option Addr) (L c : Nat) (l : List Int) (w : World) (hL : L = l.length) (hl : L ≤ 1048576) (hs : IS w w.heap.size A l) :
    Calls Tryz.prog 14 #[.agg #[.int .i64 p, .slice A L c]] w (M (.tuple #[.bool (tvV p l), .int .i64 (mvC p l)]) w) := by
  have B0 := BK.new w 26 #[.int .i64 p, .slice A L c]
  obtain ⟨c0, c1, _, _⟩ := B0.two
  have hb0 := (Below.refl w.heap.size w).alloc (Nat.le_refl _) (.cells #[.int .i64 p, .slice A L c] 26)
  have hs0 := hs.call hb0
  have hB0 := fun W (h : Below (w.alloc (.cells #[.int .i64 p, .slice A L c] 26)).heap.size (w.alloc (.cells #[.int .i64 p, .slice A L c] 26)) W) => (B0.below h (by simp)).two
  have hmv := i_moved0 p A L c l _ hL hl hs0
  cases hg : grpB p l
  · have v1 := tvV_no hg
    have v2 := (prV_no hg).2
    rw [v2] at hmv
    rw [v1, v2]
    clear hg v1 v2 hL hs hs0 B0 hB0
    go_enter Tryz.func14, Tryz.ntmps14
    go_wp2_with (go_at_call 70; refine hmv.mono ?_; rintro e w2 ⟨rfl, hb2⟩)
    go_ret2
    exact ⟨rfl, bel_call hb0 hb2⟩
  · obtain ⟨n, rfl, h1, h2, h3, h4, hk⟩ := grpB_t hg
    have v1 := tvV_yes hg
    have v2 := (prV_yes hg).2
    rw [v2] at hmv
    rw [v1, v2]
    have htr := fun W h => i_trans n A L c l W h1 h2 hL (by omega) (by omega) hk h
    generalize decide ((orL n l 0).length = n) = tr at *
    clear hg v1 v2 hL hs B0 hk h3 h4
    go_enter Tryz.func14, Tryz.ntmps14
    go_wp2_with (first
      | (go_at_call 70; refine hmv.mono ?_; rintro e w2 ⟨rfl, hb2⟩; obtain ⟨d0, d1, _, _⟩ := hB0 _ hb2)
      | (go_at_call 61; refine (htr _ (hs0.call hb2)).mono ?_; rintro e w3 ⟨rfl, hb3⟩))
    go_ret2
    exact ⟨rfl, bel_call (bel_call hb0 hb2) hb3⟩
set_option maxHeartbeats 1000000 in
theorem s_IsTransitiveV (p : Int) (A : Option Addr) (L c : Nat) (l : List Int) (w : World) (hL : L = l.length) (hl : L ≤ 1048576) (hs : IS w w.heap.size A l) :
    Calls Tryz.prog 15 #[.agg #[.int .i64 p, .slice A L c]] w (M (.tuple #[.bool (tvV p l), .int .i64 (mvC p l)]) w) := by
  have B0 := BK.new w 26 #[.int .i64 p, .slice A L c]
  obtain ⟨c0, c1, _, _⟩ := B0.two
  have hb0 := (Below.refl w.heap.size w).alloc (Nat.le_refl _) (.cells #[.int .i64 p, .slice A L c] 26)
  have hs0 := hs.call hb0
  have hB0 := fun W (h : Below (w.alloc (.cells #[.int .i64 p, .slice A L c] 26)).heap.size (w.alloc (.cells #[.int .i64 p, .slice A L c] 26)) W) => (B0.below h (by simp)).two
  have hmv := s_IsGroup p A L c l _ hL hl hs0
  cases hg : grpB p l
  · have v1 := tvV_no hg
    have v2 := (prV_no hg).2
    rw [hg] at hmv
    rw [v1, v2]
    clear hg v1 v2 hL hs hs0 B0 hB0
    go_enter Tryz.func15, Tryz.ntmps15
    go_wp2_with (go_at_call 63; refine hmv.mono ?_; rintro e w2 ⟨rfl, hb2⟩)
    go_ret2
    exact ⟨rfl, bel_call hb0 hb2⟩
  · obtain ⟨n, rfl, h1, h2, h3, h4, hk⟩ := grpB_t hg
    have v1 := tvV_yes hg
    have v2 := (prV_yes hg).2
    rw [hg] at hmv
    rw [v1, v2]
    have htr := fun W h => s_trans n A L c l W h1 h2 hL (by omega) (by omega) hk h
    generalize decide ((orL n l 0).length = n) = tr at *
    clear hg v1 v2 hL hs B0 hk h3 h4
    go_enter Tryz.func15, Tryz.ntmps15
    go_wp2_with (first
      | (go_at_call 63; refine hmv.mono ?_; rintro e w2 ⟨rfl, hb2⟩; obtain ⟨d0, d1, _, _⟩ := hB0 _ hb2)
      | (go_at_call 65; refine (htr _ (hs0.call hb2)).mono ?_; rintro e w3 ⟨rfl, hb3⟩))
    go_ret2
    exact ⟨rfl, bel_call (bel_call hb0 hb2) hb3⟩
def in64 (x : Int) : Prop := -9223372036854775808 ≤ x ∧ x ≤ 9223372036854775807
/-- A group and a number that is an int64 where the group is valid. -/
def GSD (w : World) (e : Ending) (w' : World) : Prop := ∃ (p : Int) (A : Option Addr) (L c : Nat) (l : List Int) (x : Int), e = .returned (.tuple #[.agg #[.int .i64 p, .slice A L c], .int .i64 x]) ∧ L = l.length ∧ L ≤ 1000 ∧ (grpB p l = true → in64 x) ∧ IS w' w'.heap.size A l ∧ Below w.heap.size w w'
/-- A group and two numbers. -/
def GPP (w : World) (e : Ending) (w' : World) : Prop := ∃ (p : Int) (A : Option Addr) (L c : Nat) (l : List Int) (x y : Int), e = .returned (.tuple #[.agg #[.int .i64 p, .slice A L c], .int .i64 x, .int .i64 y]) ∧ L = l.length ∧ L ≤ 1000 ∧ IS w' w'.heap.size A l ∧ Below w.heap.size w w'
set_option maxRecDepth 20000 in
set_option maxHeartbeats 2000000 in
theorem s_DrawBlocksOf (A : Option Addr) (n c : Nat) (w : World) (hn : n ≤ 4096) (hs : YB w w.heap.size A n) : Calls Tryz.prog 8 #[.slice A n c] w (GSD w) := by
  have B0 := BK.new w 26 #[.int .i64 0, .slice none 0 0]
  have hb0 := (Below.refl w.heap.size w).alloc (Nat.le_refl _) (.cells #[.int .i64 0, .slice none 0 0] 26)
  have hz0 := B0.lt
  have hf := s_l01From A n c _ hn (hs.call hb0)
  have hd := fun g W h => s_l22Draw g W h
  clear hn hs
  go_enter Tryz.func8, Tryz.ntmps8
  go_wp2_with (fail)
  generalize w.alloc (.cells #[.int .i64 0, .slice none 0 0] 26) = w0 at *
  refine hf.mono ?_
  rintro e w1 ⟨rfl, hs1, hb1⟩
  have B1 := B0.below hb1 hz0
  have hz1 := hb1.size
  have hl1 := hs1.lt
  clear hf
  go_wp2_with (fail)
  refine (hd _ _ hs1).mono ?_
  rintro e w2 ⟨p, A2, L, c2, l, rfl, hL, hl, hi, hs2, hu2⟩
  have HL := Lib.hid hL
  have B2 := bk_upg B1 hu2 (by omega) (by omega)
  have u2 := (Up.of (g := w0.heap.size) hb1).call hu2
  have hz2 := hu2.size
  have hb3 := (Below.refl w2.heap.size w2).alloc (Nat.le_refl _) (.cells #[.int .i64 p, .slice A2 L c2] 26)
  have G3 := BK.new w2 26 #[.int .i64 p, .slice A2 L c2]
  have B3 := B2.below hb3 (by omega)
  have hs3 := hs2.call hb3
  have u3 := u2.thenB hb3
  have hi3 := isf_below hi hb3
  have hz3 := G3.lt
  clear B0 B1 B2 u2 hu2 hs1 hs2 hd hb1 hb3 hL hi
  have hpk := fun W h => s_pick7 w0.heap.size 1 2 2 3 p 0 (IntKind.i64.wrap (p + 1)) W h
  go_wp2_with (fail)
  generalize w2.alloc (.cells #[.int .i64 p, .slice A2 L c2] 26) = w3 at *
  have hS0 : w3.drew.cell? ⟨w2.heap.size, 0, none⟩ = some (.int .i64 p) ∧ w3.drew.cell? ⟨w2.heap.size, 1, none⟩ = some (.slice A2 L c2) := ⟨G3.two.1, G3.two.2.1⟩
  have hba := (Below.refl w3.drew.heap.size w3.drew).alloc (Nat.le_refl _) (.cells #[.int .i64 1, .int .i64 2, .int .i64 2, .int .i64 3, .int .i64 p, .int .i64 0, .int .i64 (IntKind.i64.wrap (p + 1))] 2)
  have hSa : (w3.drew.alloc (.cells #[.int .i64 1, .int .i64 2, .int .i64 2, .int .i64 3, .int .i64 p, .int .i64 0, .int .i64 (IntKind.i64.wrap (p + 1))] 2)).cell? ⟨w2.heap.size, 0, none⟩ = some (.int .i64 p) ∧ (w3.drew.alloc (.cells #[.int .i64 1, .int .i64 2, .int .i64 2, .int .i64 3, .int .i64 p, .int .i64 0, .int .i64 (IntKind.i64.wrap (p + 1))] 2)).cell? ⟨w2.heap.size, 1, none⟩ = some (.slice A2 L c2) := ⟨(hba.cell (p := ⟨w2.heap.size, 0, none⟩) hz3).trans hS0.1, (hba.cell (p := ⟨w2.heap.size, 1, none⟩) hz3).trans hS0.2⟩
  go_region_held3 (fun W => W.cell? ⟨w2.heap.size, 0, none⟩ = some (.int .i64 p) ∧ W.cell? ⟨w2.heap.size, 1, none⟩ = some (.slice A2 L c2)) ((first | exact hS8 | exact hSa | exact hS0 | exact ⟨cell_two_far (by omega) hS8.1 _ _, cell_two_far (by omega) hS8.2 _ _⟩))
    (first
      | (go_at_call 59; refine (hpk w3.drew (hs3.drewN 1)).mono ?_; rintro e w8 ⟨x, rfl, hx, hs8, hu8⟩; have hu8 : Up w0.heap.size w3.heap.size w3 w8 := ⟨hu8.os, hu8.tape, hu8.output, hu8.size, hu8.block⟩; have u8 := u3.call hu8; have G8 := bk_upg G3 hu8 (by omega) (by omega); have B8 := bk_upg B3 hu8 (by omega) (by omega); have hS8 := And.intro G8.two.1 G8.two.2.1; have hi8 := isf_up hi3 hu8 (by omega); obtain ⟨f0, f1, f2, f3⟩ := B8.two)
      | fail)
  all_goals
    have b8 := bel_call hb0 (u8.below (Nat.le_refl _))
    obtain ⟨d0, d1⟩ := set2 (x := .int .i64 p) (y := .slice A2 L c2) B8
    have b9 := (b8.setCell (p := ⟨w.heap.size, 0, none⟩) (Nat.le_refl _) (.int .i64 p)).setCell (p := ⟨w.heap.size, 1, none⟩) (Nat.le_refl _) (.slice A2 L c2)
    have hi9 := isf_two hi8 (r := w.heap.size) (by omega) (.int .i64 p) (.slice A2 L c2)
    have hx64 : grpB p l = true → in64 x := fun hg => by
      obtain ⟨n', rfl, h1, h2, _⟩ := grpB_t hg
      have hw : IntKind.i64.wrap ((n' : Int) + 1) = (n' : Int) + 1 := IntWalk.i64_in _ (by omega)
      rw [hw] at hx
      simp at hx
      unfold in64
      omega
    clear hx
    go_wp2_with (fail)
    generalize (w8.setCell ⟨w.heap.size, 0, none⟩ (.int .i64 p)).setCell ⟨w.heap.size, 1, none⟩ (.slice A2 L c2) = w9 at *
    refine bodyPost_ret (v := .tuple #[.agg #[.int .i64 p, .slice A2 L c2], .int .i64 x]) (by simp [results, Tryz.results8, go_sem, d0, d1]) rfl ?_
    exact ⟨p, A2, L, c2, l, x, rfl, HL.out, hl, hx64, hi9.is, b9⟩
set_option maxRecDepth 20000 in
set_option maxHeartbeats 2000000 in
theorem s_DrawBlockWith (A : Option Addr) (n c : Nat) (w : World) (hn : n ≤ 4096) (hs : YB w w.heap.size A n) : Calls Tryz.prog 11 #[.slice A n c] w (GPP w) := by
  have B0 := BK.new w 26 #[.int .i64 0, .slice none 0 0]
  have hb0 := (Below.refl w.heap.size w).alloc (Nat.le_refl _) (.cells #[.int .i64 0, .slice none 0 0] 26)
  have hz0 := B0.lt
  have hs0 := hs.call hb0
  have hf := s_l01From A n c _ hn hs0
  have hd := fun W h => s_DrawOrbitOfF A n c W hn h
  clear hn hs
  go_enter Tryz.func11, Tryz.ntmps11
  go_wp2_with (fail)
  generalize w.alloc (.cells #[.int .i64 0, .slice none 0 0] 26) = w0 at *
  refine hf.mono ?_
  rintro e w1 ⟨rfl, hs1, hb1⟩
  have B1 := B0.below hb1 hz0
  have hz1 := hb1.size
  have hl1 := hs1.lt
  have hy1 := hs0.call hb1
  clear hf
  go_wp2_with (fail)
  refine (hd _ hy1).mono ?_
  rintro e w2 ⟨p, A2, L, c2, l, x, rfl, hL, hl, hi, hb2⟩
  have HL := Lib.hid hL
  have B2 := B1.below hb2 (by omega)
  have hs2 := hs1.call hb2
  have u2 := (Up.of (g := w0.heap.size) hb1).thenB hb2
  have hz2 := hb2.size
  have hb3 := (Below.refl w2.heap.size w2).alloc (Nat.le_refl _) (.cells #[.int .i64 p, .slice A2 L c2] 26)
  have G3 := BK.new w2 26 #[.int .i64 p, .slice A2 L c2]
  have B3 := B2.below hb3 (by omega)
  have hs3 := hs2.call hb3
  have u3 := u2.thenB hb3
  have hi3 := isf_below hi hb3
  have hz3 := G3.lt
  clear B0 B1 B2 u2 hs1 hs2 hd hb1 hb2 hb3 hL hi hy1 hs0
  go_wp2_with (fail)
  generalize w2.alloc (.cells #[.int .i64 p, .slice A2 L c2] 26) = w3 at *
  have hS0 : w3.drew.cell? ⟨w2.heap.size, 0, none⟩ = some (.int .i64 p) ∧ w3.drew.cell? ⟨w2.heap.size, 1, none⟩ = some (.slice A2 L c2) := ⟨G3.two.1, G3.two.2.1⟩
  have hp3 : p < 1 ∨ p = 1 ∨ 1 < p := by omega
  rcases hp3 with hp3 | rfl | hp3
  · skip
    go_region_held3 (fun W => W.cell? ⟨w2.heap.size, 0, none⟩ = some (.int .i64 p) ∧ W.cell? ⟨w2.heap.size, 1, none⟩ = some (.slice A2 L c2)) ((first | exact hS8 | exact hS0 | exact ⟨cell_two_far (by omega) hS8.1 _ _, cell_two_far (by omega) hS8.2 _ _⟩))
      (first
        | (go_at_call 69; refine (s_l01Next w0.heap.size _ w3.drew (hs3.drewN 1)).mono ?_; rintro e w8 ⟨y, rfl, _, hs8, hu8⟩; have hu8 : Up w0.heap.size w3.heap.size w3 w8 := ⟨hu8.os, hu8.tape, hu8.output, hu8.size, hu8.block⟩; have u8 := u3.call hu8; have G8 := bk_upg G3 hu8 (by omega) (by omega); have B8 := bk_upg B3 hu8 (by omega) (by omega); have hS8 := And.intro G8.two.1 G8.two.2.1; have hi8 := isf_up hi3 hu8 (by omega); obtain ⟨f0, f1, f2, f3⟩ := B8.two)
        | fail)
    all_goals
      have b8 := bel_call hb0 (u8.below (Nat.le_refl _))
      obtain ⟨d0, d1⟩ := set2 (x := .int .i64 p) (y := .slice A2 L c2) B8
      have b9 := (b8.setCell (p := ⟨w.heap.size, 0, none⟩) (Nat.le_refl _) (.int .i64 p)).setCell (p := ⟨w.heap.size, 1, none⟩) (Nat.le_refl _) (.slice A2 L c2)
      have hi9 := isf_two hi8 (r := w.heap.size) (by omega) (.int .i64 p) (.slice A2 L c2)
      go_wp2_with (fail)
      generalize (w8.setCell ⟨w.heap.size, 0, none⟩ (.int .i64 p)).setCell ⟨w.heap.size, 1, none⟩ (.slice A2 L c2) = w9 at *
      refine bodyPost_ret (v := .tuple #[.agg #[.int .i64 p, .slice A2 L c2], .int .i64 x, .int .i64 y]) (by simp [results, Tryz.results11, go_sem, d0, d1]) rfl ?_
      exact ⟨p, A2, L, c2, l, x, y, rfl, HL.out, hl, hi9.is, b9⟩
  · skip
    go_region_held3 (fun W => W.cell? ⟨w2.heap.size, 0, none⟩ = some (.int .i64 1) ∧ W.cell? ⟨w2.heap.size, 1, none⟩ = some (.slice A2 L c2)) ((first | exact hS8 | exact hS0 | exact ⟨cell_two_far (by omega) hS8.1 _ _, cell_two_far (by omega) hS8.2 _ _⟩))
      (first
        | (go_at_call 69; refine (s_l01Next w0.heap.size _ w3.drew (hs3.drewN 1)).mono ?_; rintro e w8 ⟨y, rfl, _, hs8, hu8⟩; have hu8 : Up w0.heap.size w3.heap.size w3 w8 := ⟨hu8.os, hu8.tape, hu8.output, hu8.size, hu8.block⟩; have u8 := u3.call hu8; have G8 := bk_upg G3 hu8 (by omega) (by omega); have B8 := bk_upg B3 hu8 (by omega) (by omega); have hS8 := And.intro G8.two.1 G8.two.2.1; have hi8 := isf_up hi3 hu8 (by omega); obtain ⟨f0, f1, f2, f3⟩ := B8.two)
        | fail)
    all_goals
      have b8 := bel_call hb0 (u8.below (Nat.le_refl _))
      obtain ⟨d0, d1⟩ := set2 (x := .int .i64 1) (y := .slice A2 L c2) B8
      have b9 := (b8.setCell (p := ⟨w.heap.size, 0, none⟩) (Nat.le_refl _) (.int .i64 1)).setCell (p := ⟨w.heap.size, 1, none⟩) (Nat.le_refl _) (.slice A2 L c2)
      have hi9 := isf_two hi8 (r := w.heap.size) (by omega) (.int .i64 1) (.slice A2 L c2)
      go_wp2_with (fail)
      generalize (w8.setCell ⟨w.heap.size, 0, none⟩ (.int .i64 1)).setCell ⟨w.heap.size, 1, none⟩ (.slice A2 L c2) = w9 at *
      refine bodyPost_ret (v := .tuple #[.agg #[.int .i64 1, .slice A2 L c2], .int .i64 x, .int .i64 y]) (by simp [results, Tryz.results11, go_sem, d0, d1]) rfl ?_
      exact ⟨1, A2, L, c2, l, x, y, rfl, HL.out, hl, hi9.is, b9⟩
  · skip
    go_region_held3 (fun W => W.cell? ⟨w2.heap.size, 0, none⟩ = some (.int .i64 p) ∧ W.cell? ⟨w2.heap.size, 1, none⟩ = some (.slice A2 L c2)) ((first | exact hS8 | exact hS0 | exact ⟨cell_two_far (by omega) hS8.1 _ _, cell_two_far (by omega) hS8.2 _ _⟩))
      (first
        | (go_at_call 69; refine (s_l01Next w0.heap.size _ w3.drew (hs3.drewN 1)).mono ?_; rintro e w8 ⟨y, rfl, _, hs8, hu8⟩; have hu8 : Up w0.heap.size w3.heap.size w3 w8 := ⟨hu8.os, hu8.tape, hu8.output, hu8.size, hu8.block⟩; have u8 := u3.call hu8; have G8 := bk_upg G3 hu8 (by omega) (by omega); have B8 := bk_upg B3 hu8 (by omega) (by omega); have hS8 := And.intro G8.two.1 G8.two.2.1; have hi8 := isf_up hi3 hu8 (by omega); obtain ⟨f0, f1, f2, f3⟩ := B8.two)
        | fail)
    all_goals
      have b8 := bel_call hb0 (u8.below (Nat.le_refl _))
      obtain ⟨d0, d1⟩ := set2 (x := .int .i64 p) (y := .slice A2 L c2) B8
      have b9 := (b8.setCell (p := ⟨w.heap.size, 0, none⟩) (Nat.le_refl _) (.int .i64 p)).setCell (p := ⟨w.heap.size, 1, none⟩) (Nat.le_refl _) (.slice A2 L c2)
      have hi9 := isf_two hi8 (r := w.heap.size) (by omega) (.int .i64 p) (.slice A2 L c2)
      go_wp2_with (fail)
      generalize (w8.setCell ⟨w.heap.size, 0, none⟩ (.int .i64 p)).setCell ⟨w.heap.size, 1, none⟩ (.slice A2 L c2) = w9 at *
      refine bodyPost_ret (v := .tuple #[.agg #[.int .i64 p, .slice A2 L c2], .int .i64 x, .int .i64 y]) (by simp [results, Tryz.results11, go_sem, d0, d1]) rfl ?_
      exact ⟨p, A2, L, c2, l, x, y, rfl, HL.out, hl, hi9.is, b9⟩
end Go.Proofs.YtglijcdnnaekkaaGreat
