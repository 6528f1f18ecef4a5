/- Several parts of the proof in one text; each part says what it shows. Nothing is assumed. -/
import Derived.Test.YtjfinniebijgbaaDoorA83
import Derived.Test.YtjfinniebijgbaaDoorA20
import Derived.Deep.RegionLaw
/- Permutations by their ranks. -/
namespace Go.Proofs.YtjfinniebijgbaaDoor
set_option linter.unusedVariables false
set_option linter.unusedSimpArgs false
open Go.RowKit

def delL (l : List Int) (i : Nat) : List Int := l.take i ++ l.drop (i + 1)
theorem delL_len {l : List Int} {i : Nat} (h : i < l.length) : (delL l i).length = l.length - 1 := by simp [delL]; omega
/-- What is left and what has come, with k to come. -/
def wrS : Nat → Nat → List Int → List Int → List Int
  | 0, _, _, out => out
  | k + 1, r, left, out => wrS k (r % fact k) (delL left (r / fact k)) (out ++ [gt left (r / fact k)])
def wrL (n r : Nat) : List Int := wrS n r (idL n) []
theorem wr_at {k r : Nat} (h : r < fact (k + 1)) : r / fact k < k + 1 ∧ r % fact k < fact k := by
  have h1 := fact_pos k
  rw [fact] at h
  exact ⟨(Nat.div_lt_iff_lt_mul (by omega)).2 h, Nat.mod_lt _ (by omega)⟩
theorem wrS_in {n : Nat} : ∀ (k r : Nat) {left out : List Int}, r < fact k → left.length = k → out.length + k = n → (∀ x ∈ left, 0 ≤ x ∧ x < (n : Int)) → (∀ x ∈ out, 0 ≤ x ∧ x < (n : Int)) → (wrS k r left out).length = n ∧ ∀ x ∈ wrS k r left out, 0 ≤ x ∧ x < (n : Int)
  | 0, r, left, out, _, _, h3, _, h5 => ⟨by simpa [wrS] using h3, h5⟩
  | k + 1, r, left, out, h1, h2, h3, h4, h5 => by
    obtain ⟨a1, a2⟩ := wr_at h1
    unfold wrS
    refine wrS_in k _ a2 (by rw [delL_len (by omega), h2]; rfl) (by simp; omega) (fun x hx => ?_) (fun x hx => ?_)
    · unfold delL at hx
      rw [List.mem_append] at hx
      rcases hx with hx | hx
      · exact h4 x (List.mem_of_mem_take hx)
      · exact h4 x (List.mem_of_mem_drop hx)
    · rw [List.mem_append, List.mem_singleton] at hx
      rcases hx with hx | rfl
      · exact h5 x hx
      · exact h4 _ (gt_mem (by omega))
theorem wrL_in {n r : Nat} (h : r < fact n) : InR n (wrL n r) := by
  have h1 := wrS_in (n := n) n r (left := idL n) (out := []) h (idL_len n) (by simp) (fun x hx => by
    simp only [idL, List.mem_map, List.mem_range] at hx
    obtain ⟨k, hk, rfl⟩ := hx
    omega) (by simp)
  exact ⟨h1.1, fun k hk => h1.2 _ (gt_mem (by omega))⟩
theorem s_fact0 (w : World) : Calls Tryd.prog 56 #[.int .i64 0] w (Q (.int .i64 1) w) := by
  go_enter Tryd.func56, Tryd.ntmps56
  go_wp2_with (fail)
  go_loop [0, 3] (fun v u => v = .int .i64 0 ∧ u = .int .i64 1) (fun v _ => (intOf v).toNat)
  case atStart => exact ⟨rfl, rfl⟩
  case round =>
    obtain ⟨rfl, rfl⟩ := hrel
    go_wp2_with (fail)
    go_ret
    exact ⟨rfl, 0, rfl⟩
theorem s_factN (k : Nat) (w : World) (h : k ≤ 6) : Calls Tryd.prog 56 #[.int .i64 k] w (Q (.int .i64 (fact k : Nat)) w) := by
  rcases Nat.eq_zero_or_pos k with rfl | h0
  · exact s_fact0 w
  · have := s_l21Factorial k w (by omega) (by omega)
    rwa [Int.toNat_natCast] at this
theorem one_src_dr (w : World) (q : Nat) (x : Value) (e : TypeId) : ∀ ad, some (⟨w.heap.size, 0, none⟩ : Addr) = some ad → ∀ j u, [x][j]? = some u → ((w.drewN q).alloc (.cells #[x] e)).cell? (ad.add j) = some u := one_src (w.drewN q) x e
end Go.Proofs.YtjfinniebijgbaaDoor
/- Permutations by their ranks, on the side of the reference. -/
namespace Go.Proofs.YtjfinniebijgbaaDoor
set_option linter.unusedVariables false
set_option linter.unusedSimpArgs false
open Go.RowKit

theorem step_append_own {P : Program} {w : World} {ops : Array Oper} {o : Oper} {a : Act} {K : Act → World → Prop} {Q : Exit → Act → World → Prop} {E : Prop} (hgd : o.guard = none) (s x : Operand) (t : TypeId)
    (ho : o.op = .call { callee := .builtin .append, args := #[s, x], argTypes := #[t, t] })
    (base : Nat) (e : TypeId) (i : TypeInfo) (z : Value) (size bytes : Nat) (ht : P.underlying t = some (.slice e)) (hi : P.info? e = some i) (hz : i.zero = some z)
    (hsize : i.size = size) (hby : i.bytes = bytes) (hzs : z.cells.size = size) (hsz : 0 < size)
    (v : Value) (n : Nat) (xs : List Value) (hs : a.eval s = v) (hown : w.ownsRow base e size v n xs)
    (ad : Addr) (m c : Nat) (news : List Value) (hx : a.eval x = .slice (some ad) m c) (hl : news.length = m * size) (hnews : ∀ j u, news[j]? = some u → w.cell? (ad.add j) = some u) (h1 : ∀ u ∈ news, u.oneCell' = true)
    (h63 : n + m ≤ maxLen) (hbytes : (n + m) * bytes ≤ 140737488355328) (hbase : base ≤ w.heap.size)
    (h : ∀ v' w', w'.ownsRow base e size v' (n + m) (xs ++ news) → w.grownBy w' v.ownBlock → (v'.ownBlock = v.ownBlock ∨ v'.ownBlock = some w.heap.size) → K (a.put o.dst v') w') :
    if Region.wanted o (yielded ops a.tmps) = true then Oper.wp P o a w K Q else E := by
  have hw : Region.wanted o (yielded ops a.tmps) = true := by simp [Region.wanted, hgd]
  rw [if_pos hw]
  obtain ⟨v', w', hr, h2, h3, _, h5⟩ := run_append_own_at (P := P) w base t o.type e i z size bytes ht hi hz hsize hby hzs hsz v n xs hown ad m c news hl hnews h1 h63 hbytes hbase
  unfold Oper.wp execOp
  simp only [ho, resolve, invoke, builtin, Sem.run_bind, Sem.run_pure, Result.andThen_ok, List.map_toArray, List.map_cons, List.map_nil, hs, hx, hr]
  exact h v' w' h2 h3 h5
set_option maxRecDepth 10000 in
set_option maxHeartbeats 1000000 in
theorem s_l01Own (ad : Addr) (n c : Nat) (l : List Int) (w : World) (hn : n = l.length) (hl : n ≤ 1048576) (hsrc : ∀ j u, (ints l)[j]? = some u → w.cell? (ad.add j) = some u) (hlt : ∀ j, (ad.add j).block < w.heap.size) :
    Calls Tryd.prog 67 #[.slice (some ad) n c] w (MI w.heap.size n l w) := by
  have HN := Lib.hid hn
  clear hn
  obtain ⟨i0, hi, hz0, hz1, hz2⟩ := info_parts infoI64
  have ho := World.ownsRow_lit (base := w.heap.size) (e := 2) (size := 1) w #[] 0 (Nat.le_refl _) (by simp [maxLen]) rfl
  have hb := (Below.refl w.heap.size w).alloc (Nat.le_refl _) (.cells #[] 2)
  have hs2 : ∀ j u, (ints l)[j]? = some u → (w.alloc (.cells #[] 2)).cell? (ad.add j) = some u := fun j u hj => (hb.cell (hlt j)).trans (hsrc j u hj)
  clear hsrc
  go_enter Tryd.func67, Tryd.ntmps67
  go_wp2_with (at_builtin; refine wpList_append_src rfl (.tmp 3) (.tmp 4) 22 rfl w.heap.size 2 i0 (.int .i64 0) 1 8 Tryd.underlying22 hi hz0 hz1 hz2 rfl (by omega) (.slice (some ⟨w.heap.size, 0, none⟩) 0 0) 0 [] rfl ho (some ad) n c (ints l) rfl (by rw [ints_length, Nat.mul_one]; exact HN.out.symm) (fun ad' h j u hj => by injection h with h; subst h; exact hs2 j u hj) (by intro h; cases h) (ints_one _) (by simp only [maxLen]; omega) (by omega) (by simp) ?_; intro v1 w1 hown1 hg1 hat1)
  go_ret
  rw [Nat.zero_add, List.nil_append] at hown1
  exact ⟨_, rfl, hown1, hb.grown hg1 (by simp) (fun g hg => by simp [Value.ownBlock] at hg; omega)⟩
set_option maxRecDepth 10000 in
set_option maxHeartbeats 4000000 in
theorem s_l21With (n r : Nat) (w : World) (hn : 1 ≤ n) (hn6 : n ≤ 6) (hr : r < fact n) : Calls Tryd.prog 55 #[.int .i64 n, .int .i64 r] w (MI w.heap.size n (wrL n r) w) := by
  have hf := (fact_le hn6).2
  have hroot : wrS n r (idL n) [] = wrL n r := rfl
  generalize hRES : wrL n r = RES at *
  have HR0 : Hid (r < fact n ∧ (idL n).length = n ∧ wrS n r (idL n) [] = RES) := ⟨hr, idL_len n, hroot⟩
  have hr720 : r < 720 := by omega
  clear hroot hr hRES hf
  obtain ⟨i0, hi, hz0, hz1, hz2⟩ := info_parts infoI64
  go_enter Tryd.func55, Tryd.ntmps55
  go_wp2_with (go_at_call 68; refine (s_one n _ (by omega)).mono ?_; rintro e w1 ⟨v1, rfl, ho1, hb1⟩; obtain ⟨Av, cv, rfl, _⟩ := own_slice' ho1)
  have ho2 := World.ownsRow_lit (base := w1.heap.size) (e := 2) (size := 1) w1 #[] 0 (Nat.le_refl _) (by simp [maxLen]) rfl
  have hz1' := hb1.size
  go_loopw [1, 5, 6, 7] (fun u1 u5 u6 u7 wr => ∃ (k r : Nat) (left out : List Int), k ≤ n ∧ r < 720 ∧ u1 = .int .i64 r ∧ u7 = .int .i64 k ∧ wr.ownsRow w.heap.size 2 1 u5 k (ints left) ∧ wr.ownsRow w.heap.size 2 1 u6 (n - k) (ints out) ∧ (∀ g, u6.ownBlock = some g → u5.ownBlock ≠ some g) ∧ Below w.heap.size w wr ∧ Hid (r < fact k ∧ left.length = k ∧ wrS k r left out = RES)) (fun _ _ _ u7 _ => (intOf u7).toNat)
  case atStart => exact ⟨n, r, idL n, [], Nat.le_refl _, hr720, rfl, rfl, World.ownsRow.alloc ho1 _, by rw [Nat.sub_self]; exact own_mono ho2 hz1', fun g hg h => by simp [Value.ownBlock] at hg; have := (ho1.lt g h).2; omega, hb1.alloc hz1' _, HR0.out⟩
  case round =>
    clear ho1 hb1 HR0 hr720 ho2
    obtain ⟨ws, rfl⟩ : ∃ ws : World, ws = wr := ⟨_, rfl⟩
    obtain ⟨k, r, left, out, hk, hr720, rfl, rfl, hleft, hout, hnb, hb, HI⟩ := hrel
    obtain ⟨A6, c6, rfl, _⟩ := own_slice' hout
    obtain ⟨A5, c5, rfl, hc5⟩ := own_slice' hleft
    have hsz := hb.size
    rcases Nat.eq_zero_or_pos k with rfl | hk0
    · have hfin : Hid (out = RES) := HI.out.2.2
      rw [hfin.out] at hout
      have HO := Lib.hid hout
      clear hout
      go_wp2_with (fail)
      go_ret
      rw [Nat.sub_zero] at HO ⊢
      exact ⟨_, rfl, HO.out, hb⟩
    · obtain ⟨q, rfl⟩ : ∃ q, k = q + 1 := ⟨k - 1, by omega⟩
      obtain ⟨gl', rfl, hgl1, hgl2, _⟩ := own_src hleft (by omega)
      obtain ⟨h1, h2, h3⟩ := HI.out
      obtain ⟨a1, a2⟩ := wr_at h1
      have hfq := fact_le (k := q) (by omega)
      have h4 : wrS q (r % fact q) (delL left (r / fact q)) (out ++ [gt left (r / fact q)]) = RES := h3
      have hfac := fun W => s_factN q W (by omega)
      have hdl := delL_len (l := left) (i := r / fact q) (by omega)
      have hmd := Nat.mod_le r (fact q)
      have hcl : ∀ j u, (ints left)[j]? = some u → ws.cell? ⟨gl', j, none⟩ = some u := fun j u hj => by
        have h9 := World.ownsRow.cells hleft (g := gl') rfl j u hj
        rw [Go.WideShapes.add_plain] at h9
        simpa using h9
      have e1 := hcl (r / fact q) _ (ints_at (by omega))
      have hdv : (r : Int) / ((fact q : Nat) : Int) = ((r / fact q : Nat) : Int) := by simp
      have hmv : (r : Int) % ((fact q : Nat) : Int) = ((r % fact q : Nat) : Int) := by simp
      have hdrop : (left.drop (r / fact q + 1)).length = q - r / fact q := by rw [List.length_drop]; omega
      have htake : (left.take (r / fact q)).length = r / fact q := by rw [List.length_take]; omega
      generalize hd : r / fact q = d at *
      generalize hrm : r % fact q = rm at *
      generalize hFq : fact q = F at *
      have HFQ := Lib.hid hFq
      have hF0 : (F : Int) ≠ 0 := by omega
      have H4 := Lib.hid h4
      have HDL := Lib.hid hdl
      have HLN := Lib.hid h2
      have HRM := Lib.hid a2
      have HDROP := Lib.hid hdrop
      have HTAKE := Lib.hid htake
      clear h4 hdl h1 h2 h3 HI hcl hd hrm hFq hdrop htake
      go_wp2_with (first
        | (go_at_call 56; refine (hfac _).mono ?_; rintro e w2 ⟨rfl, nq, rfl⟩)
        | (at_builtin; refine wpList_append_src rfl (.tmp 27) (.tmp 32) 22 rfl w.heap.size 2 i0 (.int .i64 0) 1 8 Tryd.underlying22 hi hz0 hz1 hz2 rfl (by omega) (.slice A6 (n - (q + 1)) c6) (n - (q + 1)) (ints out) rfl (World.ownsRow.alloc (own_dr hout _) _) (some ⟨ws.heap.size, 0, none⟩) 1 1 [.int .i64 (gt left d)] rfl rfl (one_src_dr ws _ _ _) (by intro h; cases h) (by intro u hu; simp at hu; subst hu; rfl) (by simp only [maxLen]; omega) (by omega) (by simp; omega) ?_; intro v5 w5 hown5 hg5 hat5; have hl5 := World.ownsRow.kept (World.ownsRow.alloc (own_dr hleft _) _) hg5 (.inr (fun e => hnb gl' e.symm rfl))))
      have hownc : ∀ W : World, W.ownsRow w.heap.size 2 1 (.slice (some ⟨gl', 0, none⟩) (q + 1) c5) (q + 1) (ints left) → Calls Tryd.prog 67 #[.slice (some ⟨gl', 0, none⟩) d c5] W (MI W.heap.size d (left.take d) W) := fun W hl => by
        have hlt := (hl.lt gl' rfl).2
        refine s_l01Own ⟨gl', 0, none⟩ d c5 (left.take d) W HTAKE.out.symm (by omega) (fun j u hj => World.ownsRow.cells hl (g := gl') rfl j u ?_) (fun j => by rw [Go.WideShapes.add_plain]; exact hlt)
        unfold ints at hj ⊢
        rw [List.getElem?_map] at hj ⊢
        rw [List.getElem?_take] at hj
        split at hj
        · exact hj
        · simp at hj
      have hnw0 : ∀ W : World, W.ownsRow w.heap.size 2 1 (.slice (some ⟨gl', 0, none⟩) (q + 1) c5) (q + 1) (ints left) → ∀ j u, (ints (left.drop (d + 1)))[j]? = some u → W.cell? ((⟨gl', d + 1, none⟩ : Addr).add j) = some u := fun W hl j u hj => by
        have h9 : (ints left)[d + 1 + j]? = some u := by
          unfold ints at hj ⊢
          rw [List.getElem?_map] at hj ⊢
          rw [List.getElem?_drop] at hj
          exact hj
        have h10 := World.ownsRow.cells hl (g := gl') rfl _ u h9
        rw [Go.WideShapes.add_plain] at h10 ⊢
        simpa using h10
      have p1 : d ≤ c5 := by omega
      have p2 : (d : Int) ≤ (c5 : Int) := by omega
      have p3 : IntKind.i64.wrap ((d : Int) + 1) = (d : Int) + 1 := IntWalk.i64_in _ (by omega)
      have p4 : ((d : Int) + 1).toNat = d + 1 := by omega
      have p5 : (0 : Int) ≤ (d : Int) + 1 := by omega
      have p6 : (d : Int) + 1 ≤ ((q : Int) + 1) := by omega
      have p7 : (d : Int) ≤ (q : Int) := by omega
      have p8 : (d : Int) ≤ (d : Int) + 1 := by omega
      by_cases hcd : c5 = d + 1
      · have hqd : q = d := by omega
        subst hqd
        subst hcd
        have hnw : ∀ W : World, W.ownsRow w.heap.size 2 1 (.slice (some ⟨gl', 0, none⟩) (q + 1) (q + 1)) (q + 1) (ints left) → ∀ j u, (ints (left.drop (q + 1)))[j]? = some u → W.cell? ((⟨gl', 0, none⟩ : Addr).add j) = some u := fun W hl j u hj => by
          have h8 : (ints (left.drop (q + 1))).length = 0 := by rw [ints_length, HDROP.out]; omega
          rw [List.getElem?_eq_none (by omega)] at hj; cases hj
        go_region_law
          (first
            | ((refine step_append_own (by rfl) (.tmp 37) (.tmp 41) 22 (by rfl) w5.heap.size 2 i0 (.int .i64 0) 1 8 Tryd.underlying22 hi hz0 hz1 hz2 rfl (by omega) (.slice Ao q co) q (ints (left.take q)) (by rfl) hoo ⟨gl', 0, none⟩ 0 0 (ints (left.drop (q + 1))) (by rfl) (by rw [ints_length, Nat.mul_one]; first | exact HDROP.out | (rw [HDROP.out]; omega)) (hnw _ (own_below (w := w5.drew) hl5 hbo)) (ints_one _) (by simp only [maxLen]; omega) (by omega) hbo.size ?_; intro v7 w7 hown7 hg7 hat7))
            | (go_simp; go_at_call 67; refine (hownc w5.drew hl5).mono ?_; rintro e w6 ⟨v6, rfl, hoo, hbo⟩; obtain ⟨Ao, co, rfl, _⟩ := own_slice' hoo))
        all_goals
          go_wp2_with (fail)
          have hz6 := hbo.size
          have hz7 := hg7.size
          have hz6' : w5.heap.size ≤ w6.heap.size := hz6
          have hlen7 : q + 0 = q := by omega
          rw [hlen7] at hown7
          have hl7 : w7.ownsRow w.heap.size 2 1 v7 q (ints (delL left q)) := by
            have h := own_mono (base' := w.heap.size) hown7 (by have := hg5.size; simp at this; omega)
            unfold delL
            rw [show ints (left.take q ++ left.drop (q + 1)) = ints (left.take q) ++ ints (left.drop (q + 1)) by simp [ints]]
            exact h
          have hAo : ∀ g, (Value.slice Ao q co).ownBlock = some g → w5.heap.size ≤ g := fun g hg => (hoo.lt g hg).1
          have ho7 := World.ownsRow.kept (own_below (w := w5.drew) hown5 hbo) hg7 (by
            cases h : v5.ownBlock with
            | none => exact .inl rfl
            | some g => exact .inr fun e => by have h1 := (hown5.lt g h).2; have h2 := hAo g e.symm; omega)
          have hb5 := ((below_drewN hb _).alloc (by show _ ≤ ws.heap.size; omega) _).grown hg5 (by simp; omega) (fun g hg => (hout.lt g hg).1)
          have hb5' : Below w.heap.size w w5.drew := hb5.drew
          have hb7 := (bel_call hb5' hbo).grown hg7 (by have := hb5.size; omega) (fun g hg => by have h1 := hAo g hg; have := hb5.size; omega)
          go_roundw
          case rel =>
            refine ⟨q, rm, delL left q, out ++ [gt left q], by omega, by omega, by first | rfl | rw [hmv], by go_num, hl7, ?_, ?_, hb7, by rw [HFQ.out]; exact HRM.out, by have := HDL.out; have := HLN.out; omega, H4.out⟩
            · rw [ints_snoc, show n - q = n - (q + 1) + 1 by omega]; exact ho7
            · intro g hg e
              have h1 := (hown5.lt g hg).2
              have h2 := (hown7.lt g e).1
              omega
          case measure => simp [intOf]
      · have hnw := hnw0
        go_region_law
          (first
            | ((refine step_append_own (by rfl) (.tmp 37) (.tmp 41) 22 (by rfl) w5.heap.size 2 i0 (.int .i64 0) 1 8 Tryd.underlying22 hi hz0 hz1 hz2 rfl (by omega) (.slice Ao d co) d (ints (left.take d)) (by rfl) hoo ⟨gl', d + 1, none⟩ (q - d) (c5 - (d + 1)) (ints (left.drop (d + 1))) (by rfl) (by rw [ints_length, Nat.mul_one]; first | exact HDROP.out | (rw [HDROP.out]; omega)) (hnw _ (own_below (w := w5.drew) hl5 hbo)) (ints_one _) (by simp only [maxLen]; omega) (by omega) hbo.size ?_; intro v7 w7 hown7 hg7 hat7))
            | (go_simp; go_at_call 67; refine (hownc w5.drew hl5).mono ?_; rintro e w6 ⟨v6, rfl, hoo, hbo⟩; obtain ⟨Ao, co, rfl, _⟩ := own_slice' hoo))
        all_goals
          go_wp2_with (fail)
          have hz6 := hbo.size
          have hz7 := hg7.size
          have hz6' : w5.heap.size ≤ w6.heap.size := hz6
          have hlen7 : d + (q - d) = q := by omega
          rw [hlen7] at hown7
          have hl7 : w7.ownsRow w.heap.size 2 1 v7 q (ints (delL left d)) := by
            have h := own_mono (base' := w.heap.size) hown7 (by have := hg5.size; simp at this; omega)
            unfold delL
            rw [show ints (left.take d ++ left.drop (d + 1)) = ints (left.take d) ++ ints (left.drop (d + 1)) by simp [ints]]
            exact h
          have hAo : ∀ g, (Value.slice Ao d co).ownBlock = some g → w5.heap.size ≤ g := fun g hg => (hoo.lt g hg).1
          have ho7 := World.ownsRow.kept (own_below (w := w5.drew) hown5 hbo) hg7 (by
            cases h : v5.ownBlock with
            | none => exact .inl rfl
            | some g => exact .inr fun e => by have h1 := (hown5.lt g h).2; have h2 := hAo g e.symm; omega)
          have hb5 := ((below_drewN hb _).alloc (by show _ ≤ ws.heap.size; omega) _).grown hg5 (by simp; omega) (fun g hg => (hout.lt g hg).1)
          have hb5' : Below w.heap.size w w5.drew := hb5.drew
          have hb7 := (bel_call hb5' hbo).grown hg7 (by have := hb5.size; omega) (fun g hg => by have h1 := hAo g hg; have := hb5.size; omega)
          go_roundw
          case rel =>
            refine ⟨q, rm, delL left d, out ++ [gt left d], by omega, by omega, by first | rfl | rw [hmv], by go_num, hl7, ?_, ?_, hb7, by rw [HFQ.out]; exact HRM.out, by have := HDL.out; have := HLN.out; omega, H4.out⟩
            · rw [ints_snoc, show n - q = n - (q + 1) + 1 by omega]; exact ho7
            · intro g hg e
              have h1 := (hown5.lt g hg).2
              have h2 := (hown7.lt g e).1
              omega
          case measure => simp [intOf]
end Go.Proofs.YtjfinniebijgbaaDoor
/- The permutations of a group, by its ranks. -/
namespace Go.Proofs.YtjfinniebijgbaaDoor
set_option linter.unusedVariables false
set_option linter.unusedSimpArgs false
open Go.RowKit

theorem row_more {base N : Nat} {wr w1 w4 : World} {vs : List Value} {ms : List (List Int)} {u5 v1 : Value} {b : List Int} {o : Obj}
    (hg4 : (w1.alloc o).grownBy w4 u5.ownBlock) (ho : wr.ownsRow base 22 1 u5 N vs) (hrows : RowsO wr base vs ms) (hbase : base ≤ wr.heap.size)
    (ho1 : w1.ownsRow wr.heap.size 2 1 v1 b.length (ints b)) (hb1 : Below wr.heap.size wr w1) : RowsO w4 base (vs ++ [v1]) (ms ++ [b]) := by
  have hsn := (hrows.below hb1).snoc (own_mono ho1 hbase) (fresh_ne hrows (fun g hg => (ho1.lt g hg).1))
  have hsn2 := hsn.kept (World.grownBy_alloc _ o none) (fun i _ => by cases (gv (vs ++ [v1]) i).ownBlock <;> simp)
  have hou := World.ownsRow.alloc (own_below ho hb1) o
  exact hsn2.kept hg4 (fun i hi => own_ne (hsn2.2.1 i hi) hou (by decide))
def memL (n : Nat) (l : List Int) : List (List Int) := l.map fun x => wrL n x.toNat
theorem memL_take {n : Nat} {l : List Int} {k : Nat} (h : k < l.length) : memL n (l.take (k + 1)) = memL n (l.take k) ++ [wrL n (gt l k).toNat] := by
  simp only [memL]
  rw [List.take_succ_eq_append_getElem h, List.map_append]
  simp [gt, List.getElem?_eq_getElem h]
theorem memL_len (n : Nat) (l : List Int) : (memL n l).length = l.length := by simp [memL]
/-- All are ranks of n points. -/
def InK (n : Nat) (l : List Int) : Prop := ∀ k, k < l.length → 0 ≤ gt l k ∧ gt l k < (fact n : Nat)
def MII (ll : List (List Int)) (w : World) (e : Ending) (w' : World) : Prop := ∃ A c vs, e = .returned (.slice A ll.length c) ∧ w'.ownsRow w.heap.size 22 1 (.slice A ll.length c) ll.length vs ∧ RowsO w' w.heap.size vs ll ∧ Below w.heap.size w w'
end Go.Proofs.YtjfinniebijgbaaDoor
