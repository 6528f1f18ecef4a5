/- Block systems: the program's side. -/
import Derived.Test.YtglijcdnnaekkaaGreatA251
import Derived.Test.YtglijcdnnaekkaaGreatA208
namespace Go.Proofs.YtglijcdnnaekkaaGreat
set_option linter.unusedVariables false
set_option linter.unusedSimpArgs false
open Go.RowKit

theorem lex_le_trans {a b c : List Int} (h1 : ¬ lexC b a < 0) (h2 : ¬ lexC c b < 0) : ¬ lexC c a < 0 := fun h => by
  by_cases e : lexC b c < 0
  · exact h1 (lexC_trans e h)
  · have h4 := lexC_anti b c
    have h5 : b = c := lexC_eq0 (by omega)
    subst h5
    exact h1 h
theorem cp_mem {ll : List (List Int)} (b : List Int) : b ∈ cpL ll ↔ b ∈ ll := by
  unfold cpL
  rw [List.mem_map]
  constructor
  · rintro ⟨i, hi, rfl⟩
    exact gl_mem (List.mem_range.1 (List.mem_filter.1 hi).1)
  · intro h
    obtain ⟨k, hk, rfl⟩ := mem_gl.1 h
    have hmain : ∀ k, k < ll.length → ∃ i, i ∈ nwL ll ll.length ∧ gl ll i = gl ll k := by
      intro k
      induction k with
      | zero => exact fun hk => ⟨0, List.mem_filter.2 ⟨List.mem_range.2 hk, by simp [nwB]⟩, rfl⟩
      | succ k ih =>
        intro hk
        cases hn : nwB ll (k + 1)
        · obtain ⟨i, hi, e⟩ := ih (by omega)
          refine ⟨i, hi, e.trans ?_⟩
          unfold nwB at hn
          simp at hn
          exact hn.symm
        · exact ⟨k + 1, List.mem_filter.2 ⟨List.mem_range.2 hk, hn⟩, rfl⟩
    exact hmain k hk
theorem cp_strict {ll : List (List Int)} (h : ll.Pairwise fun a b => ¬ lexC b a < 0) : (cpL ll).Pairwise fun a b => lexC a b < 0 := by
  have hle : ∀ i j, i ≤ j → j < ll.length → ¬ lexC (gl ll j) (gl ll i) < 0 := fun i j hij hj => by
    by_cases e : i = j
    · subst e; rw [lexC_self]; omega
    · have := List.pairwise_iff_getElem.1 h i j (by omega) hj (by omega)
      rw [gl_eq hj, gl_eq (show i < ll.length by omega)] at this
      exact this
  unfold cpL
  rw [List.pairwise_map]
  have hpw : (nwL ll ll.length).Pairwise (· < ·) := List.pairwise_lt_range.filter _
  refine hpw.imp_of_mem fun {i j} hi hj hij => ?_
  have hj' := List.mem_filter.1 hj
  have hjl := List.mem_range.1 hj'.1
  by_cases e : lexC (gl ll i) (gl ll j) < 0
  · exact e
  · exfalso
    have h1 := hle i j (by omega) hjl
    have h2 := lexC_anti (gl ll i) (gl ll j)
    have e1 : gl ll i = gl ll j := lexC_eq0 (by omega)
    have h3 := hle i (j - 1) (by omega) (by omega)
    have h4 := hle (j - 1) j (by omega) hjl
    have h5 := lexC_anti (gl ll (j - 1)) (gl ll j)
    have h6 := lexC_anti (gl ll i) (gl ll (j - 1))
    rw [e1] at h3
    have e2 : gl ll j = gl ll (j - 1) := by
      have h7 := lexC_anti (gl ll j) (gl ll (j - 1))
      exact lexC_eq0 (by omega)
    have hn := hj'.2
    unfold nwB at hn
    rw [decide_eq_false (show ¬ j = 0 by omega), decide_eq_true e2] at hn
    simp at hn
def bkB (n : Nat) (l : List Int) (pts : List Int) : Bool := decide (gt pts 0 = 0) && blkB (memL n l) pts
def bkF (n : Nat) (l : List Int) (cnt : Nat) : Option (List Int) := (sI n cnt 0).find? (bkB n l)
/-- The images of a set of points, each once, in order. -/
def bkO (n : Nat) (l : List Int) (pts : List Int) (out : List (List Int)) : Prop := (out.Pairwise fun a b => lexC a b < 0) ∧ ∀ b, b ∈ out ↔ ∃ a ∈ memL n l, imgL a pts = b
def BKR (n : Nat) (l : List Int) (cnt : Nat) (w : World) (e : Ending) (w' : World) : Prop :=
  (bkF n l cnt = none ∧ e = .returned (.slice none 0 0) ∧ Below w.heap.size w w') ∨
  (∃ (pts : List Int) (out : List (List Int)) (g m c : Nat) (vs : List Value), bkF n l cnt = some pts ∧ bkO n l pts out ∧ 0 < m ∧ m = out.length ∧ e = .returned (.slice (some ⟨g, 0, none⟩) m c) ∧ w'.ownsRow w.heap.size 24 1 (.slice (some ⟨g, 0, none⟩) m c) m vs ∧ RowsO w' w.heap.size vs out ∧ Below w.heap.size w w')
theorem find_no {α : Type} {p : α → Bool} {d : α} : ∀ {l : List α}, (∀ j, j < l.length → p (l.getD j d) = false) → l.find? p = none
  | [], _ => rfl
  | x :: l, h => by
    have h0 := h 0 (by simp)
    simp only [List.getD_cons_zero] at h0
    rw [List.find?_cons, h0]
    exact find_no fun j hj => by have := h (j + 1) (by simpa using hj); simpa using this
theorem find_at {α : Type} {p : α → Bool} {d : α} : ∀ {l : List α} {k : Nat}, k < l.length → p (l.getD k d) = true → (∀ j, j < k → p (l.getD j d) = false) → l.find? p = some (l.getD k d)
  | [], k, hk, _, _ => by simp at hk
  | x :: l, 0, _, h, _ => by
    simp only [List.getD_cons_zero] at h ⊢
    rw [List.find?_cons, h]
  | x :: l, k + 1, hk, h, ha => by
    have h0 := ha 0 (by omega)
    simp only [List.getD_cons_zero] at h0
    rw [List.find?_cons, h0]
    simp only [List.getD_cons_succ] at h ⊢
    exact find_at (by simpa using hk) h fun j hj => by have := ha (j + 1) (by omega); simpa using this
theorem own_some {w : World} {base n c : Nat} {A : Option Addr} {xs : List Value} {e : TypeId} (h : w.ownsRow base e 1 (.slice A n c) n xs) (h0 : 0 < n) : ∃ g, A = some ⟨g, 0, none⟩ := by
  rcases h.2 with ⟨_, hz⟩ | ⟨g, cap, cur, hv, _⟩
  · omega
  · cases hv; exact ⟨g, rfl⟩
set_option maxRecDepth 100000 in
set_option maxHeartbeats 4000000 in
theorem i_blocks (n cnt : Nat) (A : Option Addr) (L c : Nat) (l : List Int) (w : World) (hn : 1 ≤ n) (hn6 : n ≤ 6) (hL : L = l.length) (h0 : 0 < L) (hl : L ≤ 1000) (hk : InK n l) (hc1 : 1 ≤ cnt) (hc6 : cnt ≤ 6) (hs : IS w w.heap.size A l) :
    Calls Tryz.prog 62 #[.agg #[.int .i64 n, .slice A L c], .int .i64 cnt] w (BKR n l cnt w) := by
  have hsub := fun W => i_subsets n hn6 cnt 0 W hc6 (Nat.zero_le _)
  rw [show ((0 : Nat) : Int) = 0 by rfl] at hsub
  have hib := fun Ap cp pts W hs' h5 h8 h9 => i_isBlock n A Ap L c cnt cp l pts W hn hn6 hL hl hk hs' h5 (by omega) hc6 h8 h9
  have hmb := fun W h => i_members n A L c l W hn hn6 hL (by omega) hk h
  have him := fun Aa ca a Ap cp pts W (ha : InR n a) h1 h2 h3 h4 => i_image Aa Ap n ca cnt cp a pts W ha hn6 h1 h2 (by omega) hc6 h3 h4
  have hmi := fun k (h : k < L) => mem_in hk k (by rw [memL_len, ← hL]; exact h)
  have hml := memL_len n l
  have hsi := fun j (hj : j < (sI n cnt 0).length) => sI_in (n := n) (k := cnt) (j := j) hj
  have hsl := sI_le (n := n) (c := cnt) (f := 0) hn6 (by omega)
  have hbk : ∀ pts, bkB n l pts = (decide (gt pts 0 = 0) && blkB (memL n l) pts) := fun _ => rfl
  have hf0 : (∀ j, j < (sI n cnt 0).length → bkB n l (gl (sI n cnt 0) j) = false) → bkF n l cnt = none := fun h => find_no h
  have hf1 : ∀ k, k < (sI n cnt 0).length → bkB n l (gl (sI n cnt 0) k) = true → (∀ j, j < k → bkB n l (gl (sI n cnt 0) j) = false) → bkF n l cnt = some (gl (sI n cnt 0) k) := fun k h1 h2 h3 => find_at h1 h2 h3
  have hout : ∀ pts ll', List.Perm ll' ((memL n l).map fun a => imgL a pts) → (ll'.Pairwise fun a b => ¬ lexC b a < 0) → bkO n l pts (cpL ll') := fun pts ll' h1 h2 => ⟨cp_strict h2, fun b => by rw [cp_mem, h1.mem_iff, List.mem_map]⟩
  unfold BKR
  generalize bkF n l cnt = bf at *
  generalize bkB n l = bb at *
  generalize bkO n l = bo at *
  generalize memL n l = ms at *
  generalize blkB ms = bl at *
  generalize sI n cnt 0 = S at *
  rw [← hL] at hml
  have HMI := Lib.hid hmi
  have HML := Lib.hid hml
  have HSI := Lib.hid hsi
  have HBK := Lib.hid hbk
  have HF0 := Lib.hid hf0
  have HF1 := Lib.hid hf1
  have HOUT := Lib.hid hout
  obtain ⟨i1, hi1, hy0, hy1, hy2⟩ := info_parts infoSl
  clear hmi hml hsi hbk hf0 hf1 hout hL hk
  have B0 := BK.new w 26 #[.int .i64 (n : Int), .slice A L c]
  have hb0 := (Below.refl w.heap.size w).alloc (Nat.le_refl _) (.cells #[.int .i64 (n : Int), .slice A L c] 26)
  have hs0 := hs.call hb0
  obtain ⟨f0, f1, _, _⟩ := B0.two
  go_enter Tryz.func62, Tryz.ntmps62
  go_wp2_with (fail)
  generalize w.alloc (.cells #[.int .i64 (n : Int), .slice A L c] 26) = w0 at *
  refine (hsub _).mono ?_
  rintro e w2 ⟨v, rfl, ⟨vs, ho2, hr2⟩, hb2⟩
  obtain ⟨A2, c2, rfl, _⟩ := own_slice' ho2
  have hii := OwnII.ii ho2 hr2
  have b2 := bel_call hb0 hb2
  have B2 := B0.of_below hb2
  have hs2 := hs0.call hb2
  have hbz := B2.lt
  generalize hSL : S.length = SL at *
  have HSL := Lib.hid hSL
  clear f0 f1 hb2 B0 hs0 hb0 ho2 hr2 hsub hSL
  go_wp2_with (fail)
  go_loopw [15] (fun u15 wr => ∃ k : Nat, k ≤ SL ∧ u15 = .int .i64 k ∧ Hid (∀ j, j < k → bb (gl S j) = false) ∧ Below w2.heap.size w2 wr) (fun u15 _ => SL - (intOf u15).toNat)
  case atStart => exact ⟨0, Nat.zero_le _, rfl, fun j hj => by omega, Below.refl _ _⟩
  case round =>
    obtain ⟨ws, rfl⟩ : ∃ ws : World, ws = wr := ⟨_, rfl⟩
    obtain ⟨k, hk, rfl, HI, hb⟩ := hrel
    have hsz := hb.size
    have BW := B2.below hb hbz
    obtain ⟨g0, g1, _, _⟩ := BW.two
    have hsw := hs2.call hb
    by_cases hlt : k < SL
    · have hkS : k < S.length := by rw [HSL.out]; exact hlt
      obtain ⟨tb, toff, rfl, htb, htc⟩ := hii.at hkS
      obtain ⟨Ap, cp, e1, _, _, his⟩ := htc k hkS
      have e1 := (hb.cell (p := ⟨tb, toff + k, none⟩) htb).trans e1
      have his := (his.below hb).more (show w2.heap.size ≤ ws.heap.size by omega)
      obtain ⟨hpl, hpr⟩ := HSI.out k hlt
      rw [hpl] at e1
      obtain ⟨pb, poff, rfl, hpb, hpc⟩ := his.at (k := 0) (by rw [hpl]; omega)
      have e2 := hpc 0 (by rw [hpl]; omega)
      rw [Nat.add_zero] at e2
      have hbk := HBK.out (gl S k)
      have hibk := hib (some ⟨pb, poff, none⟩) cp (gl S k) ws hsw hpl.symm hpr his
      have hf1 := HF1.out k hlt
      have hst : bb (gl S k) = false → ∀ j, j < k + 1 → bb (gl S j) = false := fun h j hj => by
        by_cases e : j = k
        · subst e; exact h
        · exact HI.out j (by omega)
      have him2 := fun Aa ca a W (ha : InR n a) h1 h4 => him Aa ca a (some ⟨pb, poff, none⟩) cp (gl S k) W ha h1 hpl.symm hpr h4
      have hout2 := HOUT.out (gl S k)
      have hlen : ∀ a, (imgL a (gl S k)).length = cnt := fun a => by rw [img_len, hpl]
      generalize gl S k = pts at *
      have HPL := Lib.hid hpl
      have HST := Lib.hid hst
      have HBK2 := Lib.hid hbk
      have HF12 := Lib.hid hf1
      have HOUT2 := Lib.hid hout2
      have HLEN := Lib.hid hlen
      clear htc hpc hpl hpr hst hbk hf1 hout2 hlen hib him
      generalize hp0 : gt pts 0 = p0 at *
      have HP0 := Lib.hid hp0
      clear hp0
      by_cases hz : p0 = 0
      · subst hz
        cases hbl : bl pts
        · rw [hbl] at hibk
          have HX := Lib.hid (HST.out (by rw [HBK2.out, hbl, Bool.and_false]))
          clear hbl
          go_wp2_with (go_at_call 73; refine hibk.mono ?_; rintro e w3 ⟨rfl, hb3⟩)
          go_roundw
          case rel => exact ⟨k + 1, by omega, by go_num, HX.out, hb.trans (hb3.mono hsz)⟩
          case measure => simp [intOf]; omega
        · rw [hbl] at hibk
          have HX := Lib.hid (HF12.out (by rw [HBK2.out, hbl]; rfl) HI.out)
          clear hbl
          have hmb2 := fun W h => hmb W h
          go_wp2_with (first
            | (go_at_call 73; refine hibk.mono ?_; rintro e w3 ⟨rfl, hb3⟩; obtain ⟨g2, g3, _, _⟩ := (BW.of_below hb3).two)
            | (go_at_call 120; refine (hmb2 _ (hsw.call hb3)).mono ?_; rintro e w4 ⟨A4, c4, vs4, rfl, ho4, hr4, hb4⟩; rw [HML.out] at ho4 ⊢))
          have hii4 := OwnII.ii ho4 hr4
          have his4 := (his.call hb3).call hb4
          have b4 := bel_call (bel_call (bel_call b2 hb) hb3) hb4
          have hz4 := b4.size
          clear hmb2 hibk g2 g3 g0 g1 ho4 hr4 hb3 hb4 his hsw hs2 hii hmb
          go_loopw [7, 32] (fun u7 u32 wr => ∃ (i : Nat) (vi : List Value), i ≤ L ∧ u32 = .int .i64 i ∧ wr.ownsRow w4.heap.size 24 1 u7 i vi ∧ RowsO wr w4.heap.size vi ((ms.take i).map fun a => imgL a pts) ∧ Below w4.heap.size w4 wr) (fun _ u32 _ => L - (intOf u32).toNat)
          case atStart => exact ⟨0, [], Nat.zero_le _, rfl, World.ownsRow_nil _ _ _ _, ⟨rfl, fun i hi => by simp at hi, fun i j _ hj => by simp at hj⟩, Below.refl _ _⟩
          case round =>
            obtain ⟨wt, rfl⟩ : ∃ wt : World, wt = wr := ⟨_, rfl⟩
            obtain ⟨i, vi, hi, rfl, hown, hrows, hbi⟩ := hrel
            obtain ⟨A6, c6, rfl, _⟩ := own_slice' hown
            have hszi := hbi.size
            by_cases hil : i < L
            · have him3 : i < ms.length := by rw [HML.out]; exact hil
              obtain ⟨mb, moff, rfl, hmbb, hmc⟩ := hii4.at him3
              obtain ⟨Ab, cb, m1, _, _, hra⟩ := hmc i him3
              have m1 := (hbi.cell (p := ⟨mb, moff + i, none⟩) hmbb).trans m1
              have hra := (hra.below hbi).more hszi
              have hR := HMI.out i hil
              rw [hR.1] at m1
              have hst := take_mapf (ll := ms) (fun a => imgL a pts) (i := i) him3
              have hcall := him2 Ab cb (gl ms i) wt hR hra (his4.call hbi)
              have hln := HLEN.out (gl ms i)
              generalize imgL (gl ms i) pts = im at *
              have HST2 := Lib.hid hst
              have HLN := Lib.hid hln
              clear hst hmc hR hln him2
              go_wp2_with (first
                | (go_at_call 125; refine hcall.mono ?_; rintro e w5 ⟨v5, rfl, ho5, hb5⟩; obtain ⟨A5, c5, rfl, _⟩ := own_slice' ho5)
                | (at_builtin; refine wpList_append_src rfl (.tmp 36) (.tmp 40) 29 rfl w4.heap.size 24 i1 (.slice none 0 0) 1 24 Tryz.underlying29 hi1 hy0 hy1 hy2 rfl (by omega) (.slice A6 i c6) i vi rfl (World.ownsRow.alloc (own_below hown hb5) _) (some ⟨w5.heap.size, 0, none⟩) 1 1 [.slice A5 cnt c5] rfl rfl (one_src w5 _ _) (by intro h; cases h) (by intro u hu; simp at hu; subst hu; rfl) (by simp only [maxLen]; omega) (by omega) (by have := hb5.size; simp; omega) ?_; intro v7 w7 hown7 hg7 hat7))
              have hr7 := row_more (v1 := .slice A5 cnt c5) (b := im) hg7 hown hrows hszi (by rw [HLN.out]; exact ho5) hb5
              have hz5 := hb5.size
              go_roundw
              case rel =>
                refine ⟨i + 1, _, by omega, by go_num, hown7, by rw [HST2.out]; exact hr7, ?_⟩
                exact ((hbi.trans (hb5.mono hszi)).alloc (by omega) _).grown hg7 (by simp; omega) (fun y hy => by have := (hown.lt y hy).1; omega)
              case measure => simp [intOf]; omega
            · obtain rfl : i = L := by omega
              rw [List.take_of_length_le (by rw [HML.out]; exact Nat.le_refl _)] at hrows
              obtain ⟨g, rfl⟩ := own_some hown h0
              have hgl := hown.lt g rfl
              have hmem : ∀ b, b ∈ (ms.map fun a => imgL a pts) → b.length = cnt := fun b hb' => by
                obtain ⟨a, _, rfl⟩ := List.mem_map.1 hb'
                exact HLEN.out a
              have hml2 : i = (ms.map fun a => imgL a pts).length := by rw [List.length_map, HML.out]
              have hsort := c_sortRows g i c6 w4.heap.size vi (ms.map fun a => imgL a pts) wt h0 hml2 hl (fun k hk' => by rw [hmem _ (gl_mem (by rw [← hml2]; exact hk'))]; omega) hown hrows
              have hbt := bel_call b4 hbi
              have HMEM := Lib.hid hmem
              have HM2 := Lib.hid hml2
              clear hmem hml2 hii4 his4 him2 hown hrows
              go_wp2_with (fail)
              refine hsort.mono ?_
              rintro e w7 ⟨rfl, vs7, ll7, hp7, hs7, ho7, hr7, hg7⟩
              have hl7 : i = ll7.length := by rw [hp7.length_eq]; exact HM2.out
              have hcmp := c_compactF g i c6 w4.heap.size vs7 ll7 w7 hl7 (by omega) (fun k hk' => by rw [HMEM.out _ (hp7.mem_iff.1 (gl_mem (by rw [← hl7]; exact hk')))]; omega) ho7 hr7
              have hb7 := hbt.grown hg7 hbt.size (fun y hy => by injection hy with hy; omega)
              have hcpos : 0 < (cpL ll7).length := by
                have h9 : gl ll7 0 ∈ cpL ll7 := (cp_mem _).2 (gl_mem (by rw [← hl7]; exact h0))
                exact List.length_pos_of_mem h9
              have HOK := Lib.hid (HOUT2.out ll7 hp7 (hs7.imp fun h => Int.not_lt.1 h))
              have HCP := Lib.hid hcpos
              clear hsort hp7 hs7 hl7 ho7 hr7 hcpos
              go_wp2_with (fail)
              refine hcmp.mono ?_
              rintro e w8 ⟨m, vs8, rfl, hm, ho8, hr8, hg8⟩
              have hb8 := hb7.grown hg8 hb7.size (fun y hy => by injection hy with hy; omega)
              have HM := Lib.hid hm
              clear hm hcmp
              go_wp2_with (fail)
              go_ret
              exact .inr ⟨pts, cpL ll7, g, m, c6, vs8, HX.out, HOK.out, by rw [HM.out]; exact HCP.out, HM.out, rfl, own_mono ho8 hz4, hr8.mono hz4, hb8⟩
      · have hz1 : (p0 == 0) = false := by rw [beq_eq_false_iff_ne]; exact hz
        have hz2 : (p0 != 0) = true := by rw [bne_iff_ne]; exact hz
        have HX := Lib.hid (HST.out (by rw [HBK2.out, decide_eq_false hz, Bool.false_and]))
        clear hz
        go_wp2_with (fail)
        go_roundw
        case rel => exact ⟨k + 1, by omega, by go_num, HX.out, hb⟩
        case measure => simp [intOf]; omega
    · obtain rfl : k = SL := by omega
      have HX := Lib.hid (HF0.out HI.out)
      go_wp2_with (fail)
      go_ret
      exact .inl ⟨HX.out, rfl, bel_call b2 hb⟩
end Go.Proofs.YtglijcdnnaekkaaGreat
