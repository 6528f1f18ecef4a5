/- Several parts of the proof in one text; each part says what it shows. Nothing is assumed. -/
import Derived.Test.YtifaccppbhbfhaaA354
/- Rows in memory; trim of a part of a block. -/
namespace Go.Proofs.Ytifaccppbhbfhaa
set_option linter.unusedVariables false
set_option linter.unusedSimpArgs false
open Go.RowKit

theorem infoBoolF : (Try.prog.info? 4).map (fun i => (i.zero, i.size, i.bytes)) = some (some (.bool false), 1, 1) := by kernel_rfl
/-- The cells of a block, from o on, hold f. -/
def CA (w : World) (g o : Nat) (f : List Int) : Prop := g < w.heap.size ∧ ∀ j, j < f.length → w.cell? ⟨g, o + j, none⟩ = some (.int .i64 (gt f j))
theorem CA.drewN {w : World} {g o : Nat} {f : List Int} (h : CA w g o f) (n : Nat) : CA (w.drewN n) g o f := h
theorem CA.src {w : World} {g o : Nat} {f : List Int} (h : CA w g o f) (t : Nat) : ∀ j u, (ints (f.take t))[j]? = some u → w.cell? ((⟨g, o, none⟩ : Addr).add j) = some u := by
  intro j u hu
  have hj : j < (f.take t).length := by
    rcases Nat.lt_or_ge j (f.take t).length with h | h
    · exact h
    · rw [List.getElem?_eq_none (by rw [ints_length]; exact h)] at hu; cases hu
  rw [ints_at hj] at hu
  have hjt : j < f.length := by simp at hj; omega
  have h2 := h.2 j hjt
  rw [gt_take, if_pos (by simp at hj; omega)] at hu
  rw [← hu, Go.WideShapes.add_plain]
  exact h2
theorem OS.ca {w : World} {g n : Nat} {l : List Int} (h : OS w g l) : CA w g n (l.drop n) := ⟨h.lt, fun j hj => by
  rw [List.length_drop] at hj
  rw [h.cell (by omega), gt_drop]⟩
set_option maxRecDepth 10000 in
set_option maxHeartbeats 1000000 in
theorem s_trimAt (g o n c : Nat) (f : List Int) (w : World) (hn : n = f.length) (hl : n ≤ 1000) (hcap : n ≤ c) (hs : CA w g o f) :
    Calls Try.prog 37 #[.slice (some ⟨g, o, none⟩) n c] w (RV (trimL f) w) := by
  have hlt : ∀ m j, ((⟨g, o, none⟩ : Addr).add j).block < (w.drewN m).heap.size := fun m j => by
    have h := hs.1
    rw [show ((⟨g, o, none⟩ : Addr).add j).block = g by unfold Addr.add; split <;> rfl]
    exact h
  have hT : trimL f = f.take (trimN f f.length) := rfl
  have hle := trimN_le f f.length
  have hTL := trimL_len f
  have HN := Lib.hid hn
  rw [← hn] at hT hle hTL
  clear hn
  generalize htt : trimN f n = t at *
  have hsrc := fun m => (hs.drewN m).src t
  rw [← hT] at hsrc
  have HTT := Lib.hid htt
  have HTL := Lib.hid hTL.symm
  clear htt hT hTL
  generalize trimL f = tf at *
  go_enter Try.func37, Try.ntmps37
  go_wp2_with (fail)
  go_loopw [3] (fun u3 wr => ∃ k : Nat, k ≤ n ∧ u3 = .int .i64 k ∧ Hid (trimN f k = t) ∧ ∃ m, wr = w.drewN m) (fun u3 _ => (intOf u3).toNat)
  case atStart => exact ⟨n, Nat.le_refl _, rfl, HTT.out, 0, rfl⟩
  case round =>
    obtain ⟨k, hk, rfl, HI, m, rfl⟩ := hrel
    by_cases h0 : 0 < k
    · have hc := (hs.drewN m).2 (k - 1) (by rw [← HN.out]; omega)
      have hs1 : IntKind.i64.wrap ((k : Int) - 1) = (k : Int) - 1 := IntWalk.i64_in _ (by omega)
      have hs2 : ((k : Int) - 1).toNat = k - 1 := by omega
      have hs3 : 1 ≤ (k : Int) := by omega
      have hs4 : 0 ≤ (k : Int) - 1 := by omega
      have hs5 : (k : Int) - 1 < (n : Int) := by omega
      have hT : Hid (trimN f k = if gt f (k - 1) = 0 then trimN f (k - 1) else k) := by
        obtain ⟨q, rfl⟩ : ∃ q, k = q + 1 := ⟨k - 1, by omega⟩
        exact rfl
      by_cases hz : gt f (k - 1) = 0
      · have hI : trimN f (k - 1) = t := by have h := HI.out; rw [hT.out, if_pos hz] at h; exact h
        have HI2 := Lib.hid hI
        rw [hz] at hc
        clear hI hz HI hT hsrc
        go_wp2_with (go_quiet (fail))
        go_roundw
        case rel => exact ⟨k - 1, by omega, by go_num, HI2.out, by first | exact dq1 | exact dq2⟩
        case measure => simp [intOf]; omega
      · have hI : k = t := by have h := HI.out; rw [hT.out, if_neg hz] at h; exact h
        subst hI
        have hzb : (gt f (k - 1) == 0) = false := by rw [beq_eq_false_iff_ne]; exact hz
        clear hz HI hT
        generalize gt f (k - 1) = x at *
        go_wp2_with (first | (go_at_call 58; refine (s_own1 _ _ _ tf _ HTL.out (by omega) (hsrc _) (hlt _)).mono ?_; rintro e w2 ⟨A2, c2, rfl, ho2, hb2⟩) | go_quiet (fail))
        go_ret
        exact RV.und ⟨A2, c2, rfl, ho2, hb2⟩
    · obtain rfl : k = 0 := by omega
      have hI : 0 = t := HI.out
      subst hI
      clear HI
      go_wp2_with (first | (go_at_call 58; refine (s_own1 _ _ _ tf _ HTL.out (by omega) (hsrc _) (hlt _)).mono ?_; rintro e w2 ⟨A2, c2, rfl, ho2, hb2⟩) | go_quiet (fail))
      go_ret
      exact RV.und ⟨A2, c2, rfl, ho2, hb2⟩
/-- A block of headers: row i lies in the block b i. -/
def HS (w : World) (hb : Nat) (b : Nat → Nat) (n m : Nat) : Prop := ∃ cs : Array Value, BK w hb 22 cs ∧ ∀ i, i < n → cs[i]? = some (.slice (some ⟨b i, 0, none⟩) m m)
/-- A matrix: n rows of m numbers. -/
structure MX (w : World) (base hb : Nat) (b : Nat → Nat) (R : Nat → List Int) (n m : Nat) : Prop where
  hs : HS w hb b n m
  row : ∀ i, i < n → base ≤ b i ∧ b i ≠ hb ∧ OS w (b i) (R i) ∧ (R i).length = m
  inj : ∀ i j, i < n → j < n → b i = b j → i = j
section
variable {w w' : World} {base hb n m : Nat} {b : Nat → Nat} {R : Nat → List Int}
theorem HS.lt (h : HS w hb b n m) : hb < w.heap.size := by obtain ⟨cs, h1, _⟩ := h; exact h1.lt
theorem HS.cell (h : HS w hb b n m) {i : Nat} (hi : i < n) : w.cell? ⟨hb, i, none⟩ = some (.slice (some ⟨b i, 0, none⟩) m m) := by
  obtain ⟨cs, h1, h2⟩ := h
  exact (h1.cell i).trans (h2 i hi)
theorem HS.fz (h : HS w hb b n m) (i : Nat) : w.frozen? ⟨hb, i, none⟩ = false := by
  obtain ⟨cs, h1, _⟩ := h
  exact h1.frozen i
theorem HS.far (h : HS w hb b n m) {p : Addr} (hp : hb ≠ p.block) (u : Value) : HS (w.setCell p u) hb b n m := by
  obtain ⟨cs, h1, h2⟩ := h
  exact ⟨cs, h1.far hp u, h2⟩
theorem HS.call (h : HS w hb b n m) (hb' : Below w.heap.size w w') : HS w' hb b n m := by
  obtain ⟨cs, h1, h2⟩ := h
  exact ⟨cs, h1.below hb' h1.lt, h2⟩
theorem MX.drewN (h : MX w base hb b R n m) (k : Nat) : MX (w.drewN k) base hb b R n m := ⟨h.hs, h.row, h.inj⟩
theorem MX.call (h : MX w base hb b R n m) (hb' : Below w.heap.size w w') : MX w' base hb b R n m := ⟨h.hs.call hb', fun i hi => ⟨(h.row i hi).1, (h.row i hi).2.1, (h.row i hi).2.2.1.call hb', (h.row i hi).2.2.2⟩, h.inj⟩
theorem MX.cell (h : MX w base hb b R n m) {i j : Nat} (hi : i < n) (hj : j < m) : w.cell? ⟨b i, j, none⟩ = some (.int .i64 (gt (R i) j)) := (h.row i hi).2.2.1.cell (by rw [(h.row i hi).2.2.2]; exact hj)
theorem MX.fz (h : MX w base hb b R n m) {i : Nat} (hi : i < n) (j : Nat) : w.frozen? ⟨b i, j, none⟩ = false := (h.row i hi).2.2.1.fz j
theorem MX.far (h : MX w base hb b R n m) {p : Addr} (hp : hb ≠ p.block) (hp2 : ∀ i, i < n → b i ≠ p.block) (u : Value) : MX (w.setCell p u) base hb b R n m := ⟨h.hs.far hp u, fun i hi => ⟨(h.row i hi).1, (h.row i hi).2.1, (h.row i hi).2.2.1.far (hp2 i hi) u, (h.row i hi).2.2.2⟩, h.inj⟩
theorem MX.set (h : MX w base hb b R n m) {i j : Nat} (hi : i < n) (hj : j < m) (x : Int) : MX (w.setCell ⟨b i, j, none⟩ (.int .i64 x)) base hb b (upd R i ((R i).set j x)) n m := by
  obtain ⟨h1, h2, h3, h4⟩ := h.row i hi
  refine ⟨h.hs.far (fun e => h2 e.symm) _, fun k hk => ?_, h.inj⟩
  obtain ⟨g1, g2, g3, g4⟩ := h.row k hk
  by_cases e : k = i
  · subst e
    rw [upd_same]
    exact ⟨g1, g2, g3.set x (by omega), by rw [List.length_set]; exact g4⟩
  · rw [upd_ne _ _ e]
    exact ⟨g1, g2, g3.far (fun e2 => e (h.inj k i hk hi e2)) _, g4⟩
theorem MX.ext {R' : Nat → List Int} (h : MX w base hb b R n m) (e : ∀ i, i < n → R' i = R i) : MX w base hb b R' n m := ⟨h.hs, fun i hi => by rw [e i hi]; exact h.row i hi, h.inj⟩
end
theorem upd_upd {α : Type} (R : Nat → α) (i : Nat) (x y : α) : upd (upd R i x) i y = upd R i y := by
  funext j
  by_cases h : j = i
  · rw [h, upd_same, upd_same]
  · rw [upd_ne _ _ h, upd_ne _ _ h, upd_ne _ _ h]
theorem upd_self {α : Type} (R : Nat → α) (i : Nat) : upd R i (R i) = R := by
  funext j
  by_cases h : j = i
  · rw [h, upd_same]
  · rw [upd_ne _ _ h]
/-- A block of flags. -/
def US (w : World) (g : Nat) (u : Nat → Bool) (n : Nat) : Prop := ∃ cs : Array Value, BK w g 4 cs ∧ ∀ i, i < n → cs[i]? = some (.bool (u i))
section
variable {w w' : World} {g n : Nat} {u : Nat → Bool}
theorem US.lt (h : US w g u n) : g < w.heap.size := by obtain ⟨cs, h1, _⟩ := h; exact h1.lt
theorem US.cell (h : US w g u n) {i : Nat} (hi : i < n) : w.cell? ⟨g, i, none⟩ = some (.bool (u i)) := by
  obtain ⟨cs, h1, h2⟩ := h
  exact (h1.cell i).trans (h2 i hi)
theorem US.fz (h : US w g u n) (i : Nat) : w.frozen? ⟨g, i, none⟩ = false := by
  obtain ⟨cs, h1, _⟩ := h
  exact h1.frozen i
theorem US.far (h : US w g u n) {p : Addr} (hp : g ≠ p.block) (v : Value) : US (w.setCell p v) g u n := by
  obtain ⟨cs, h1, h2⟩ := h
  exact ⟨cs, h1.far hp v, h2⟩
theorem US.call (h : US w g u n) (hb : Below w.heap.size w w') : US w' g u n := by
  obtain ⟨cs, h1, h2⟩ := h
  exact ⟨cs, h1.below hb h1.lt, h2⟩
theorem US.drewN (h : US w g u n) (k : Nat) : US (w.drewN k) g u n := h
theorem US.set (h : US w g u n) {i : Nat} (hi : i < n) (x : Bool) : US (w.setCell ⟨g, i, none⟩ (.bool x)) g (upd u i x) n := by
  obtain ⟨cs, h1, h2⟩ := h
  refine ⟨_, h1.set i (.bool x), fun j hj => ?_⟩
  have h3 := h2 i hi
  have hsz : i < cs.size := by
    rcases Nat.lt_or_ge i cs.size with h4 | h4
    · exact h4
    · rw [Array.getElem?_eq_none h4] at h3; cases h3
  rw [Array.getElem?_setIfInBounds]
  by_cases e : i = j
  · subst e; rw [if_pos rfl, if_pos hsz, upd_same]
  · rw [if_neg e, upd_ne _ _ (fun e2 => e e2.symm)]; exact h2 j hj
theorem US.new (w : World) (n : Nat) : US (w.alloc (.cells (madeCells #[.bool false] n) 4)) w.heap.size (fun _ => false) n := by
  refine ⟨_, BK.new _ _ _, fun j hj => ?_⟩
  simp [madeCells, hj, Nat.mod_one]
end
end Go.Proofs.Ytifaccppbhbfhaa
/- Contract: the reference's kernel; the rows are laid. -/
namespace Go.Proofs.Ytifaccppbhbfhaa
set_option linter.unusedVariables false
set_option linter.unusedSimpArgs false
open Go.RowKit

section
variable (P : Nat) [NeZero P]
theorem mono_X (i : Nat) : (FX.mono 1 i : FX.Pol (Fin P)) = FX.X ^ i := FX.Pol.ext fun k => by
  have h := FX.Xn_mul (K := Fin P) i 1 k
  rw [show FX.X ^ i * (1 : FX.Pol (Fin P)) = FX.X ^ i by exact FX.rg] at h
  rw [h]
  show (if k = i then (1 : Fin P) else 0) = _
  rw [FX.Pol.one_def]
  by_cases hk : i ≤ k
  · rw [if_pos hk, FX.Pol.const_c]
    by_cases e : k = i
    · rw [if_pos e, if_pos (by omega)]
    · rw [if_neg e, if_neg (by omega)]
  · rw [if_neg hk, if_neg (by omega)]
theorem rw0_of (hp : FX.Prm P) {f img l : List Int} {n i : Nat} (hi : i < n) (hl : l.length = 2 * n) (him : FX.Can P img) (hil : img.length ≤ n) (hd : FX.Dv (FX.toP P f) (FX.toP P [0, 1] ^ (i * P) - FX.toP P img))
    (hg : ∀ k, gt l k = if k = n + i then 1 else if k = i then (gt img i - 1) % (P : Int) else gt img k) : RW0 P f n i l := by
  have hp2 : 2 ≤ P := hp.1
  have hbd : Bd P l := fun k => by
    rw [hg]
    split
    · omega
    · split
      · exact mod_bd P _
      · exact him.1 k
  have hB : rowB P n l = FX.mono 1 i := FX.Pol.ext fun k => by
    rw [rowB_c, hg]
    show _ = if k = i then (1 : Fin P) else 0
    by_cases e : k = i
    · rw [if_pos (by omega), if_pos e, FX.ci_1]
    · rw [if_neg (by omega), if_neg (by omega), if_neg e, gt_big (by omega), FX.ci_0]
  have hA : rowA P n l = FX.toP P img - FX.mono 1 i := FX.Pol.ext fun k => by
    rw [rowA_c, FX.Pol.sub_c, FX.toP_c, hg]
    show _ = _ - if k = i then (1 : Fin P) else 0
    by_cases hk : k < n
    · rw [if_pos hk, if_neg (by omega)]
      by_cases e : k = i
      · rw [if_pos e, if_pos e, FX.ci_mod, FX.ci_sub, FX.ci_1, e]
      · rw [if_neg e, if_neg e]; exact FX.rg
    · rw [if_neg hk, if_neg (by omega), gt_big (xs := img) (by omega), FX.ci_0]; exact FX.rg
  refine ⟨hbd, hl, hB, ?_⟩
  rw [hA, mono_X]
  unfold FX.Phi
  rw [FX.pow_mul', show FX.X ^ (i * P) - FX.X ^ i - (FX.toP P img - FX.X ^ i) = FX.X ^ (i * P) - FX.toP P img by exact FX.rg, ← FX.toP_X]
  exact hd
end
theorem subM_succ0 (P c : Int) (g out : List Int) (k : Nat) : subM P c g out 0 (k + 1) = (subM P c g out 0 k).set k ((gt (subM P c g out 0 k) k - c * gt g k) % P) := by rw [subM, Nat.zero_add]
theorem elim_zero (P : Nat) [NeZero P] {x v z q : Int} (hv : FX.ci P v * FX.ci P z = 1) (hq : q = x * v % (P : Int)) : (x - q * z) % (P : Int) = 0 := by
  refine (FX.ci_zero P).1 ?_
  rw [FX.ci_sub, FX.ci_mul, hq, FX.ci_mod, FX.ci_mul]
  exact FX.rh hv (-FX.ci P x) FX.rg
def hdr (b : Nat → Nat) (m i : Nat) : List Value := (List.range i).map fun k => .slice (some ⟨b k, 0, none⟩) m m
theorem hdr_len (b : Nat → Nat) (m i : Nat) : (hdr b m i).length = i := by simp [hdr]
theorem hdr_at (b : Nat → Nat) (m i k : Nat) (h : k < i) : (hdr b m i)[k]? = some (.slice (some ⟨b k, 0, none⟩) m m) := by simp [hdr, h]
theorem hdr_upd (b : Nat → Nat) (m i g : Nat) : hdr (upd b i g) m (i + 1) = hdr b m i ++ [.slice (some ⟨g, 0, none⟩) m m] := by
  unfold hdr
  rw [List.range_succ, List.map_append, List.map_singleton, upd_same]
  congr 1
  refine List.map_congr_left fun k hk => ?_
  rw [List.mem_range] at hk
  rw [upd_ne _ _ (by omega)]
/-- The rows that are laid so far. -/
structure BL (P : Nat) [NeZero P] (w : World) (base : Nat) (A : Option Addr) (c i : Nat) (b : Nat → Nat) (R : Nat → List Int) (n : Nat) (f : List Int) : Prop where
  own : w.ownsRow base 22 1 (.slice A i c) i (hdr b (2 * n) i)
  row : ∀ k, k < i → base ≤ b k ∧ (Value.slice A i c).ownBlock ≠ some (b k) ∧ OS w (b k) (R k) ∧ RW0 P f n k (R k)
  inj : ∀ k j, k < i → j < i → b k = b j → k = j
theorem BL.mx {P : Nat} [NeZero P] {w : World} {base : Nat} {A : Option Addr} {c n : Nat} {b : Nat → Nat} {R : Nat → List Int} {f : List Int} (h : BL P w base A c n b R n f) (h0 : 0 < n) : ∃ hb, A = some ⟨hb, 0, none⟩ ∧ base ≤ hb ∧ MX w base hb b R n (2 * n) ∧ K1 P f n R := by
  rcases h.own.2 with ⟨_, h1⟩ | ⟨g, cap, cur, hv, hb, hh, hle, hmx, hsz, htk⟩
  · omega
  · injection hv with e1 e2 e3
    refine ⟨g, e1, hb, ⟨⟨cur, hh, fun i hi => ?_⟩, fun i hi => ?_, h.inj⟩, K1.start P fun i hi => (h.row i hi).2.2.2⟩
    · have h1 := hdr_at b (2 * n) n i hi
      rw [← htk, List.getElem?_take, if_pos (by omega), Array.getElem?_toList] at h1
      exact h1
    · obtain ⟨g1, g2, g3, g4⟩ := h.row i hi
      exact ⟨g1, fun e => g2 (by rw [e1, e]; rfl), g3, g4.2.1⟩
theorem BL.call {P : Nat} [NeZero P] {w w' : World} {base : Nat} {A : Option Addr} {c i n : Nat} {b : Nat → Nat} {R : Nat → List Int} {f : List Int} (h : BL P w base A c i b R n f) (hb : Below w.heap.size w w') : BL P w' base A c i b R n f :=
  ⟨own_below h.own hb, fun k hk => ⟨(h.row k hk).1, (h.row k hk).2.1, (h.row k hk).2.2.1.call hb, (h.row k hk).2.2.2⟩, h.inj⟩
theorem BL.start (P : Nat) [NeZero P] (w : World) (n : Nat) (f : List Int) : BL P (w.alloc (.cells #[] 22)) w.heap.size (some ⟨w.heap.size, 0, none⟩) 0 0 (fun _ => 0) (fun _ => []) n f :=
  ⟨World.ownsRow_lit (base := w.heap.size) (e := 22) (size := 1) w #[] 0 (Nat.le_refl _) (by simp [maxLen]) rfl, fun k hk => by omega, fun k j hk => by omega⟩
theorem BL.push {P : Nat} [NeZero P] {w wa w7 : World} {base n : Nat} {A A7 : Option Addr} {c c7 i g : Nat} {b : Nat → Nat} {R : Nat → List Int} {f l : List Int} (h : BL P w base A c i b R n f) (hbw : base ≤ w.heap.size) (hb : Below w.heap.size w wa) (hg1 : w.heap.size ≤ g) (hg2 : g < wa.heap.size) (hl : OS wa g l) (hr : RW0 P f n i l)
    (ho : w7.ownsRow base 22 1 (.slice A7 (i + 1) c7) (i + 1) (hdr b (2 * n) i ++ [.slice (some ⟨g, 0, none⟩) (2 * n) (2 * n)])) (hg : wa.grownBy w7 (Value.slice A i c).ownBlock) (ha : (Value.slice A7 (i + 1) c7).ownBlock = (Value.slice A i c).ownBlock ∨ (Value.slice A7 (i + 1) c7).ownBlock = some wa.heap.size) : BL P w7 base A7 c7 (i + 1) (upd b i g) (upd R i l) n f := by
  have hob : ∀ x, (Value.slice A i c).ownBlock = some x → x < w.heap.size := fun x hx => (h.own.lt x hx).2
  have hk : ∀ k, k < i → b k < w.heap.size := fun k hk => (h.row k hk).2.2.1.lt
  refine ⟨by rw [hdr_upd]; exact ho, fun k hk' => ?_, fun k j hk' hj e => ?_⟩
  · by_cases e : k = i
    · subst e
      rw [upd_same, upd_same]
      refine ⟨by omega, fun e2 => ?_, ?_, hr⟩
      · rcases ha with h3 | h3
        · rw [h3] at e2; have := hob _ e2; omega
        · rw [h3] at e2; injection e2 with e2; omega
      · obtain ⟨cs, h3, h4⟩ := hl
        exact ⟨cs, (hg.block g hg2 (fun e2 => by have := hob _ e2.symm; omega)).trans h3, h4⟩
    · rw [upd_ne _ _ e, upd_ne _ _ e]
      obtain ⟨r1, r2, r3, r4⟩ := h.row k (by omega)
      refine ⟨r1, fun e2 => ?_, ?_, r4⟩
      · rcases ha with h3 | h3
        · rw [h3] at e2; exact r2 e2
        · rw [h3] at e2; injection e2 with e2; have := hk k (by omega); have := hb.size; omega
      · obtain ⟨cs, h3, h4⟩ := r3.call hb
        exact ⟨cs, (hg.block (b k) (by have := hk k (by omega); have := hb.size; omega) (fun e2 => r2 e2.symm)).trans h3, h4⟩
  · by_cases e1 : k = i
    · by_cases e2 : j = i
      · omega
      · rw [e1, upd_same, upd_ne _ _ e2] at e
        have := hk j (by omega); omega
    · by_cases e2 : j = i
      · rw [e2, upd_same, upd_ne _ _ e1] at e
        have := hk k (by omega); omega
      · rw [upd_ne _ _ e1, upd_ne _ _ e2] at e
        exact h.inj k j (by omega) (by omega) e
/-- A list that takes over the first k numbers of another. -/
def CPL (img : List Int) (m k : Nat) (l : List Int) : Prop := l.length = m ∧ ∀ j, gt l j = if j < k then gt img j else 0
theorem CPL.start (img : List Int) (m : Nat) : CPL img m 0 (List.replicate m 0) := ⟨by simp, fun j => by rw [gt_rep, if_neg (by omega)]⟩
theorem CPL.step {img : List Int} {m k : Nat} {l : List Int} (h : CPL img m k l) (hk : k < m) : CPL img m (k + 1) (l.set k (gt img k)) := by
  obtain ⟨h1, h2⟩ := h
  refine ⟨by rw [List.length_set]; exact h1, fun j => ?_⟩
  rw [gt_setI j (by omega), h2 j]
  by_cases e : k = j
  · subst e; rw [if_pos rfl, if_pos (by omega)]
  · rw [if_neg e]
    by_cases e2 : j < k
    · rw [if_pos e2, if_pos (by omega)]
    · rw [if_neg e2, if_neg (by omega)]
theorem CPL.row {img : List Int} {n m i : Nat} {l : List Int} {x : Int} (h : CPL img m img.length l) (hm : n + n ≤ m) (hi : i < n) : ((l.set i x).set (n + i) 1).length = m ∧ ∀ k, gt ((l.set i x).set (n + i) 1) k = if k = n + i then 1 else if k = i then x else gt img k := by
  obtain ⟨h1, h2⟩ := h
  refine ⟨by rw [List.length_set, List.length_set]; exact h1, fun k => ?_⟩
  rw [gt_setI k (by rw [List.length_set]; omega)]
  by_cases e : n + i = k
  · rw [if_pos e, if_pos e.symm]
  · rw [if_neg e, if_neg (fun e2 => e e2.symm), gt_setI k (by omega)]
    by_cases e3 : i = k
    · rw [if_pos e3, if_pos e3.symm]
    · rw [if_neg e3, if_neg (fun e2 => e3 e2.symm), h2]
      split
      · rfl
      · exact (gt_big (by omega)).symm
end Go.Proofs.Ytifaccppbhbfhaa
