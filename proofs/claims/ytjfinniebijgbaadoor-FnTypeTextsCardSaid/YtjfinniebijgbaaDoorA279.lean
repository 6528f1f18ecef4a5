/- Draws of permutations and types. -/
import Derived.Test.YtjfinniebijgbaaDoorA101
import Derived.Test.YtjfinniebijgbaaDoorA112
namespace Go.Proofs.YtjfinniebijgbaaDoor
set_option linter.unusedVariables false
set_option linter.unusedSimpArgs false
open Go.RowKit

/-- A drawn permutation. -/
def VP (g : Nat) (w : World) (e : Ending) (w' : World) : Prop := ∃ (n r c : Nat) (A : Option Addr), 1 ≤ n ∧ n ≤ 6 ∧ r < fact n ∧ e = .returned (.slice A n c) ∧ w'.ownsRow w.heap.size 2 1 (.slice A n c) n (ints (wrL n r)) ∧ SRC w' g ∧ Up g w.heap.size w w'
set_option maxRecDepth 20000 in
set_option maxHeartbeats 1000000 in
theorem s_l21Valid (g : Nat) (w : World) (hs : SRC w g) : Calls Tryd.prog 35 #[.pointer (some ⟨g, 0, none⟩)] w (VP g w) := by
  have hgl := hs.lt
  have hn6 := s_nextI g 6 (by omega) w hs
  go_enter Tryd.func35, Tryd.ntmps35
  go_wp2_with (go_at_call 36; refine hn6.mono ?_; rintro e w1 ⟨k, rfl, hk, hs1, hu1⟩; have hw1 : IntKind.i64.wrap (1 + (k : Int)) = 1 + (k : Int) := IntWalk.i64_in _ (by omega); have hpk := s_pick4 g 4 5 6 (1 + (k : Int)) w1 hs1)
  refine hpk.mono ?_
  rintro e w2 ⟨x, rfl, hx, hs2, hu2⟩
  have hx6 : 1 ≤ x ∧ x ≤ 6 := by simp at hx; omega
  obtain ⟨n, rfl⟩ : ∃ n : Nat, x = n := ⟨x.toNat, by omega⟩
  have hn1 : 1 ≤ n := by omega
  have hn6' : n ≤ 6 := by omega
  have hfc := fun W => s_factN n W (by omega)
  have hf1 := fact_pos n
  have hwn := fun r W h => s_l21With n r W hn1 (by omega) h
  have u2 := hu1.call hu2
  clear hx hx6 hn6 hpk hw1 hu1 hu2 hs hs1
  generalize hF : fact n = F at *
  have HF := Lib.hid hF
  clear hF
  go_wp2_with (first
    | (go_at_call 56; refine (hfc _).mono ?_; rintro e w3 ⟨rfl, q3, rfl⟩)
    | (go_at_call 36; refine (s_nextI g (F : Nat) (by omega) _ (hs2.drewN q3)).mono ?_; rintro e w4 ⟨r, rfl, hr, hs4, hu4⟩; have hu4 : Up g w2.heap.size w2 w4 := ⟨hu4.os, hu4.tape, hu4.output, hu4.size, hu4.block⟩; have hr := Int.ofNat_lt.mp hr)
    | (go_at_call 55; refine (hwn r _ hr).mono ?_; rintro e w5 ⟨v5, rfl, o5, hb5⟩; obtain ⟨A5, c5, rfl, _⟩ := own_slice' o5))
  have hz := (u2.call hu4).size
  go_ret
  exact ⟨n, r, c5, A5, hn1, hn6', by rw [HF.out]; exact hr, rfl, own_mono o5 hz, hs4.call hb5, (u2.call hu4).thenB hb5⟩
/-- A slice reads as l, in a block from lo on. -/
def ISG (w : World) (lo : Nat) (A : Option Addr) (l : List Int) : Prop := 0 < l.length → ∃ b off, A = some ⟨b, off, none⟩ ∧ lo ≤ b ∧ b < w.heap.size ∧ ∀ k, k < l.length → w.cell? ⟨b, off + k, none⟩ = some (.int .i64 (gt l k))
theorem ISG.is {w : World} {lo : Nat} {A : Option Addr} {l : List Int} (h : ISG w lo A l) : IS w w.heap.size A l := fun h0 => by
  obtain ⟨b, off, rfl, _, h2, h3⟩ := h h0
  exact ⟨b, off, rfl, h2, h3⟩
theorem ISG.keep {w w' : World} {lo : Nat} {A : Option Addr} {l : List Int} (h : ISG w lo A l) (hz : w.heap.size ≤ w'.heap.size) (hk : ∀ b, lo ≤ b → b < w.heap.size → w'.heap[b]? = w.heap[b]?) : ISG w' lo A l := fun h0 => by
  obtain ⟨b, off, rfl, h1, h2, h3⟩ := h h0
  exact ⟨b, off, rfl, h1, by omega, fun k hk' => (World.cell?_of_block (w := w) (hk b h1 h2)).trans (h3 k hk')⟩
theorem ISG.up {w w' : World} {g lo : Nat} {A : Option Addr} {l : List Int} (h : ISG w lo A l) (hu : Up g w.heap.size w w') (hg : g < lo) : ISG w' lo A l := h.keep hu.size fun b h1 h2 => hu.block b h2 (by omega)
theorem ISG.below {w w' : World} {lo : Nat} {A : Option Addr} {l : List Int} (h : ISG w lo A l) (hb : Below w.heap.size w w') : ISG w' lo A l := h.keep hb.size fun b _ h2 => hb.block b h2
theorem ISG.lo {w : World} {lo lo' : Nat} {A : Option Addr} {l : List Int} (h : ISG w lo A l) (hl : lo' ≤ lo) : ISG w lo' A l := fun h0 => by
  obtain ⟨b, off, rfl, h1, h2, h3⟩ := h h0
  exact ⟨b, off, rfl, by omega, h2, h3⟩
theorem own_isg {w : World} {base lo n c : Nat} {A : Option Addr} {l : List Int} (h : w.ownsRow base 2 1 (.slice A n c) n (ints l)) (hn : n = l.length) (hb : lo ≤ base) : ISG w lo A l := fun hp => by
  subst hn
  obtain ⟨g, rfl, h1, h2, hc⟩ := own_src h hp
  exact ⟨g, 0, rfl, by omega, h2, fun k hk => by rw [Nat.zero_add]; exact hc k _ (ints_at hk)⟩
/-- A list out of a source. -/
def LSD (g : Nat) (w : World) (e : Ending) (w' : World) : Prop := ∃ (A : Option Addr) (L c : Nat) (l : List Int), e = .returned (.slice A L c) ∧ L = l.length ∧ L ≤ 7 ∧ w'.ownsRow w.heap.size 2 1 (.slice A L c) L (ints l) ∧ ISG w' w.heap.size A l ∧ SRC w' g ∧ Up g w.heap.size w w'
/-- A list out of a code. -/
def LCD (w : World) (e : Ending) (w' : World) : Prop := ∃ (A : Option Addr) (L c : Nat) (l : List Int), e = .returned (.slice A L c) ∧ L = l.length ∧ L ≤ 7 ∧ IS w' w'.heap.size A l ∧ Below w.heap.size w w'
theorem ob_nilL (w : World) (e : TypeId) (base : Nat) (h : base ≤ w.heap.size) : (w.alloc (.cells #[] e)).ownsRow base e 1 (.slice (some ⟨w.heap.size, 0, none⟩) 0 0) 0 [] :=
  World.ownsRow_lit (base := base) w #[] 0 h (by simp [maxLen]) rfl
theorem up_set {g h : Nat} {w w' : World} (hu : Up g w.heap.size w w') (hh : w.heap.size ≤ h) (i : Nat) (u : Value) : Up g w.heap.size w (w'.setCell ⟨h, i, none⟩ u) :=
  hu.trans (Up.of ((Below.refl w.heap.size w').setCell (p := ⟨h, i, none⟩) hh u))
set_option maxRecDepth 20000 in
set_option maxHeartbeats 2000000 in
theorem s_l25Draw (g : Nat) (w : World) (hs : SRC w g) : Calls Tryd.prog 32 #[.pointer (some ⟨g, 0, none⟩)] w (LSD g w) := by
  have hgl := hs.lt
  have hv := s_l21Valid g w hs
  have hnx := fun W h => s_nextI g 20 (by omega) W h
  obtain ⟨i0, hi, hz0', hz1', hz2'⟩ := info_parts infoI64
  go_enter Tryd.func32, Tryd.ntmps32
  go_wp2_with (fail)
  refine hv.mono ?_
  rintro e w1 ⟨n, r, c, A, h1, h6, hr, rfl, o1, hs1, hu1⟩
  have hin := wrL_in hr
  have hty := s_l21Type A n c (wrL n r) w1 h1 h6 hin (own_isn o1 hin.1.symm)
  have hle := cycL_len (wrL n r)
  have hpos := cycL_pos (a := wrL n r) (by rw [hin.1]; exact h1)
  have htl := tyS_len (wrL n r)
  rw [hin.1] at hle
  generalize (cycL (wrL n r)).length = m at *
  generalize tyS (wrL n r) = t at *
  have HTL := Lib.hid htl
  clear hin hr htl hv hs
  go_wp2_with (fail)
  refine hty.mono ?_
  rintro e w2 ⟨v, rfl, o2, hb2⟩
  obtain ⟨A2, c2, rfl, _⟩ := own_slice' o2
  have hs2 := hs1.call hb2
  have u2 := hu1.thenB hb2
  have hz1 := hu1.size
  have hz2 := hb2.size
  clear o1 hs1 hu1 hb2 hty
  go_wp2_with (fail)
  refine (hnx _ hs2).mono ?_
  rintro e w3 ⟨k, rfl, hk, hs3, hu3⟩
  have o3 := up_own (B := 0) o2 hu3 (by omega)
  have u3 := u2.call hu3
  have hz3 := hu3.size
  clear o2 hs2 u2 hnx
  have hk4 : k = 0 ∨ k = 1 ∨ k = 2 ∨ 2 < k := by omega
  rcases hk4 with rfl | rfl | rfl | hk2
  · have hpk := s_pick3 g 1 0 6 w3 hs3
    go_wp2_with (fail)
    refine hpk.mono ?_
    rintro e w4 ⟨x, rfl, _, hs4, hu4⟩
    have o4 := up_own (B := 0) o3 hu4 (by omega)
    have u4 := u3.call hu4
    have hz4 := hu4.size
    have hbx : Below w4.heap.size w4 (w4.alloc (.cells #[.int .i64 x] 2)) := (Below.refl _ _).alloc (Nat.le_refl _) _
    have o5 := own_below o4 hbx
    have hsx := one_src w4 (.int .i64 x) 2
    clear o3 hpk
    go_wp2_with (at_builtin; refine wpList_append_own _ rfl (.tmp 11) (.tmp 15) 22 rfl w1.heap.size 2 i0 (.int .i64 0) 1 8 Tryd.underlying22 hi hz0' hz1' hz2' rfl (by omega) (.slice A2 m c2) m (ints t) rfl o5 ⟨w4.heap.size, 0, none⟩ 1 1 [.int .i64 x] rfl rfl (hsx _ rfl) (by intro u hu; simp at hu; subst hu; rfl) (by simp only [maxLen]; omega) (by omega) (by simp; omega) ?_; intro v6 w6 o6 g6 _; obtain ⟨A6, c6, rfl, _⟩ := own_slice' o6; rw [← ints_snoc] at o6)
    go_ret
    have hl : m + 1 = (t ++ [x]).length := by rw [List.length_append, HTL.out]; rfl
    have hb6 : Below w.heap.size w4 w6 := ((Below.refl w.heap.size w4).alloc (by omega) (.cells #[.int .i64 x] 2)).grown g6 (by simp; omega) (fun y hy => by have := (o5.lt y hy).1; omega)
    exact ⟨A6, m + 1, c6, t ++ [x], rfl, hl, by omega, own_mono o6 (by omega), own_isg o6 hl (by omega), hs4.below hb6 (by omega), u4.trans (Up.of hb6)⟩
  · have hpk := s_pick3 g 0 7 3 w3 hs3
    go_wp2_with (fail)
    refine hpk.mono ?_
    rintro e w4 ⟨x, rfl, _, hs4, hu4⟩
    have o4 := up_own (B := 0) o3 hu4 (by omega)
    have u4 := u3.call hu4
    have hz4 := hu4.size
    obtain ⟨gb, rfl, hgb, hgb', hcells⟩ := own_src o4 hpos
    have c0 := hcells 0 _ (ints_at (l := t) (k := 0) (by rw [HTL.out]; exact hpos))
    have f0 := o4.frozenAt 0
    obtain ⟨o5, g5⟩ := o4.stored 0 (.int .i64 x)
    have hset : (ints t).set 0 (.int .i64 x) = ints (t.set 0 x) := by simp [ints, List.map_set]
    rw [hset] at o5
    have hl : m = (t.set 0 x).length := by rw [List.length_set, HTL.out]
    have hi5 := own_isg (lo := w.heap.size) o5 hl (by omega)
    have hcp := own_mono (base' := w.heap.size) o5 (by omega)
    have hs5 := hs4.grown g5 (fun y hy => by injection hy with hy; omega)
    have u5 := up_set u4 (by omega : w.heap.size ≤ gb) 0 (.int .i64 x)
    have HI := Lib.hid hi5
    have HS := Lib.hid hs5
    have HU := Lib.hid u5
    have HL := Lib.hid hl
    have HC := Lib.hid hcp
    clear hl hcp o3 o4 o5 hcells hpk hset hi5 hs5 u5 g5
    go_wp2_with (fail)
    go_ret
    exact ⟨_, m, c2, t.set 0 x, rfl, HL.out, by omega, HC.out, HI.out, HS.out, HU.out⟩
  · go_wp2_with (fail)
    go_ret
    have hb : Below w.heap.size w3 (w3.alloc (.cells #[] 2)) := (Below.refl _ _).alloc (by omega) _
    exact ⟨_, 0, 0, [], rfl, rfl, by omega, ob_nilL w3 2 w.heap.size (by omega), fun h => by simp at h, hs3.below hb (by omega), u3.trans (Up.of hb)⟩
  · go_wp2_with (fail)
    go_ret
    exact ⟨A2, m, c2, t, rfl, HTL.out.symm, by omega, own_mono o3 (by omega), own_isg o3 HTL.out.symm (by omega), hs3, u3⟩
end Go.Proofs.YtjfinniebijgbaaDoor
