/- RationalRoots: the program's roots, the walk. -/
import Derived.Test.YtglijcdnnaekkaaA296
namespace Go.Proofs.Ytglijcdnnaekkaa
set_option linter.unusedVariables false
set_option linter.unusedSimpArgs false
open Go.RowKit

theorem rq_one (w : World) (x y : Int) : ∀ j u, [Value.int .i64 x, Value.int .i64 y][j]? = some u → (w.alloc (.cells #[.int .i64 x, .int .i64 y] 46)).cell? ((⟨w.heap.size, 0, none⟩ : Addr).add j) = some u := fun j u hj => by
  rw [Go.WideShapes.add_plain, Nat.zero_add, World.cell?_alloc_at (w := w) #[.int .i64 x, .int .i64 y] _ w.heap.size j rfl]
  rcases j with _ | _ | j
  · simpa using hj
  · simpa using hj
  · simp at hj
theorem rq_oneCell (x y : Int) : ∀ u ∈ [Value.int .i64 x, Value.int .i64 y], u.oneCell' = true := by
  intro u hu
  simp at hu
  rcases hu with rfl | rfl <;> rfl
set_option maxRecDepth 20000 in
set_option maxHeartbeats 1000000 in
theorem i_rootsLoop (A : Option Addr) (m c : Nat) (f : List Int) (w : World) (N : Nat) (hN : N = (rrD (prR f) 60 60).length) (hm : m = f.length) (hl : m ≤ 5) (h2 : 2 ≤ m) (hf : ∀ k, k < f.length → -60 ≤ gt f k ∧ gt f k ≤ 60) (hlen : ∀ D i, (rrD (prR f) 60 D ++ rrN (prR f) (D + 1) (-60) i).length ≤ 1000) (hs : IS w w.heap.size A f)
    (hso : ∀ v W, W.ownsRow w.heap.size 46 2 v N (rC (rrD (prR f) 60 60)) → Below w.heap.size w W → Calls Try.prog 70 #[v, .func (.func 71) #[] #[]] W (fun e w' => e = .returned (.tuple #[]) ∧ w'.ownsRow w.heap.size 46 2 v N (rC (srtQ (rrD (prR f) 60 60))) ∧ Below w.heap.size w w')) :
    Calls Try.prog 32 #[.slice A m c] w (fun e w' => ∃ v, e = .returned v ∧ w'.ownsRow w.heap.size 46 2 v N (rC (srtQ (rrD (prR f) 60 60))) ∧ Below w.heap.size w w') := by
  obtain ⟨i0, hi, hz0', hz1', hz2'⟩ := info_parts infoRat
  have hrt := fun n d W hn hd (h : IS W w.heap.size A f) => i_isRoot A m c f n d W w.heap.size hm hl hn hd hf h
  have HLEN := Lib.hid hlen
  have HINF := Lib.hid (And.intro hi (And.intro hz0' (And.intro hz1' hz2')))
  have HN := Lib.hid hN
  clear hm hf hlen hN
  go_enter Try.func32, Try.ntmps32
  go_wp2_with (fail)
  go_loopw [3, 4] (fun u3 u4 wr => ∃ D L : Nat, D ≤ 60 ∧ u4 = .int .i64 ((D : Int) + 1) ∧ Hid (L = (rrD (prR f) 60 D).length) ∧ wr.ownsRow w.heap.size 46 2 u3 L (rC (rrD (prR f) 60 D)) ∧ Below w.heap.size w wr) (fun _ u4 _ => 61 - (intOf u4).toNat)
  case atStart => exact ⟨0, 0, Nat.zero_le _, rfl, rfl, World.ownsRow_nil _ _ _ _, Below.refl _ _⟩
  case round =>
    obtain ⟨wo, rfl⟩ : ∃ wo : World, wo = wr := ⟨_, rfl⟩
    obtain ⟨D, L, hD, rfl, HL, ho, hb⟩ := hrel
    obtain ⟨A3, c3, rfl, _⟩ := own_slice' ho
    by_cases hlt : D < 60
    · have hlt1 : (D : Int) + 1 ≤ 60 := by omega
      go_wp2_with (fail)
      go_loopw [3, 5] (fun u3 u5 wr => ∃ i L : Nat, i ≤ 121 ∧ u5 = .int .i64 (-60 + (i : Int)) ∧ Hid (L = (rrD (prR f) 60 D ++ rrN (prR f) (D + 1) (-60) i).length) ∧ wr.ownsRow w.heap.size 46 2 u3 L (rC (rrD (prR f) 60 D ++ rrN (prR f) (D + 1) (-60) i)) ∧ Below w.heap.size w wr) (fun _ u5 _ => (61 - intOf u5).toNat)
      case atStart => exact ⟨0, L, Nat.zero_le _, rfl, by show _ = _; rw [rrN, List.append_nil]; exact HL.out, by rw [rrN, List.append_nil]; exact ho, hb⟩
      case round =>
        clear ho hb HL
        obtain ⟨ws, rfl⟩ : ∃ ws : World, ws = wr := ⟨_, rfl⟩
        obtain ⟨i, L, hi, rfl, HL, ho, hb⟩ := hrel
        obtain ⟨A4, c4, rfl, _⟩ := own_slice' ho
        by_cases hlt2 : i < 121
        · have hgc := fun W => i_gcd (-60 + (i : Int)) ((D : Int) + 1) W (by omega) (by omega) (by omega) (by omega)
          have hrt2 := fun W h => hrt (-60 + (i : Int)) ((D : Int) + 1) W (by omega) (by omega) h
          have hsw := hs.call hb
          have hll := HLEN.out D i
          rw [← HL.out] at hll
          have HST := Lib.hid (show rrD (prR f) 60 D ++ rrN (prR f) ((D : Int) + 1) (-60) (i + 1) = rrD (prR f) 60 D ++ rrN (prR f) ((D : Int) + 1) (-60) i ++ (if prR f (-60 + (i : Nat)) ((D : Int) + 1) = true then [(-60 + ((i : Nat) : Int), (D : Int) + 1)] else []) by rw [rrN, List.append_assoc])
          generalize rrD (prR f) 60 D ++ rrN (prR f) ((D : Int) + 1) (-60) i = acc at *
          have hpd : prR f (-60 + (i : Nat)) ((D : Int) + 1) = (((Int.gcd (-60 + (i : Int)) ((D : Int) + 1) : Int) == 1) && (hvL (-60 + (i : Int)) ((D : Int) + 1) f == 0)) := rfl
          generalize hp : prR f (-60 + (i : Nat)) ((D : Int) + 1) = pv at *
          generalize ((Int.gcd (-60 + (i : Int)) ((D : Int) + 1) : Nat) : Int) = gg at *
          generalize (hvL (-60 + (i : Int)) ((D : Int) + 1) f == 0) = hv at *
          clear hp
          have hsd : ∀ q, IS (ws.drewN q) w.heap.size A f := fun q => (hs.below hb).drewN q
          have HSD := Lib.hid hsd
          cases hgq : (gg == 1)
          · rw [hgq, Bool.false_and] at hpd
            subst hpd
            simp only [Bool.false_eq_true, if_false, List.append_nil] at HST
            clear hrt2 hsw hso hrt hs hsd
            go_wp2_with (go_at_call 68; refine (hgc _).mono ?_; rintro e w2 ⟨rfl, q2, rfl⟩)
            go_roundw
            case rel => exact ⟨i + 1, L, by omega, by go_num, by show _ = _; rw [HST.out]; exact HL.out, by rw [HST.out]; exact ho, below_drewN hb _⟩
            case measure => simp [intOf]; omega
          · rw [hgq, Bool.true_and] at hpd
            subst hpd
            cases pv
            · simp only [Bool.false_eq_true, if_false, List.append_nil] at HST
              clear hsw hso hrt hs hsd
              go_wp2_with (first
                | (go_at_call 68; refine (hgc _).mono ?_; rintro e w2 ⟨rfl, q2, rfl⟩)
                | (go_at_call 69; refine (hrt2 _ (HSD.out q2)).mono ?_; rintro e w3 ⟨rfl, q3, rfl⟩))
              go_roundw
              case rel => exact ⟨i + 1, L, by omega, by go_num, by show _ = _; rw [HST.out]; exact HL.out, by rw [HST.out]; exact ho, below_drewN hb _⟩
              case measure => simp [intOf]; omega
            · simp only [if_true] at HST
              have HSR := Lib.hid (rC_snoc (-60 + (i : Int), (D : Int) + 1) acc).symm
              obtain ⟨ji, j0, j1, j2⟩ := HINF.out
              clear hsw hso hrt hs hsd
              go_wp2_with (first
                | (go_at_call 68; refine (hgc _).mono ?_; rintro e w2 ⟨rfl, q2, rfl⟩)
                | (go_at_call 69; refine (hrt2 _ (HSD.out q2)).mono ?_; rintro e w3 ⟨rfl, q3, rfl⟩; have HSRC := Lib.hid (rq_one (ws.drewN (q2 + q3)) (-60 + (i : Int)) ((D : Int) + 1)))
                | (at_builtin; refine wpList_append_own _ rfl (.tmp 24) (.tmp 28) 23 rfl w.heap.size 46 i0 (.agg #[.int .i64 0, .int .i64 0]) 2 16 Try.underlying23 ji j0 j1 j2 rfl (by omega) (.slice A4 L c4) L (rC acc) rfl (World.ownsRow.alloc (own_dr ho (q2 + q3)) _) ⟨ws.heap.size, 0, none⟩ 1 1 [.int .i64 (-60 + (i : Int)), .int .i64 ((D : Int) + 1)] rfl rfl HSRC.out (rq_oneCell _ _) (by simp only [maxLen]; omega) (by omega) (by have := hb.size; simp; omega) ?_; intro v7 w7 o7 g7 _; have hb7 := ((below_drewN hb (q2 + q3)).alloc (by have := hb.size; simpa using this) _).grown g7 (by have := hb.size; simp; omega) (fun g hg => (ho.lt g hg).1)))
              rw [HSR.out] at o7
              go_roundw
              case rel => exact ⟨i + 1, L + 1, by omega, by go_num, by show _ = _; rw [HST.out, List.length_append, HL.out]; rfl, by rw [HST.out]; exact o7, hb7⟩
              case measure => simp [intOf]; omega
        · obtain rfl : i = 121 := by omega
          go_wp2_with (fail)
          go_roundw
          case rel => exact ⟨D + 1, L, by omega, by go_num, HL, ho, hb⟩
          case measure => simp [intOf]; omega
    · obtain rfl : D = 60 := by omega
      obtain rfl : L = N := HL.out.trans HN.out.symm
      go_wp2_with (fail)
      refine (hso _ _ ho hb).mono ?_
      rintro e w5 ⟨rfl, o5, hb5⟩
      go_wp2_with (fail)
      go_ret
      exact ⟨_, rfl, o5, hb5⟩
end Go.Proofs.Ytglijcdnnaekkaa
