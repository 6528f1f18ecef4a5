/- Several parts of the proof in one text; each part says what it shows. Nothing is assumed. -/
import Derived.Test.YtifaccppbhbfhaaRows
import Derived.WalkKit
import Derived.ProofKit
import Derived.OpenShut
import Derived.Carry
import Derived.Lib.SmallJoins
import Derived.WalkSpells
import Derived.WalkLawsBesides
import Derived.Deep.QuietTactic
import Derived.BigQuiet
import Derived.Handy
import Derived.Lib.Hide
import Derived.Deep.RegionWith
import Derived.Deep.RegionHeld3
/- The frame of every law of this seat: a law whose walk returns true and leaves all that was there is the given row. Nothing is assumed. -/
namespace Go.Proofs.Ytifaccppbhbfhaa
set_option linter.unusedVariables false
set_option linter.unusedSimpArgs false
open Go.ChangeShapes Go.WideShapes Go.ChangeAt Go.RowKit

theorem ownKnobNone : ownKnob Try.prog.godebug = none := by kernel_rfl
theorem laidOutT : laidOutB Try.prog = true := by kernel_rfl

/-- What an argument read as, it reads as in any world that has kept the old blocks. -/
theorem trodAll_below {H : Type} {enc : TypeId × Value → H} {P : Program} {W W' : World} (hl : laidOutB P = true) (hb : Below W.heap.size W W') (sp : Nat → Bool) :
    ∀ {ts : List TypeId} {vs : List Value} {ds : List (DataW H)} {ps : List MemPlace}, (∀ t ∈ ts, P.readableRec t = true ∧ t < P.types.size) →
    DataW.TrodAll enc P W 0 (fun _ => true) true ts vs ds ps → (∀ p ∈ ps, p.block < W.heap.size) → (∀ p ∈ ps, sp p.block = true) → DataW.TrodAll enc P W' 0 sp true ts vs ds ps := by
  intro ts
  induction ts with
  | nil =>
    intro vs ds ps _ h _ _
    obtain ⟨rfl, rfl, rfl⟩ := trodAll_nil h
    exact trodAll_mk0
  | cons t ts ih =>
    intro vs ds ps hr h hlt hsp
    obtain ⟨v0, vs0, d0, ds0, p0, q0, rfl, rfl, rfl, h0, r0⟩ := trodAll_cons h
    refine trodAll_cons_mk ?_ ?_
    · exact WideElems.Trod_stays hl (hr t (by simp)).1 (hr t (by simp)).2 h0 (fun x hx => hb.same (hlt x (by simp [hx]))) (fun x hx => hsp x (by simp [hx]))
    · exact ih (fun t' ht' => hr t' (by simp [ht'])) r0 (fun x hx => hlt x (by simp [hx])) (fun x hx => hsp x (by simp [hx]))

theorem lawPost {H : Type} {enc : TypeId × Value → H} {P : Program} {f : Func} {s : ChangeSpec} {W W' : World} {args : Array Value} {ds gs : List (DataW H)} {before : List MemPlace}
    (hW : DataW.Whole enc P f.params.toList s.vars false W args.toList ds gs before) (hvars : s.vars = []) (hl : laidOutB P = true)
    (hr : ∀ t ∈ f.params.toList, P.readableRec t = true ∧ t < P.types.size)
    (hfn : s.fn H (ds ++ gs) = { results := [.lit (.bool true)], args := ds }) {tb : TypeId} (hrt : f.resultTypes = #[tb]) (htb : P.underlying tb = some .bool)
    (hb : Below W.heap.size W W') : s.post enc P f false true false false W args (.bool true) W' := by
  have hlt : ∀ p ∈ before, p.block < W.heap.size := fun p hp => hW.lt p hp
  have hW2 := hW
  obtain ⟨p, q, hA, hV, rfl, _, _⟩ := hW2
  rw [hvars] at hV
  obtain ⟨rfl, rfl⟩ := trodVars_none hV
  refine ⟨ds, [], p ++ [], [], p, [], hW, ?_, ?_, ?_, ?_, fun h => by cases h⟩
  · rw [hfn, hrt]
    exact trodAll_mk1 (shut_bool htb true)
  · rw [hfn]
    exact trodAll_below hl hb _ hr hA (fun x hx => hlt x (by simp [hx])) (fun x hx => by simpa using hlt x (by simp [hx]))
  · rw [hfn, hvars]
    rfl
  · exact hb.frame _

/-- The element k of a list, 0 behind its end: a name of its own, so that no simp turns it. -/
def gt (xs : List Int) (k : Nat) : Int := xs.getD k 0
/-- All are int64. -/
def R64 (xs : List Int) : Prop := ∀ x ∈ xs, -9223372036854775808 ≤ x ∧ x ≤ 9223372036854775807
/-- A slice of int64 at address A reads as xs, in a block below B. -/
def IS (w : World) (B : Nat) (A : Option Addr) (xs : List Int) : Prop :=
  0 < xs.length → ∃ b off, A = some ⟨b, off, none⟩ ∧ b < B ∧ ∀ k, k < xs.length → w.cell? ⟨b, off + k, none⟩ = some (.int .i64 (gt xs k))

theorem wf64 {n : Int} (h : (Lit.int .i64 n).wf = true) : -9223372036854775808 ≤ n ∧ n ≤ 9223372036854775807 := by
  simp [Lit.wf, IntKind.min, IntKind.max, IntKind.signed, IntKind.bits] at h
  omega

theorem open_is {H : Type} {enc : TypeId × Value → H} {P : Program} {w : World} {B : Nat} {t e : TypeId} {v : Value} {d : DataW H} {p : List MemPlace} (ht : P.underlying t = some (.slice e)) (he : P.underlying e = some (.int .i64)) (hc : P.cellsOf e = 1)
    (hv : Value.okWide P w .any B t v) (h : DataW.Trod enc P w 0 (fun _ => true) true t v d p) (hlt : ∀ x ∈ p, x.block < w.heap.size) :
    ∃ A n c xs, v = .slice A n c ∧ n = xs.length ∧ n ≤ c ∧ c ≤ maxLen ∧ R64 xs ∧ IS w w.heap.size A xs := by
  obtain ⟨A, n, c, rfl⟩ := okWide_slice ht hv
  obtain ⟨fuel, hf⟩ := h
  rcases open_ints ht he hc hf with ⟨hcs, hx⟩ | ⟨a, len', cap', zs, hcs, _, hl, hm, hz, hx, hcell, hwz⟩
  · simp [Value.cells] at hcs
    obtain ⟨rfl, rfl, rfl⟩ := hcs
    exact ⟨none, 0, 0, [], rfl, rfl, Nat.le_refl _, by simp [maxLen], fun x hx => by simp at hx, fun h => by simp at h⟩
  · simp [Value.cells] at hcs
    obtain ⟨rfl, rfl, rfl⟩ := hcs
    simp at hz
    simp only [Prod.mk.injEq] at hx
    refine ⟨some a, n, c, zs.take n, rfl, by simp; omega, hl, hm, fun x hx => ?_, fun h => ?_⟩
    · exact wf64 (hwz x (List.mem_of_mem_take hx))
    · simp at h
      obtain ⟨b, off, rfl, hcc⟩ := ints_at hcell (by omega)
      refine ⟨b, off, rfl, ?_, fun k hk => ?_⟩
      · have := hlt (.cell b off) (by rw [hx.2]; exact MemPlace.mem_row.2 ⟨0, by omega, by simp⟩)
        exact this
      · simp at hk
        rw [hcc k (by omega)]
        simp [gt, hk]
        rw [List.getElem?_eq_getElem (by omega)]; rfl
end Go.Proofs.Ytifaccppbhbfhaa
/- Contracts of small number functions. -/
namespace Go.Proofs.Ytifaccppbhbfhaa
set_option linter.unusedVariables false
set_option linter.unusedSimpArgs false
open Go.RowKit

def inB (n lo hi : Int) : Bool := decide (lo ≤ n) && decide (n ≤ hi)

theorem inB_true {n lo hi : Int} (h : inB n lo hi = true) : lo ≤ n ∧ n ≤ hi := by
  simpa [inB] using h
theorem inB_mk {n lo hi : Int} (h1 : lo ≤ n) (h2 : n ≤ hi) : inB n lo hi = true := by
  simp [inB, h1, h2]
theorem ret_bool {a b : Bool} (h : a = b) : Ending.returned (.bool a) = .returned (.bool b) := by rw [h]
theorem ret_int {k : IntKind} {a b : Int} (h : a = b) : Ending.returned (.int k a) = .returned (.int k b) := by rw [h]

def Q (v : Value) (w : World) (e : Ending) (w' : World) : Prop := e = .returned v ∧ ∃ n, w' = w.drewN n

set_option maxHeartbeats 400000 in
theorem s_l01In (n lo hi : Int) (w : World) : Calls Try.prog 57 #[.int .i64 n, .int .i64 lo, .int .i64 hi] w (Q (.bool (inB n lo hi)) w) := by
  go_enter Try.func57, Try.ntmps57
  go_wp2
  all_goals (go_ret; exact ⟨ret_bool (by simp [inB, *] <;> omega), 0, rfl⟩)
set_option maxHeartbeats 400000 in
theorem i_within (n lo hi : Int) (w : World) : Calls Try.prog 59 #[.int .i64 n, .int .i64 lo, .int .i64 hi] w (Q (.bool (inB n lo hi)) w) := by
  go_enter Try.func59, Try.ntmps59
  go_wp2
  all_goals (go_ret; exact ⟨ret_bool (by simp [inB, *] <;> omega), 0, rfl⟩)
theorem dq1 {w : World} {n : Nat} : ∃ m, w.drewN n = w.drewN m := ⟨_, rfl⟩
theorem dq2 {w : World} {n k : Nat} : ∃ m, (w.drewN n).drewN k = w.drewN m := ⟨_, World.drewN_drewN ..⟩
def abs64 (n : Int) : Int := max n (wrap64 (-n))
theorem abs64_eq {n : Int} (h1 : -9223372036854775807 ≤ n) (h2 : n ≤ 9223372036854775807) : abs64 n = n.natAbs := by
  unfold abs64 wrap64; omega
theorem gcd_tmod (x y : Int) : Int.gcd y (x.tmod y) = Int.gcd x y := by
  simp only [Int.gcd, Int.natAbs_tmod]
  rw [Nat.gcd_comm x.natAbs y.natAbs, Nat.gcd_rec y.natAbs x.natAbs, Nat.gcd_comm]
theorem gcd_mod (x y : Int) (h : 0 ≤ x) : Int.gcd y (x % y) = Int.gcd x y := by
  have := gcd_tmod x y
  rwa [Int.tmod_eq_emod_of_nonneg h] at this

theorem below_drewN {B : Nat} {a w : World} (h : Below B a w) (n : Nat) : Below B a (w.drewN n) := ⟨h.os, h.tape, h.output, h.size, h.block⟩
def valB (n : Int) : Bool := inB n (-1000000000000) 1000000000000
theorem valB_true {n : Int} (h : valB n = true) : -1000000000000 ≤ n ∧ n ≤ 1000000000000 := inB_true h
set_option maxHeartbeats 400000 in
theorem i_isValue (n : Int) (w : World) : Calls Try.prog 116 #[.int .i64 n] w (Q (.bool (valB n)) w) := by
  go_enter Try.func116, Try.ntmps116
  go_wp2_with (first | (go_at_call 59; refine (i_within _ _ _ _).mono ?_; rintro e w' ⟨rfl, nq, rfl⟩))
  go_ret
  exact ⟨rfl, dq1⟩
def ratB (n d : Int) : Bool := valB n && (inB d 1 1000000000000 && ((Int.gcd n d : Int) == 1))
/-- A call that makes memory and returns a known value. -/
def M (v : Value) (w : World) (e : Ending) (w' : World) : Prop := e = .returned v ∧ Below w.heap.size w w'
theorem Q.toM {v : Value} {w : World} {e : Ending} {w' : World} (h : Q v w e w') : M v w e w' := by
  obtain ⟨rfl, n, rfl⟩ := h
  exact ⟨rfl, below_drewN (Below.refl _ _) _⟩
theorem bel_call {a w0 w1 : World} (h : Below a.heap.size a w0) (hb : Below w0.heap.size w0 w1) : Below a.heap.size a w1 := h.trans (hb.mono h.size)
theorem ret_ii {k l : IntKind} {a b c d : Int} (h : a = c) (h' : b = d) : Ending.returned (.tuple #[.int k a, .int l b]) = .returned (.tuple #[.int k c, .int l d]) := by rw [h, h']
def M2 (x y : Int) (w : World) (e : Ending) (w' : World) : Prop := e = .returned (.tuple #[.int .i64 x, .int .i64 y]) ∧ Below w.heap.size w w'
def sizeR0 (a b : Int) : Int := if ratB a b then max b a.natAbs else 0
def sizeR1 (a b : Int) : Int := if ratB a b then 0 else 1
end Go.Proofs.Ytifaccppbhbfhaa
/- Contracts: primes, valuations of factorials, carries. -/
namespace Go.Proofs.Ytifaccppbhbfhaa
set_option linter.unusedVariables false
set_option linter.unusedSimpArgs false
open Go.RowKit

/-- n is prime, for numbers of at least 2. -/
def PrimeP (n : Int) : Prop := 2 ≤ n ∧ ∀ d : Int, 2 ≤ d → d * d ≤ n → n % d ≠ 0
noncomputable def primeB (n : Int) : Bool := @decide (PrimeP n) (Classical.propDecidable _)
theorem primeB_t {n : Int} (h : PrimeP n) : true = primeB n := by simp [primeB, h]
theorem primeB_f {n : Int} (h : ¬ PrimeP n) : false = primeB n := by simp [primeB, h]
theorem sq_ge {d e : Int} (h0 : 0 ≤ d) (h : d ≤ e) : d * d ≤ e * e := Int.mul_le_mul h h h0 (by omega)
theorem sq_1000 {d : Int} (h0 : 0 ≤ d) (h : d * d ≤ 1000000) : d ≤ 1000 := by
  rcases Int.lt_or_le 1000 d with h1 | h1
  · have := sq_ge (d := 1001) (by omega) (show (1001 : Int) ≤ d by omega)
    omega
  · exact h1
set_option maxHeartbeats 400000 in
theorem s_l01Prime (n : Int) (w : World) (hn : n ≤ 1000000) (hn0 : -9223372036854775808 ≤ n) : Calls Try.prog 61 #[.int .i64 n] w (Q (.bool (primeB n)) w) := by
  by_cases h2 : n < 2
  · go_enter Try.func61, Try.ntmps61
    go_wp2
    go_ret
    exact ⟨ret_bool (primeB_f (fun h => by have := h.1; omega)), 0, rfl⟩
  go_enter Try.func61, Try.ntmps61
  go_wp2
  go_loop [3] (fun u => ∃ d : Int, 2 ≤ d ∧ d ≤ 1001 ∧ Hid (∀ e : Int, 2 ≤ e → e < d → n % e ≠ 0) ∧ u = .int .i64 d) (fun u => (1001 - intOf u).toNat)
  case atStart => exact ⟨2, by omega, by omega, fun e h1 h2 => by omega, rfl⟩
  case round =>
    obtain ⟨d, hd, hd', HD, rfl⟩ := hrel
    have d0 : 4 ≤ d * d := sq_ge (d := 2) (by omega) hd
    have d1 : d * d ≤ 1002001 := sq_ge (by omega) hd'
    by_cases h1 : d * d ≤ n
    · have d2 := sq_1000 (by omega) (Int.le_trans h1 hn)
      by_cases h3 : n % d = 0
      · have h4 : (n % d == 0) = true := by simpa using h3
        have H3 := Lib.hid h3
        clear h3
        go_wp2
        go_ret
        exact ⟨ret_bool (primeB_f (fun h => h.2 d hd h1 H3.out)), 0, rfl⟩
      · have h4 : (n % d == 0) = false := by simpa using h3
        have H3 := Lib.hid h3
        clear h3
        go_wp2
        go_round
        case rel => exact ⟨d + 1, by omega, by omega, fun e he he' => by
          by_cases hx : e = d
          · rw [hx]; exact H3.out
          · exact HD.out e he (by omega), rfl⟩
        case measure => simp only [intOf]; omega
    · go_wp2
      go_ret
      refine ⟨ret_bool (primeB_t ⟨by omega, fun e he hee => HD.out e he ?_⟩), 0, rfl⟩
      rcases Int.lt_or_le e d with hx | hx
      · exact hx
      · have := sq_ge (by omega) hx
        omega
theorem hidP {p : Prop} (h : p) : Hid p := h
noncomputable def isPrimeB (n : Int) : Bool := inB n 2 1000000 && primeB n
set_option maxHeartbeats 400000 in
theorem i_IsPrime (n : Int) (w : World) : Calls Try.prog 62 #[.int .i64 n] w (Q (.bool (isPrimeB n)) w) := by
  cases h2 : inB n 2 1000000
  · go_enter Try.func62, Try.ntmps62
    go_wp2_with (first | (go_at_call 59; refine (i_within _ _ _ _).mono ?_; rintro e w' ⟨rfl, nq, rfl⟩))
    go_ret
    exact ⟨ret_bool (by simp [isPrimeB, h2]), dq1⟩
  have hb := inB_true h2
  obtain ⟨hb1, hn⟩ := hb
  go_enter Try.func62, Try.ntmps62
  go_wp2_with (first | (go_at_call 59; refine (i_within _ _ _ _).mono ?_; rintro e w' ⟨rfl, nq, rfl⟩))
  have H2 := Lib.hid h2
  clear h2
  go_loop [3] (fun u => ∃ d : Int, 2 ≤ d ∧ d ≤ 1001 ∧ Hid (∀ e : Int, 2 ≤ e → e < d → n % e ≠ 0) ∧ u = .int .i64 d) (fun u => (1001 - intOf u).toNat)
  case atStart => exact ⟨2, by omega, by omega, fun e h1 h2 => by omega, rfl⟩
  case round =>
    obtain ⟨d, hd, hd', HD, rfl⟩ := hrel
    have d0 : 4 ≤ d * d := sq_ge (d := 2) (by omega) hd
    have d1 : d * d ≤ 1002001 := sq_ge (by omega) hd'
    by_cases h1 : d * d ≤ n
    · have d2 := sq_1000 (by omega) (Int.le_trans h1 hn)
      by_cases h3 : n % d = 0
      · have h4 : (n % d == 0) = true := by simpa using h3
        have H3 := Lib.hid h3
        clear h3
        go_wp2
        go_ret
        exact ⟨ret_bool (by simp only [isPrimeB, H2.out, Bool.true_and]; exact primeB_f (fun h => h.2 d hd h1 H3.out)), dq1⟩
      · have h4 : (n % d == 0) = false := by simpa using h3
        have H3 := Lib.hid h3
        clear h3
        go_wp2
        go_round
        case rel => exact ⟨d + 1, by omega, by omega, fun e he he' => by
          by_cases hx : e = d
          · rw [hx]; exact H3.out
          · exact HD.out e he (by omega), rfl⟩
        case measure => simp only [intOf]; omega
    · go_wp2
      go_ret
      refine ⟨ret_bool ?_, dq1⟩
      simp only [isPrimeB, H2.out, Bool.true_and]
      refine primeB_t ⟨by omega, fun e he hee => HD.out e he ?_⟩
      rcases Int.lt_or_le e d with hx | hx
      · exact hx
      · have := sq_ge (by omega) hx
        omega
noncomputable def smallB (p : Int) : Bool := inB p 2 97 && primeB p
theorem smallB_t {p : Int} (h : smallB p = true) : 2 ≤ p ∧ p ≤ 97 := by
  simp [smallB] at h
  exact inB_true h.1
set_option maxHeartbeats 400000 in
theorem s_l01Small (p : Int) (w : World) (hp : -9223372036854775808 ≤ p) : Calls Try.prog 34 #[.int .i64 p] w (Q (.bool (smallB p)) w) := by
  cases h2 : inB p 2 97
  · go_enter Try.func34, Try.ntmps34
    go_wp2_with (first | (go_at_call 57; refine (s_l01In _ _ _ _).mono ?_; rintro e w' ⟨rfl, nq, rfl⟩))
    go_ret
    exact ⟨ret_bool (by simp [smallB, h2]), dq1⟩
  have hb := inB_true h2
  obtain ⟨hb1, hb2⟩ := hb
  go_enter Try.func34, Try.ntmps34
  go_wp2_with (first | (go_at_call 57; refine (s_l01In _ _ _ _).mono ?_; rintro e w' ⟨rfl, nq, rfl⟩) | (go_at_call 61; refine (s_l01Prime _ _ (by omega) hp).mono ?_; rintro e w' ⟨rfl, nq, rfl⟩))
  go_ret
  exact ⟨ret_bool (by simp [smallB, h2]), by first | exact dq1 | exact dq2⟩
set_option maxHeartbeats 400000 in
theorem i_isSmallPrime (p : Int) (w : World) : Calls Try.prog 38 #[.int .i64 p] w (Q (.bool (smallB p)) w) := by
  by_cases h2 : p ≤ 97
  · have hx : isPrimeB p = smallB p := by
      unfold isPrimeB smallB
      by_cases h3 : 2 ≤ p
      · rw [inB_mk h3 h2, inB_mk h3 (by omega)]
      · simp [inB, h3]
    go_enter Try.func38, Try.ntmps38
    go_wp2_with (first | (go_at_call 62; refine (i_IsPrime _ _).mono ?_; rintro e w' ⟨rfl, nq, rfl⟩))
    go_ret
    exact ⟨ret_bool (by simp [hx]), dq1⟩
  · go_enter Try.func38, Try.ntmps38
    go_wp2
    go_ret
    exact ⟨ret_bool (by simp [smallB, inB]; intros; omega), 0, rfl⟩

/-- The valuation of n! at p. -/
def leg (p n : Nat) : Nat := if h : 2 ≤ p ∧ 0 < n then n / p + leg p (n / p) else 0
termination_by n
decreasing_by exact Nat.div_lt_self h.2 h.1
theorem leg_pos {p n : Nat} (hp : 2 ≤ p) (hn : 0 < n) : leg p n = n / p + leg p (n / p) := by rw [leg, dif_pos ⟨hp, hn⟩]
theorem leg_zero (p : Nat) : leg p 0 = 0 := by rw [leg]; simp
theorem leg_le (p : Nat) (hp : 2 ≤ p) : ∀ m n : Nat, n ≤ m → leg p n ≤ n := by
  intro m
  induction m with
  | zero => intro n hn; obtain rfl : n = 0 := by omega
            rw [leg_zero]; omega
  | succ m ih =>
    intro n hn
    rcases Nat.eq_zero_or_pos n with h | h
    · subst h; rw [leg_zero]; omega
    · rw [leg_pos hp h]
      have h1 : n / p < n := Nat.div_lt_self h hp
      have h2 := ih (n / p) (by omega)
      have h3 : n / p ≤ n / 2 := Nat.div_le_div_left hp (by omega)
      omega
def legI (n p : Int) : Int := (leg p.toNat n.toNat : Nat)
theorem legI_bd {n p : Int} (hp : 2 ≤ p) (hn : 0 ≤ n) : 0 ≤ legI n p ∧ legI n p ≤ n := by
  have := leg_le p.toNat (by omega) n.toNat n.toNat (Nat.le_refl _)
  unfold legI
  omega
theorem div_bd (m p : Nat) (hp : 2 ≤ p) : 0 ≤ (m : Int) / (p : Int) ∧ (m : Int) / (p : Int) ≤ m := by
  exact ⟨Int.ediv_nonneg (by omega) (by omega), Int.ediv_le_self _ (by omega)⟩
noncomputable def codeF (p : Int) (b : Bool) : Int := if smallB p then (if b then 0 else 2) else 1
end Go.Proofs.Ytifaccppbhbfhaa
