/- Tools: comparing numbers, worlds that grow, appends, slices of slices that are read. -/
import Derived.Test.YtifaccppbhbfhaaA20
import Derived.Test.YtifaccppbhbfhaaA30
import Derived.Lib.QuietBelow
import Derived.Deep.RegionLaw
namespace Go.Proofs.Ytifaccppbhbfhaa
set_option linter.unusedVariables false
set_option linter.unusedSimpArgs false
open Go.RowKit

def cmpN (a b : Int) : Int := if a < b then -1 else if b < a then 1 else 0
theorem cmpN_b (a b : Int) : -1 ≤ cmpN a b ∧ cmpN a b ≤ 1 := by unfold cmpN; split <;> (try split) <;> omega
theorem c_cmp64n (n : Int) (w : World) : Calls Try.prog 104 #[.int .i64 n] w (Q (.bool false) w) := by
  go_enter Try.func104, Try.ntmps104
  go_wp2_with (fail)
  go_ret
  exact ⟨rfl, 0, rfl⟩
theorem c_cmp64 (x y : Int) (w : World) : Calls Try.prog 81 #[.int .i64 x, .int .i64 y] w (Q (.int .i64 (cmpN x y)) w) := by
  have h1 := fun z W => c_cmp64n z W
  rcases Int.lt_trichotomy x y with h | h | h
  · have e : cmpN x y = -1 := by simp [cmpN, h]
    rw [e]
    go_enter Try.func81, Try.ntmps81
    go_wp2_with (go_at_call 104; refine (h1 _ _).mono ?_; rintro e w' ⟨rfl, n1, rfl⟩)
    go_ret
    exact ⟨rfl, _, rfl⟩
  · have e : cmpN x y = 0 := by simp [cmpN, h]
    subst h
    rw [e]
    go_enter Try.func81, Try.ntmps81
    go_wp2_with (go_at_call 104; refine (h1 _ _).mono ?_; rintro e w' ⟨rfl, n1, rfl⟩)
    go_ret
    exact ⟨rfl, _, rfl⟩
  · have h' : ¬ x < y := by omega
    have e : cmpN x y = 1 := by simp [cmpN, h, h']
    rw [e]
    go_enter Try.func81, Try.ntmps81
    go_wp2_with (go_at_call 104; refine (h1 _ _).mono ?_; rintro e w' ⟨rfl, n1, rfl⟩)
    go_ret
    exact ⟨rfl, _, rfl⟩
set_option maxRecDepth 100000 in
theorem c_len1 (w : World) : Calls Try.prog 79 #[.int .u64 1] w (fun e w' => ∃ v : Int, e = .returned (.int .i64 v) ∧ ∃ m, w' = w.drewN m) := by
  go_enter Try.func79, Try.ntmps79
  go_wp2_with (go_at_call 102; go_in)
  go_ret
  exact ⟨_, rfl, 0, rfl⟩
set_option maxRecDepth 100000 in
theorem c_len2 (w : World) : Calls Try.prog 79 #[.int .u64 2] w (fun e w' => ∃ v : Int, e = .returned (.int .i64 v) ∧ ∃ m, w' = w.drewN m) := by
  go_enter Try.func79, Try.ntmps79
  go_wp2_with (go_at_call 102; go_in)
  go_ret
  exact ⟨_, rfl, 0, rfl⟩
set_option maxRecDepth 100000 in
theorem c_len3 (w : World) : Calls Try.prog 79 #[.int .u64 3] w (fun e w' => ∃ v : Int, e = .returned (.int .i64 v) ∧ ∃ m, w' = w.drewN m) := by
  go_enter Try.func79, Try.ntmps79
  go_wp2_with (go_at_call 102; go_in)
  go_ret
  exact ⟨_, rfl, 0, rfl⟩
set_option maxRecDepth 100000 in
theorem c_len4 (w : World) : Calls Try.prog 79 #[.int .u64 4] w (fun e w' => ∃ v : Int, e = .returned (.int .i64 v) ∧ ∃ m, w' = w.drewN m) := by
  go_enter Try.func79, Try.ntmps79
  go_wp2_with (go_at_call 102; go_in)
  go_ret
  exact ⟨_, rfl, 0, rfl⟩
set_option maxRecDepth 100000 in
theorem c_len5 (w : World) : Calls Try.prog 79 #[.int .u64 5] w (fun e w' => ∃ v : Int, e = .returned (.int .i64 v) ∧ ∃ m, w' = w.drewN m) := by
  go_enter Try.func79, Try.ntmps79
  go_wp2_with (go_at_call 102; go_in)
  go_ret
  exact ⟨_, rfl, 0, rfl⟩
set_option maxRecDepth 100000 in
theorem c_len6 (w : World) : Calls Try.prog 79 #[.int .u64 6] w (fun e w' => ∃ v : Int, e = .returned (.int .i64 v) ∧ ∃ m, w' = w.drewN m) := by
  go_enter Try.func79, Try.ntmps79
  go_wp2_with (go_at_call 102; go_in)
  go_ret
  exact ⟨_, rfl, 0, rfl⟩
set_option maxRecDepth 100000 in
theorem c_len7 (w : World) : Calls Try.prog 79 #[.int .u64 7] w (fun e w' => ∃ v : Int, e = .returned (.int .i64 v) ∧ ∃ m, w' = w.drewN m) := by
  go_enter Try.func79, Try.ntmps79
  go_wp2_with (go_at_call 102; go_in)
  go_ret
  exact ⟨_, rfl, 0, rfl⟩
set_option maxRecDepth 100000 in
theorem c_len8 (w : World) : Calls Try.prog 79 #[.int .u64 8] w (fun e w' => ∃ v : Int, e = .returned (.int .i64 v) ∧ ∃ m, w' = w.drewN m) := by
  go_enter Try.func79, Try.ntmps79
  go_wp2_with (go_at_call 102; go_in)
  go_ret
  exact ⟨_, rfl, 0, rfl⟩
set_option maxRecDepth 100000 in
theorem c_len9 (w : World) : Calls Try.prog 79 #[.int .u64 9] w (fun e w' => ∃ v : Int, e = .returned (.int .i64 v) ∧ ∃ m, w' = w.drewN m) := by
  go_enter Try.func79, Try.ntmps79
  go_wp2_with (go_at_call 102; go_in)
  go_ret
  exact ⟨_, rfl, 0, rfl⟩
set_option maxRecDepth 100000 in
theorem c_len10 (w : World) : Calls Try.prog 79 #[.int .u64 10] w (fun e w' => ∃ v : Int, e = .returned (.int .i64 v) ∧ ∃ m, w' = w.drewN m) := by
  go_enter Try.func79, Try.ntmps79
  go_wp2_with (go_at_call 102; go_in)
  go_ret
  exact ⟨_, rfl, 0, rfl⟩
set_option maxRecDepth 100000 in
theorem c_len11 (w : World) : Calls Try.prog 79 #[.int .u64 11] w (fun e w' => ∃ v : Int, e = .returned (.int .i64 v) ∧ ∃ m, w' = w.drewN m) := by
  go_enter Try.func79, Try.ntmps79
  go_wp2_with (go_at_call 102; go_in)
  go_ret
  exact ⟨_, rfl, 0, rfl⟩
set_option maxRecDepth 100000 in
theorem c_len12 (w : World) : Calls Try.prog 79 #[.int .u64 12] w (fun e w' => ∃ v : Int, e = .returned (.int .i64 v) ∧ ∃ m, w' = w.drewN m) := by
  go_enter Try.func79, Try.ntmps79
  go_wp2_with (go_at_call 102; go_in)
  go_ret
  exact ⟨_, rfl, 0, rfl⟩
theorem c_len (n : Nat) (h1 : 1 ≤ n) (h : n ≤ 12) (w : World) : Calls Try.prog 79 #[.int .u64 n] w (fun e w' => ∃ v : Int, e = .returned (.int .i64 v) ∧ ∃ m, w' = w.drewN m) := by
  have : n = 1 ∨ n = 2 ∨ n = 3 ∨ n = 4 ∨ n = 5 ∨ n = 6 ∨ n = 7 ∨ n = 8 ∨ n = 9 ∨ n = 10 ∨ n = 11 ∨ n = 12 := by omega
  rcases this with rfl | rfl | rfl | rfl | rfl | rfl | rfl | rfl | rfl | rfl | rfl | rfl
  · exact c_len1 w
  · exact c_len2 w
  · exact c_len3 w
  · exact c_len4 w
  · exact c_len5 w
  · exact c_len6 w
  · exact c_len7 w
  · exact c_len8 w
  · exact c_len9 w
  · exact c_len10 w
  · exact c_len11 w
  · exact c_len12 w
theorem grown_any {w w' : World} {row : Option Nat} (hb : Below w.heap.size w w') : w.grownBy w' row := ⟨hb.os, hb.tape, hb.output, hb.size, fun i hi _ => hb.block i hi⟩
theorem own_dr {w : World} {base n : Nat} {e : TypeId} {size : Nat} {v : Value} {xs : List Value} (h : w.ownsRow base e size v n xs) (k : Nat) : (w.drewN k).ownsRow base e size v n xs := h
theorem mem_gl {ll : List (List Int)} {a : List Int} : a ∈ ll ↔ ∃ k, k < ll.length ∧ gl ll k = a := by
  rw [List.mem_iff_getElem]
  constructor
  · rintro ⟨k, hk, e⟩; exact ⟨k, hk, by simp [gl, List.getElem?_eq_getElem hk, e]⟩
  · rintro ⟨k, hk, e⟩; exact ⟨k, hk, by simpa [gl, List.getElem?_eq_getElem hk] using e⟩
/-- A slice of slices at address A reads as ll, in blocks below B. -/
def II (w : World) (B : Nat) (A : Option Addr) (ll : List (List Int)) : Prop :=
  0 < ll.length → ∃ b off, A = some ⟨b, off, none⟩ ∧ b < B ∧ ∀ k, k < ll.length → ∃ A' c', w.cell? ⟨b, off + k, none⟩ = some (.slice A' (gl ll k).length c') ∧ (gl ll k).length ≤ c' ∧ c' ≤ maxLen ∧ IS w B A' (gl ll k)
theorem II.below {w w' : World} {B : Nat} {A : Option Addr} {ll : List (List Int)} (h : II w B A ll) (hb : Below B w w') : II w' B A ll := fun h0 => by
  obtain ⟨b, off, rfl, hlt, hc⟩ := h h0
  refine ⟨b, off, rfl, hlt, fun k hk => ?_⟩
  obtain ⟨A', c', h1, h2, h3, h4⟩ := hc k hk
  exact ⟨A', c', by rw [hb.cell hlt]; exact h1, h2, h3, h4.below hb⟩
theorem II.more {w : World} {B B' : Nat} {A : Option Addr} {ll : List (List Int)} (h : II w B A ll) (hB : B ≤ B') : II w B' A ll := fun h0 => by
  obtain ⟨b, off, rfl, hlt, hc⟩ := h h0
  refine ⟨b, off, rfl, by omega, fun k hk => ?_⟩
  obtain ⟨A', c', h1, h2, h3, h4⟩ := hc k hk
  exact ⟨A', c', h1, h2, h3, h4.more hB⟩
theorem II.at {w : World} {B : Nat} {A : Option Addr} {ll : List (List Int)} (h : II w B A ll) {k : Nat} (hk : k < ll.length) :
    ∃ b off, A = some ⟨b, off, none⟩ ∧ b < B ∧ ∀ k, k < ll.length → ∃ A' c', w.cell? ⟨b, off + k, none⟩ = some (.slice A' (gl ll k).length c') ∧ (gl ll k).length ≤ c' ∧ c' ≤ maxLen ∧ IS w B A' (gl ll k) := h (by omega)
theorem own_cap {w : World} {base n c : Nat} {e : TypeId} {A : Option Addr} {xs : List Value} (h : w.ownsRow base e 1 (.slice A n c) n xs) : n ≤ c ∧ c ≤ maxLen := by
  rcases h.2 with ⟨h0, _⟩ | ⟨g, cap, cur, hv, _, _, h1, h2, _⟩
  · cases h0; simp [maxLen]
  · cases hv; exact ⟨h1, h2⟩
theorem step_append_own {P : Program} {w : World} {ops : Array Oper} {o : Oper} {a : Act} {K : Act → World → Prop} {Q : Exit → Act → World → Prop} {E : Prop} (hgd : o.guard = none) (s x : Operand) (t : TypeId)
    (ho : o.op = .call { callee := .builtin .append, args := #[s, x], argTypes := #[t, t] })
    (base : Nat) (e : TypeId) (i : TypeInfo) (z : Value) (size bytes : Nat) (ht : P.underlying t = some (.slice e)) (hi : P.info? e = some i) (hz : i.zero = some z)
    (hsize : i.size = size) (hby : i.bytes = bytes) (hzs : z.cells.size = size) (hsz : 0 < size)
    (v : Value) (n : Nat) (xs : List Value) (hs : a.eval s = v) (hown : w.ownsRow base e size v n xs)
    (ad : Addr) (m c : Nat) (news : List Value) (hx : a.eval x = .slice (some ad) m c) (hl : news.length = m * size) (hnews : ∀ j u, news[j]? = some u → w.cell? (ad.add j) = some u) (h1 : ∀ u ∈ news, u.oneCell' = true)
    (h63 : n + m ≤ maxLen) (hbytes : (n + m) * bytes ≤ 140737488355328) (hbase : base ≤ w.heap.size)
    (h : ∀ v' w', w'.ownsRow base e size v' (n + m) (xs ++ news) → w.grownBy w' v.ownBlock → (v'.ownBlock = v.ownBlock ∨ v'.ownBlock = some w.heap.size) → K (a.put o.dst v') w') :
    if Region.wanted o (yielded ops a.tmps) = true then Oper.wp P o a w K Q else E := by
  have hw : Region.wanted o (yielded ops a.tmps) = true := by simp [Region.wanted, hgd]
  rw [if_pos hw]
  obtain ⟨v', w', hr, h2, h3, _, h5⟩ := run_append_own_at (P := P) w base t o.type e i z size bytes ht hi hz hsize hby hzs hsz v n xs hown ad m c news hl hnews h1 h63 hbytes hbase
  unfold Oper.wp execOp
  simp only [ho, resolve, invoke, builtin, Sem.run_bind, Sem.run_pure, Result.andThen_ok, List.map_toArray, List.map_cons, List.map_nil, hs, hx, hr]
  exact h v' w' h2 h3 h5
end Go.Proofs.Ytifaccppbhbfhaa
