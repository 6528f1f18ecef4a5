/- Tools: comparing numbers, worlds that grow, appends, slices of slices that are read. -/
import Derived.Test.YtjfinniebijgbaaDoorA20
import Derived.Test.YtjfinniebijgbaaDoorA30
import Derived.Lib.QuietBelow
import Derived.Deep.RegionLaw
namespace Go.Proofs.YtjfinniebijgbaaDoor
set_option linter.unusedVariables false
set_option linter.unusedSimpArgs false
open Go.RowKit

def cmpN (a b : Int) : Int := if a < b then -1 else if b < a then 1 else 0
theorem cmpN_b (a b : Int) : -1 ≤ cmpN a b ∧ cmpN a b ≤ 1 := by unfold cmpN; split <;> (try split) <;> omega
theorem grown_any {w w' : World} {row : Option Nat} (hb : Below w.heap.size w w') : w.grownBy w' row := ⟨hb.os, hb.tape, hb.output, hb.size, fun i hi _ => hb.block i hi⟩
theorem own_dr {w : World} {base n : Nat} {e : TypeId} {size : Nat} {v : Value} {xs : List Value} (h : w.ownsRow base e size v n xs) (k : Nat) : (w.drewN k).ownsRow base e size v n xs := h
theorem mem_gl {ll : List (List Int)} {a : List Int} : a ∈ ll ↔ ∃ k, k < ll.length ∧ gl ll k = a := by
  rw [List.mem_iff_getElem]
  constructor
  · rintro ⟨k, hk, e⟩; exact ⟨k, hk, by simp [gl, List.getElem?_eq_getElem hk, e]⟩
  · rintro ⟨k, hk, e⟩; exact ⟨k, hk, by simpa [gl, List.getElem?_eq_getElem hk] using e⟩
/-- A slice of slices at address A reads as ll, in blocks below B. -/
def II (w : World) (B : Nat) (A : Option Addr) (ll : List (List Int)) : Prop :=
  0 < ll.length → ∃ b off, A = some ⟨b, off, none⟩ ∧ b < B ∧ ∀ k, k < ll.length → ∃ A' c', w.cell? ⟨b, off + k, none⟩ = some (.slice A' (gl ll k).length c') ∧ (gl ll k).length ≤ c' ∧ c' ≤ maxLen ∧ IS w B A' (gl ll k)
theorem II.below {w w' : World} {B : Nat} {A : Option Addr} {ll : List (List Int)} (h : II w B A ll) (hb : Below B w w') : II w' B A ll := fun h0 => by
  obtain ⟨b, off, rfl, hlt, hc⟩ := h h0
  refine ⟨b, off, rfl, hlt, fun k hk => ?_⟩
  obtain ⟨A', c', h1, h2, h3, h4⟩ := hc k hk
  exact ⟨A', c', by rw [hb.cell hlt]; exact h1, h2, h3, h4.below hb⟩
theorem II.more {w : World} {B B' : Nat} {A : Option Addr} {ll : List (List Int)} (h : II w B A ll) (hB : B ≤ B') : II w B' A ll := fun h0 => by
  obtain ⟨b, off, rfl, hlt, hc⟩ := h h0
  refine ⟨b, off, rfl, by omega, fun k hk => ?_⟩
  obtain ⟨A', c', h1, h2, h3, h4⟩ := hc k hk
  exact ⟨A', c', h1, h2, h3, h4.more hB⟩
theorem II.at {w : World} {B : Nat} {A : Option Addr} {ll : List (List Int)} (h : II w B A ll) {k : Nat} (hk : k < ll.length) :
    ∃ b off, A = some ⟨b, off, none⟩ ∧ b < B ∧ ∀ k, k < ll.length → ∃ A' c', w.cell? ⟨b, off + k, none⟩ = some (.slice A' (gl ll k).length c') ∧ (gl ll k).length ≤ c' ∧ c' ≤ maxLen ∧ IS w B A' (gl ll k) := h (by omega)
theorem own_cap {w : World} {base n c : Nat} {e : TypeId} {A : Option Addr} {xs : List Value} (h : w.ownsRow base e 1 (.slice A n c) n xs) : n ≤ c ∧ c ≤ maxLen := by
  rcases h.2 with ⟨h0, _⟩ | ⟨g, cap, cur, hv, _, _, h1, h2, _⟩
  · cases h0; simp [maxLen]
  · cases hv; exact ⟨h1, h2⟩
theorem step_append_own {P : Program} {w : World} {ops : Array Oper} {o : Oper} {a : Act} {K : Act → World → Prop} {Q : Exit → Act → World → Prop} {E : Prop} (hgd : o.guard = none) (s x : Operand) (t : TypeId)
    (ho : o.op = .call { callee := .builtin .append, args := #[s, x], argTypes := #[t, t] })
    (base : Nat) (e : TypeId) (i : TypeInfo) (z : Value) (size bytes : Nat) (ht : P.underlying t = some (.slice e)) (hi : P.info? e = some i) (hz : i.zero = some z)
    (hsize : i.size = size) (hby : i.bytes = bytes) (hzs : z.cells.size = size) (hsz : 0 < size)
    (v : Value) (n : Nat) (xs : List Value) (hs : a.eval s = v) (hown : w.ownsRow base e size v n xs)
    (ad : Addr) (m c : Nat) (news : List Value) (hx : a.eval x = .slice (some ad) m c) (hl : news.length = m * size) (hnews : ∀ j u, news[j]? = some u → w.cell? (ad.add j) = some u) (h1 : ∀ u ∈ news, u.oneCell' = true)
    (h63 : n + m ≤ maxLen) (hbytes : (n + m) * bytes ≤ 140737488355328) (hbase : base ≤ w.heap.size)
    (h : ∀ v' w', w'.ownsRow base e size v' (n + m) (xs ++ news) → w.grownBy w' v.ownBlock → (v'.ownBlock = v.ownBlock ∨ v'.ownBlock = some w.heap.size) → K (a.put o.dst v') w') :
    if Region.wanted o (yielded ops a.tmps) = true then Oper.wp P o a w K Q else E := by
  have hw : Region.wanted o (yielded ops a.tmps) = true := by simp [Region.wanted, hgd]
  rw [if_pos hw]
  obtain ⟨v', w', hr, h2, h3, _, h5⟩ := run_append_own_at (P := P) w base t o.type e i z size bytes ht hi hz hsize hby hzs hsz v n xs hown ad m c news hl hnews h1 h63 hbytes hbase
  unfold Oper.wp execOp
  simp only [ho, resolve, invoke, builtin, Sem.run_bind, Sem.run_pure, Result.andThen_ok, List.map_toArray, List.map_cons, List.map_nil, hs, hx, hr]
  exact h v' w' h2 h3 h5
end Go.Proofs.YtjfinniebijgbaaDoor
