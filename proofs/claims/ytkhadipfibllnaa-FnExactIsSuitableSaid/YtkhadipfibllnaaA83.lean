/- Walks: IsSolvableName; the law of GroupNamed. -/
import Derived.Test.YtkhadipfibllnaaA82
import Derived.Test.YtkhadipfibllnaaA19
namespace Go.Proofs.Ytkhadipfibllnaa
set_option linter.unusedVariables false
set_option linter.unusedSimpArgs false
open Go.RowKit

def MBI (b : Bool) (c : Int) (w : World) (e : Ending) (w' : World) : Prop := e = .returned (.tuple #[.bool b, .int .i64 c]) ∧ Below w.heap.size w w'
set_option maxHeartbeats 1000000 in
theorem i_IsSolvableName (s : ByteArray) (p : Int) (l : List Int) (code : Int) (h : NV s p l code) (x y : Bool) (hx : (s.toList == [65, 53]) = x) (hy : (s.toList == [83, 53]) = y) (w : World) :
    Calls Try.prog 26 #[.string s] w (MBI (code == 0 && (!x && !y)) code w) := by
  have hg := fun W => i_GroupNamed s p l code h W
  have hc := nv_code h
  clear h
  rcases hc with ⟨rfl | ⟨rfl, rfl, rfl⟩, _⟩
  · cases x <;> cases y <;>
    (go_enter Try.func26, Try.ntmps26
     go_wp2_with (go_at_call 19; refine (hg _).mono ?_; rintro e w1 ⟨v, rfl, ho, hb1⟩; obtain ⟨Ar, cr, rfl, _⟩ := own_slice' ho)
     go_ret2
     exact ⟨rfl, hb1.alloc hb1.size _⟩)
  · go_enter Try.func26, Try.ntmps26
    go_wp2_with (go_at_call 19; refine (hg _).mono ?_; rintro e w1 ⟨v, rfl, ho, hb1⟩; obtain ⟨Ar, cr, rfl, _⟩ := own_slice' ho)
    go_ret2
    exact ⟨rfl, hb1.alloc hb1.size _⟩
set_option maxHeartbeats 1000000 in
theorem s_IsSolvableName (s : ByteArray) (p : Int) (l : List Int) (code : Int) (h : NV s p l code) (x y : Bool) (hx : (s.toList == [65, 53]) = x) (hy : (s.toList == [83, 53]) = y) (w : World) :
    Calls Try.prog 25 #[.string s] w (MBI (code == 0 && (!x && !y)) code w) := by
  rcases h with ⟨i, hi, hs, rfl, rfl, rfl⟩ | ⟨hs, rfl, rfl, rfl⟩
  · have hp := fun W => s_l24Points i hi s hs W
    have hp1 := (lb_in i hi).1
    clear hs
    generalize lbP i = p at *
    have hpz : ((p : Int) == 0) = false := by rw [beq_eq_false_iff_ne]; omega
    cases x <;> cases y <;>
    (go_enter Try.func25, Try.ntmps25
     go_wp2_with (go_at_call 53; refine (hp _).mono ?_; rintro e w1 ⟨rfl, hb1⟩)
     go_ret2
     exact ⟨rfl, hb1⟩)
  · go_enter Try.func25, Try.ntmps25
    go_wp2_with (go_at_call 53; refine (s_l24Points_no s hs _).mono ?_; rintro e w1 ⟨rfl, nq, rfl⟩)
    go_ret2
    exact ⟨rfl, below_drewN (Below.refl _ _) _⟩
set_option maxHeartbeats 1000000 in
theorem law_IsSolvableName (s : ByteArray) (w : World) : Calls Try.prog 6 #[.string s] w (M (.bool true) w) := by
  obtain ⟨p, l, code, h⟩ := nv_ex s
  have h1 := fun W => s_IsSolvableName s p l code h _ _ rfl rfl W
  have h2 := fun W => i_IsSolvableName s p l code h _ _ rfl rfl W
  clear h
  generalize (code == 0 && (!(s.toList == [65, 53]) && !(s.toList == [83, 53]))) = b at *
  by_cases hbig : 1048576 < s.size
  · go_enter Try.func6, Try.ntmps6
    go_wp2_with (fail)
    go_ret
    exact ⟨rfl, Below.refl _ _⟩
  · go_enter Try.func6, Try.ntmps6
    go_wp2_with (first
      | (go_at_call 25; refine (h1 _).mono ?_; rintro e w1 ⟨rfl, hb1⟩)
      | (go_at_call 26; refine (h2 _).mono ?_; rintro e w2 ⟨rfl, hb2⟩))
    go_ret
    exact ⟨rfl, bel_call hb1 hb2⟩
end Go.Proofs.Ytkhadipfibllnaa
