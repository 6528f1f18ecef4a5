/- IsConsoleLine: the law. -/
import Derived.Test.YtjfinniebijgbaaDoorA315
namespace Go.Proofs.YtjfinniebijgbaaDoor
set_option linter.unusedVariables false
set_option linter.unusedSimpArgs false
open Go.RowKit
open Go.Lib hiding intOf

theorem s_IsConsoleLine (s : ByteArray) (w : World) (hs : s.size ≤ 1048576) :
    Calls Tryd.prog 11 #[.string s] w (M (.bool (linB (spl 32 s.data.toList))) w) := by
  have hp := s_parse s w hs
  generalize linB (spl 32 s.data.toList) = b at *
  go_enter Tryd.func11, Tryd.ntmps11
  go_wp2_with (go_at_call 25; refine hp.mono ?_; rintro e w2 ⟨x, y, rfl, hb2⟩)
  go_ret
  exact ⟨rfl, hb2⟩
theorem law_IsConsoleLine (s : ByteArray) (w : World) (hv : VW w) :
    Calls Tryd.prog 4 #[.string s] w (M (.bool true) w) := by
  by_cases hbig : 1048576 < s.size
  · clear hv
    have hb' : (1048576 : Int) < (s.size : Int) := by omega
    go_enter Tryd.func4, Tryd.ntmps4
    go_wp2_with (fail)
    go_ret
    exact ⟨rfl, Below.refl _ _⟩
  have hl : s.size ≤ 1048576 := by omega
  have hb' : ¬ (1048576 : Int) < (s.size : Int) := by omega
  have h1 := s_IsConsoleLine s w hl
  have h2 := fun W h => i_IsConsoleLine s W hl h
  have HV := Lib.hid hv
  generalize linB (spl 32 s.data.toList) = b at *
  clear hbig hv hl
  cases b
  all_goals
    go_enter Tryd.func4, Tryd.ntmps4
    go_wp2_with (first
      | (go_at_call 11; refine h1.mono ?_; rintro e w2 ⟨rfl, hb2⟩)
      | (go_at_call 12; refine (h2 _ (HV.out.below hb2)).mono ?_; rintro e w3 ⟨rfl, hb3⟩))
    go_ret
    exact ⟨rfl, bel_call hb2 hb3⟩
end Go.Proofs.YtjfinniebijgbaaDoor
