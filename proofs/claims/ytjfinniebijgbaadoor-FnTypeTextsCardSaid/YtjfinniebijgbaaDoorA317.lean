/- Texts: from what the row lists of the library's variables to what the walks ask. -/
import Derived.Test.YtjfinniebijgbaaDoorA311
import Derived.Test.YtjfinniebijgbaaDoorRows
import Derived.WalkSmall
import Derived.Stop.LaidErr
import Derived.Lib.LaidTab
import Derived.Shelf.Vars
import Derived.MakeChecks
import Derived.Handed
import Derived.Stop.Joined
namespace Go.Proofs.YtjfinniebijgbaaDoor
set_option linter.unusedVariables false
set_option linter.unusedSimpArgs false
open Go.RowKit
open Go.Lib hiding intOf

theorem gSyn : Tryd.prog.globalNamed "strconv.ErrSyntax" = some 1 := by kernel_rfl
theorem gRan : Tryd.prog.globalNamed "strconv.ErrRange" = some 2 := by kernel_rfl
theorem gPow : Tryd.prog.globalNamed "internal/strconv.uint64pow10" = some 5 := by kernel_rfl
theorem tSyn : (Tryd.prog.globals[1]?).map (·.type) = some 63 := by kernel_rfl
theorem tRan : (Tryd.prog.globals[2]?).map (·.type) = some 63 := by kernel_rfl
theorem tPow : (Tryd.prog.globals[5]?).map (·.type) = some 127 := by kernel_rfl
theorem cES : Tryd.prog.cellsOf 125 = 1 := by kernel_rfl
theorem cStr : Tryd.prog.cellsOf 9 = 1 := by kernel_rfl
theorem cU64 : Tryd.prog.cellsOf 94 = 1 := by kernel_rfl
theorem cPow : Tryd.prog.cellsOf 127 = 20 := by kernel_rfl
theorem starES : "*" ++ "errors.errorString" = "*errors.errorString" := by decide
theorem rowES (u : TypeId) (h : Tryd.prog.typeName? 3 u = some "*errors.errorString") : u = 123 :=
  typeName_ptr_named (nm := "errors.errorString") (by rw [starES]; kernel_rfl) (by kernel_rfl) (by decide) u (by rw [starES]; exact h)
theorem bel_blk {W W' : World} (h : Below W.heap.size W W') {a : Addr} {v : Value} (hc : W.cell? a = some v) : W'.cell? a = some v := by
  rw [h.cell (p := a) ?_]
  · exact hc
  · unfold World.cell? at hc
    rcases Nat.lt_or_ge a.block W.heap.size with hlt | hge
    · exact hlt
    · rw [Array.getElem?_eq_none hge] at hc
      cases hc
theorem var_bel {W W' : World} {n : String} {cs : Array Value} (h : Below W.heap.size W W') (hv : W.var? Tryd.prog n = some cs) : W'.var? Tryd.prog n = some cs := by
  unfold World.var? at hv ⊢
  cases hg : Tryd.prog.globalNamed n with
  | none => rw [hg] at hv; cases hv
  | some g =>
    rw [hg] at hv
    simp only [Option.bind_some] at hv ⊢
    have hlt : g < W.heap.size := by
      rcases Nat.lt_or_ge g W.heap.size with hlt | hge
      · exact hlt
      · rw [Array.getElem?_eq_none hge] at hv
        cases hv
    rw [h.block g hlt]
    exact hv
theorem maxLen_cell {W : World} (h : W.ShapedOpen Tryd.prog) : ∃ m, W.cell? ⟨0, 0, none⟩ = some (.int .i64 m) := Tryd.laysM146.s1_3 W h
theorem mx_here {W : World} (h : W.ShapedOpen Tryd.prog) : ∀ W', Below W.heap.size W W' → ∃ m, W'.cell? ⟨0, 0, none⟩ = some (.int .i64 m) := fun W' hb => by
  obtain ⟨m, hm⟩ := maxLen_cell h
  exact ⟨m, bel_blk hb hm⟩
/-- The variables as the walks ask for them. -/
theorem vw_mk {W : World} (h1 : Lib.TabIs Tryd.prog W "internal/strconv.uint64pow10" .u64 Lib.pow10Tab) (h2 : ∃ tp p, W.var? Tryd.prog "strconv.ErrSyntax" = some #[.iface tp p]) (h3 : ∃ tp p, W.var? Tryd.prog "strconv.ErrRange" = some #[.iface tp p]) (h4 : ∃ m, W.cell? ⟨0, 0, none⟩ = some (.int .i64 m)) : VW W := fun W' hb => by
  obtain ⟨t2, p2, h2⟩ := h2
  obtain ⟨t3, p3, h3⟩ := h3
  obtain ⟨m, h4⟩ := h4
  refine ⟨?_, ⟨t2, p2, var_bel hb h2⟩, ⟨t3, p3, var_bel hb h3⟩, ⟨m, bel_blk hb h4⟩⟩
  unfold Lib.TabIs at h1 ⊢
  exact var_bel hb h1
theorem vw_laid {W : World} {x1 x2 x4 : String × DataW Unit} {r : List (String × DataW Unit)} (hL : laidMet Tryd.prog (x1 :: x2 :: ("internal/strconv.uint64pow10", Rows.laid_internal_strconv_uint64pow10) :: x4 :: ("strconv.ErrRange", Rows.laid_strconv_ErrRange) :: ("strconv.ErrSyntax", Rows.laid_strconv_ErrSyntax) :: r) W) (hsh : W.ShapedOpen Tryd.prog) : VW W := by
  have a1 := hL.tail.tail
  have a2 := a1.tail.tail
  have a3 := a2.tail
  obtain ⟨_, _, v2, _⟩ := laid_sentinel a2 gRan tRan Tryd.underlying63 rowES Tryd.underlying123 Tryd.underlying125 rfl rfl Tryd.underlying9 cES cStr
  obtain ⟨_, _, v3, _⟩ := laid_sentinel a3 gSyn tSyn Tryd.underlying63 rowES Tryd.underlying123 Tryd.underlying125 rfl rfl Tryd.underlying9 cES cStr
  have ht := Lib.tabIs_of_head (zs := Lib.pow10Tab) gPow tPow Tryd.underlying127 Tryd.underlying94 cU64 cPow (by exact a1)
  exact vw_mk ht ⟨_, _, v3⟩ ⟨_, _, v2⟩ (maxLen_cell hsh)
section
variable {H : Type} {enc : TypeId × Value → H}
/-- The wrap, with the listed variables and the world's shape kept. -/
theorem wrap_laid {a : Assume} {C : Checked} {os : Os} {f : FuncId} {fn : Func} {s : ChangeSpec} {conds : List PathCond} {apart fresh handsOn again : Bool} {laid : List (String × DataW Unit)}
    (own : ownKnob C.prog.godebug = none) (started : os.Started) (noInit : C.prog.inits.idxOf? f = none) (hfn : C.prog.funcs[f]? = some fn)
    (witness : ∃ (w : World) (tape : Tape) (i : Input), w.os = os ∧ (w.forCall tape i).Shaped C.prog ∧ i.vars = [] ∧ Input.okWide C.prog (w.forCall tape i) .any w.heap.size f i ∧
      ((s.pre enc C.prog fn conds apart (w.forCall tape i).memory i.args ∧ laidMetH C.prog laid (w.forCall tape i).memory) ∧ sizedMet enc C.prog fn (OpenSpec.ofChange s) apart (w.forCall tape i).memory i.args) ∧ a.holds C.prog (lone (Frame.enter C.prog f i.args .normal) [] (w.forCall tape i)))
    (contract : ∀ (W : World) (base : Nat) (args : Array Value) (ds gs : List (DataW H)) (before : List MemPlace),
      (∀ (j : Nat) t v, fn.params[j]? = some t → args[j]? = some v → Value.okWide C.prog W .any base t v) →
      DataW.Whole enc C.prog fn.params.toList s.vars apart W args.toList ds gs before → laidMetH C.prog laid W → W.ShapedOpen C.prog →
      Calls C.prog f args W fun e W' => ∃ v, e = .returned v ∧ s.post enc C.prog fn apart fresh handsOn again W args v W') :
    ReturnsInHanded a C os f .any (fun w args => (s.pre enc C.prog fn conds apart w args ∧ laidMetH C.prog laid w) ∧ sizedMet enc C.prog fn (OpenSpec.ofChange s) apart w args) (s.post enc C.prog fn apart fresh handsOn again) := by
  refine returnsInHanded_of_calls own started noInit witness ?_
  intro w tape i _ hsh _ hok hpre _
  obtain ⟨_, _, _, fn', hfn', _, _, _, _, hval⟩ := hok
  obtain rfl : fn' = fn := Option.some.inj (hfn'.symm.trans hfn)
  obtain ⟨⟨⟨ds, gs, before, hw, _⟩, hl⟩, _⟩ := hpre
  refine (contract (w.forCall tape i) w.heap.size i.args ds gs before hval (DataW.Whole.of_heap (w' := w.forCall tape i) (by rfl) hw) (laidMetH.of_heap (by rfl) hl) hsh).mono ?_
  rintro e W' ⟨v, rfl, hp⟩
  exact ChangeSpec.post_blind hp
end
end Go.Proofs.YtjfinniebijgbaaDoor
