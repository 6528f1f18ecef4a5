/- IsConsoleLine: the kinds of the words behind a command, on both sides. -/
import Derived.Test.YtjfinniebijgbaaDoorA313
namespace Go.Proofs.YtjfinniebijgbaaDoor
set_option linter.unusedVariables false
set_option linter.unusedSimpArgs false
open Go.RowKit
open Go.Lib hiding intOf

/-- The commands, each with the kinds of its words. -/
def kdT : List (List UInt8 × List UInt8) := [([114, 105, 110, 103], [73, 73]), ([112, 111, 108, 121], [84]), ([112, 97, 100, 105, 99], [84]), ([114, 97, 116, 105, 111, 110, 97, 108], [84]), ([110, 111, 116, 101], [84]), ([108, 105, 102, 116], [73]), ([100, 101, 103, 114, 101, 101, 115], [73]), ([115, 108, 111, 112, 101, 115], [73]), ([115, 112, 108, 105, 116], [73]), ([104, 105, 108, 98, 101, 114, 116], [73, 74, 74]), ([114, 111, 111, 116, 115], []), ([100, 105, 115, 99], []), ([103, 97, 108, 111, 105, 115], []), ([99, 97, 115, 101, 115], [])]
def kd (l : List UInt8) : Option (List UInt8) := (kdT.find? fun p => l == p.1).map Prod.snd
theorem kd_one {l K : List UInt8} (h : kd l = some K) : K ∈ ([[73, 73], [84], [73], [73, 74, 74], []] : List (List UInt8)) := by
  unfold kd at h
  cases hf : kdT.find? (fun p => l == p.1) with
  | none => rw [hf] at h; cases h
  | some p =>
    rw [hf] at h
    simp only [Option.map_some, Option.some.injEq] at h
    subst h
    have hm := List.mem_of_find?_eq_some hf
    have hall : ∀ p ∈ kdT, p.2 ∈ ([[73, 73], [84], [73], [73, 74, 74], []] : List (List UInt8)) := by decide
    exact hall p hm
set_option maxRecDepth 20000 in
theorem i_kind0 (s : ByteArray) (w : World) (h : s.toList = [114, 105, 110, 103]) : Calls Tryd.prog 27 #[.string s] w (Q (.tuple #[.string ⟨#[73, 73]⟩, .bool true]) w) := by
  have h0 : (s.toList == [114, 105, 110, 103]) = true := by rw [h]; rfl
  have h1 : (s.toList == [112, 111, 108, 121]) = false := by rw [h]; rfl
  have h2 : (s.toList == [112, 97, 100, 105, 99]) = false := by rw [h]; rfl
  have h3 : (s.toList == [114, 97, 116, 105, 111, 110, 97, 108]) = false := by rw [h]; rfl
  have h4 : (s.toList == [110, 111, 116, 101]) = false := by rw [h]; rfl
  have h5 : (s.toList == [108, 105, 102, 116]) = false := by rw [h]; rfl
  have h6 : (s.toList == [100, 101, 103, 114, 101, 101, 115]) = false := by rw [h]; rfl
  have h7 : (s.toList == [115, 108, 111, 112, 101, 115]) = false := by rw [h]; rfl
  have h8 : (s.toList == [115, 112, 108, 105, 116]) = false := by rw [h]; rfl
  have h9 : (s.toList == [104, 105, 108, 98, 101, 114, 116]) = false := by rw [h]; rfl
  have h10 : (s.toList == [114, 111, 111, 116, 115]) = false := by rw [h]; rfl
  have h11 : (s.toList == [100, 105, 115, 99]) = false := by rw [h]; rfl
  have h12 : (s.toList == [103, 97, 108, 111, 105, 115]) = false := by rw [h]; rfl
  have h13 : (s.toList == [99, 97, 115, 101, 115]) = false := by rw [h]; rfl
  clear h
  go_enter Tryd.func27, Tryd.ntmps27
  go_wp2_with (fail)
  go_ret2
  exact ⟨rfl, 0, rfl⟩
set_option maxRecDepth 20000 in
theorem i_kind1 (s : ByteArray) (w : World) (h : s.toList = [112, 111, 108, 121]) : Calls Tryd.prog 27 #[.string s] w (Q (.tuple #[.string ⟨#[84]⟩, .bool true]) w) := by
  have h0 : (s.toList == [114, 105, 110, 103]) = false := by rw [h]; rfl
  have h1 : (s.toList == [112, 111, 108, 121]) = true := by rw [h]; rfl
  have h2 : (s.toList == [112, 97, 100, 105, 99]) = false := by rw [h]; rfl
  have h3 : (s.toList == [114, 97, 116, 105, 111, 110, 97, 108]) = false := by rw [h]; rfl
  have h4 : (s.toList == [110, 111, 116, 101]) = false := by rw [h]; rfl
  have h5 : (s.toList == [108, 105, 102, 116]) = false := by rw [h]; rfl
  have h6 : (s.toList == [100, 101, 103, 114, 101, 101, 115]) = false := by rw [h]; rfl
  have h7 : (s.toList == [115, 108, 111, 112, 101, 115]) = false := by rw [h]; rfl
  have h8 : (s.toList == [115, 112, 108, 105, 116]) = false := by rw [h]; rfl
  have h9 : (s.toList == [104, 105, 108, 98, 101, 114, 116]) = false := by rw [h]; rfl
  have h10 : (s.toList == [114, 111, 111, 116, 115]) = false := by rw [h]; rfl
  have h11 : (s.toList == [100, 105, 115, 99]) = false := by rw [h]; rfl
  have h12 : (s.toList == [103, 97, 108, 111, 105, 115]) = false := by rw [h]; rfl
  have h13 : (s.toList == [99, 97, 115, 101, 115]) = false := by rw [h]; rfl
  clear h
  go_enter Tryd.func27, Tryd.ntmps27
  go_wp2_with (fail)
  go_ret2
  exact ⟨rfl, 0, rfl⟩
set_option maxRecDepth 20000 in
theorem i_kind2 (s : ByteArray) (w : World) (h : s.toList = [112, 97, 100, 105, 99]) : Calls Tryd.prog 27 #[.string s] w (Q (.tuple #[.string ⟨#[84]⟩, .bool true]) w) := by
  have h0 : (s.toList == [114, 105, 110, 103]) = false := by rw [h]; rfl
  have h1 : (s.toList == [112, 111, 108, 121]) = false := by rw [h]; rfl
  have h2 : (s.toList == [112, 97, 100, 105, 99]) = true := by rw [h]; rfl
  have h3 : (s.toList == [114, 97, 116, 105, 111, 110, 97, 108]) = false := by rw [h]; rfl
  have h4 : (s.toList == [110, 111, 116, 101]) = false := by rw [h]; rfl
  have h5 : (s.toList == [108, 105, 102, 116]) = false := by rw [h]; rfl
  have h6 : (s.toList == [100, 101, 103, 114, 101, 101, 115]) = false := by rw [h]; rfl
  have h7 : (s.toList == [115, 108, 111, 112, 101, 115]) = false := by rw [h]; rfl
  have h8 : (s.toList == [115, 112, 108, 105, 116]) = false := by rw [h]; rfl
  have h9 : (s.toList == [104, 105, 108, 98, 101, 114, 116]) = false := by rw [h]; rfl
  have h10 : (s.toList == [114, 111, 111, 116, 115]) = false := by rw [h]; rfl
  have h11 : (s.toList == [100, 105, 115, 99]) = false := by rw [h]; rfl
  have h12 : (s.toList == [103, 97, 108, 111, 105, 115]) = false := by rw [h]; rfl
  have h13 : (s.toList == [99, 97, 115, 101, 115]) = false := by rw [h]; rfl
  clear h
  go_enter Tryd.func27, Tryd.ntmps27
  go_wp2_with (fail)
  go_ret2
  exact ⟨rfl, 0, rfl⟩
set_option maxRecDepth 20000 in
theorem i_kind3 (s : ByteArray) (w : World) (h : s.toList = [114, 97, 116, 105, 111, 110, 97, 108]) : Calls Tryd.prog 27 #[.string s] w (Q (.tuple #[.string ⟨#[84]⟩, .bool true]) w) := by
  have h0 : (s.toList == [114, 105, 110, 103]) = false := by rw [h]; rfl
  have h1 : (s.toList == [112, 111, 108, 121]) = false := by rw [h]; rfl
  have h2 : (s.toList == [112, 97, 100, 105, 99]) = false := by rw [h]; rfl
  have h3 : (s.toList == [114, 97, 116, 105, 111, 110, 97, 108]) = true := by rw [h]; rfl
  have h4 : (s.toList == [110, 111, 116, 101]) = false := by rw [h]; rfl
  have h5 : (s.toList == [108, 105, 102, 116]) = false := by rw [h]; rfl
  have h6 : (s.toList == [100, 101, 103, 114, 101, 101, 115]) = false := by rw [h]; rfl
  have h7 : (s.toList == [115, 108, 111, 112, 101, 115]) = false := by rw [h]; rfl
  have h8 : (s.toList == [115, 112, 108, 105, 116]) = false := by rw [h]; rfl
  have h9 : (s.toList == [104, 105, 108, 98, 101, 114, 116]) = false := by rw [h]; rfl
  have h10 : (s.toList == [114, 111, 111, 116, 115]) = false := by rw [h]; rfl
  have h11 : (s.toList == [100, 105, 115, 99]) = false := by rw [h]; rfl
  have h12 : (s.toList == [103, 97, 108, 111, 105, 115]) = false := by rw [h]; rfl
  have h13 : (s.toList == [99, 97, 115, 101, 115]) = false := by rw [h]; rfl
  clear h
  go_enter Tryd.func27, Tryd.ntmps27
  go_wp2_with (fail)
  go_ret2
  exact ⟨rfl, 0, rfl⟩
set_option maxRecDepth 20000 in
theorem i_kind4 (s : ByteArray) (w : World) (h : s.toList = [110, 111, 116, 101]) : Calls Tryd.prog 27 #[.string s] w (Q (.tuple #[.string ⟨#[84]⟩, .bool true]) w) := by
  have h0 : (s.toList == [114, 105, 110, 103]) = false := by rw [h]; rfl
  have h1 : (s.toList == [112, 111, 108, 121]) = false := by rw [h]; rfl
  have h2 : (s.toList == [112, 97, 100, 105, 99]) = false := by rw [h]; rfl
  have h3 : (s.toList == [114, 97, 116, 105, 111, 110, 97, 108]) = false := by rw [h]; rfl
  have h4 : (s.toList == [110, 111, 116, 101]) = true := by rw [h]; rfl
  have h5 : (s.toList == [108, 105, 102, 116]) = false := by rw [h]; rfl
  have h6 : (s.toList == [100, 101, 103, 114, 101, 101, 115]) = false := by rw [h]; rfl
  have h7 : (s.toList == [115, 108, 111, 112, 101, 115]) = false := by rw [h]; rfl
  have h8 : (s.toList == [115, 112, 108, 105, 116]) = false := by rw [h]; rfl
  have h9 : (s.toList == [104, 105, 108, 98, 101, 114, 116]) = false := by rw [h]; rfl
  have h10 : (s.toList == [114, 111, 111, 116, 115]) = false := by rw [h]; rfl
  have h11 : (s.toList == [100, 105, 115, 99]) = false := by rw [h]; rfl
  have h12 : (s.toList == [103, 97, 108, 111, 105, 115]) = false := by rw [h]; rfl
  have h13 : (s.toList == [99, 97, 115, 101, 115]) = false := by rw [h]; rfl
  clear h
  go_enter Tryd.func27, Tryd.ntmps27
  go_wp2_with (fail)
  go_ret2
  exact ⟨rfl, 0, rfl⟩
set_option maxRecDepth 20000 in
theorem i_kind5 (s : ByteArray) (w : World) (h : s.toList = [108, 105, 102, 116]) : Calls Tryd.prog 27 #[.string s] w (Q (.tuple #[.string ⟨#[73]⟩, .bool true]) w) := by
  have h0 : (s.toList == [114, 105, 110, 103]) = false := by rw [h]; rfl
  have h1 : (s.toList == [112, 111, 108, 121]) = false := by rw [h]; rfl
  have h2 : (s.toList == [112, 97, 100, 105, 99]) = false := by rw [h]; rfl
  have h3 : (s.toList == [114, 97, 116, 105, 111, 110, 97, 108]) = false := by rw [h]; rfl
  have h4 : (s.toList == [110, 111, 116, 101]) = false := by rw [h]; rfl
  have h5 : (s.toList == [108, 105, 102, 116]) = true := by rw [h]; rfl
  have h6 : (s.toList == [100, 101, 103, 114, 101, 101, 115]) = false := by rw [h]; rfl
  have h7 : (s.toList == [115, 108, 111, 112, 101, 115]) = false := by rw [h]; rfl
  have h8 : (s.toList == [115, 112, 108, 105, 116]) = false := by rw [h]; rfl
  have h9 : (s.toList == [104, 105, 108, 98, 101, 114, 116]) = false := by rw [h]; rfl
  have h10 : (s.toList == [114, 111, 111, 116, 115]) = false := by rw [h]; rfl
  have h11 : (s.toList == [100, 105, 115, 99]) = false := by rw [h]; rfl
  have h12 : (s.toList == [103, 97, 108, 111, 105, 115]) = false := by rw [h]; rfl
  have h13 : (s.toList == [99, 97, 115, 101, 115]) = false := by rw [h]; rfl
  clear h
  go_enter Tryd.func27, Tryd.ntmps27
  go_wp2_with (fail)
  go_ret2
  exact ⟨rfl, 0, rfl⟩
set_option maxRecDepth 20000 in
theorem i_kind6 (s : ByteArray) (w : World) (h : s.toList = [100, 101, 103, 114, 101, 101, 115]) : Calls Tryd.prog 27 #[.string s] w (Q (.tuple #[.string ⟨#[73]⟩, .bool true]) w) := by
  have h0 : (s.toList == [114, 105, 110, 103]) = false := by rw [h]; rfl
  have h1 : (s.toList == [112, 111, 108, 121]) = false := by rw [h]; rfl
  have h2 : (s.toList == [112, 97, 100, 105, 99]) = false := by rw [h]; rfl
  have h3 : (s.toList == [114, 97, 116, 105, 111, 110, 97, 108]) = false := by rw [h]; rfl
  have h4 : (s.toList == [110, 111, 116, 101]) = false := by rw [h]; rfl
  have h5 : (s.toList == [108, 105, 102, 116]) = false := by rw [h]; rfl
  have h6 : (s.toList == [100, 101, 103, 114, 101, 101, 115]) = true := by rw [h]; rfl
  have h7 : (s.toList == [115, 108, 111, 112, 101, 115]) = false := by rw [h]; rfl
  have h8 : (s.toList == [115, 112, 108, 105, 116]) = false := by rw [h]; rfl
  have h9 : (s.toList == [104, 105, 108, 98, 101, 114, 116]) = false := by rw [h]; rfl
  have h10 : (s.toList == [114, 111, 111, 116, 115]) = false := by rw [h]; rfl
  have h11 : (s.toList == [100, 105, 115, 99]) = false := by rw [h]; rfl
  have h12 : (s.toList == [103, 97, 108, 111, 105, 115]) = false := by rw [h]; rfl
  have h13 : (s.toList == [99, 97, 115, 101, 115]) = false := by rw [h]; rfl
  clear h
  go_enter Tryd.func27, Tryd.ntmps27
  go_wp2_with (fail)
  go_ret2
  exact ⟨rfl, 0, rfl⟩
set_option maxRecDepth 20000 in
theorem i_kind7 (s : ByteArray) (w : World) (h : s.toList = [115, 108, 111, 112, 101, 115]) : Calls Tryd.prog 27 #[.string s] w (Q (.tuple #[.string ⟨#[73]⟩, .bool true]) w) := by
  have h0 : (s.toList == [114, 105, 110, 103]) = false := by rw [h]; rfl
  have h1 : (s.toList == [112, 111, 108, 121]) = false := by rw [h]; rfl
  have h2 : (s.toList == [112, 97, 100, 105, 99]) = false := by rw [h]; rfl
  have h3 : (s.toList == [114, 97, 116, 105, 111, 110, 97, 108]) = false := by rw [h]; rfl
  have h4 : (s.toList == [110, 111, 116, 101]) = false := by rw [h]; rfl
  have h5 : (s.toList == [108, 105, 102, 116]) = false := by rw [h]; rfl
  have h6 : (s.toList == [100, 101, 103, 114, 101, 101, 115]) = false := by rw [h]; rfl
  have h7 : (s.toList == [115, 108, 111, 112, 101, 115]) = true := by rw [h]; rfl
  have h8 : (s.toList == [115, 112, 108, 105, 116]) = false := by rw [h]; rfl
  have h9 : (s.toList == [104, 105, 108, 98, 101, 114, 116]) = false := by rw [h]; rfl
  have h10 : (s.toList == [114, 111, 111, 116, 115]) = false := by rw [h]; rfl
  have h11 : (s.toList == [100, 105, 115, 99]) = false := by rw [h]; rfl
  have h12 : (s.toList == [103, 97, 108, 111, 105, 115]) = false := by rw [h]; rfl
  have h13 : (s.toList == [99, 97, 115, 101, 115]) = false := by rw [h]; rfl
  clear h
  go_enter Tryd.func27, Tryd.ntmps27
  go_wp2_with (fail)
  go_ret2
  exact ⟨rfl, 0, rfl⟩
set_option maxRecDepth 20000 in
theorem i_kind8 (s : ByteArray) (w : World) (h : s.toList = [115, 112, 108, 105, 116]) : Calls Tryd.prog 27 #[.string s] w (Q (.tuple #[.string ⟨#[73]⟩, .bool true]) w) := by
  have h0 : (s.toList == [114, 105, 110, 103]) = false := by rw [h]; rfl
  have h1 : (s.toList == [112, 111, 108, 121]) = false := by rw [h]; rfl
  have h2 : (s.toList == [112, 97, 100, 105, 99]) = false := by rw [h]; rfl
  have h3 : (s.toList == [114, 97, 116, 105, 111, 110, 97, 108]) = false := by rw [h]; rfl
  have h4 : (s.toList == [110, 111, 116, 101]) = false := by rw [h]; rfl
  have h5 : (s.toList == [108, 105, 102, 116]) = false := by rw [h]; rfl
  have h6 : (s.toList == [100, 101, 103, 114, 101, 101, 115]) = false := by rw [h]; rfl
  have h7 : (s.toList == [115, 108, 111, 112, 101, 115]) = false := by rw [h]; rfl
  have h8 : (s.toList == [115, 112, 108, 105, 116]) = true := by rw [h]; rfl
  have h9 : (s.toList == [104, 105, 108, 98, 101, 114, 116]) = false := by rw [h]; rfl
  have h10 : (s.toList == [114, 111, 111, 116, 115]) = false := by rw [h]; rfl
  have h11 : (s.toList == [100, 105, 115, 99]) = false := by rw [h]; rfl
  have h12 : (s.toList == [103, 97, 108, 111, 105, 115]) = false := by rw [h]; rfl
  have h13 : (s.toList == [99, 97, 115, 101, 115]) = false := by rw [h]; rfl
  clear h
  go_enter Tryd.func27, Tryd.ntmps27
  go_wp2_with (fail)
  go_ret2
  exact ⟨rfl, 0, rfl⟩
set_option maxRecDepth 20000 in
theorem i_kind9 (s : ByteArray) (w : World) (h : s.toList = [104, 105, 108, 98, 101, 114, 116]) : Calls Tryd.prog 27 #[.string s] w (Q (.tuple #[.string ⟨#[73, 74, 74]⟩, .bool true]) w) := by
  have h0 : (s.toList == [114, 105, 110, 103]) = false := by rw [h]; rfl
  have h1 : (s.toList == [112, 111, 108, 121]) = false := by rw [h]; rfl
  have h2 : (s.toList == [112, 97, 100, 105, 99]) = false := by rw [h]; rfl
  have h3 : (s.toList == [114, 97, 116, 105, 111, 110, 97, 108]) = false := by rw [h]; rfl
  have h4 : (s.toList == [110, 111, 116, 101]) = false := by rw [h]; rfl
  have h5 : (s.toList == [108, 105, 102, 116]) = false := by rw [h]; rfl
  have h6 : (s.toList == [100, 101, 103, 114, 101, 101, 115]) = false := by rw [h]; rfl
  have h7 : (s.toList == [115, 108, 111, 112, 101, 115]) = false := by rw [h]; rfl
  have h8 : (s.toList == [115, 112, 108, 105, 116]) = false := by rw [h]; rfl
  have h9 : (s.toList == [104, 105, 108, 98, 101, 114, 116]) = true := by rw [h]; rfl
  have h10 : (s.toList == [114, 111, 111, 116, 115]) = false := by rw [h]; rfl
  have h11 : (s.toList == [100, 105, 115, 99]) = false := by rw [h]; rfl
  have h12 : (s.toList == [103, 97, 108, 111, 105, 115]) = false := by rw [h]; rfl
  have h13 : (s.toList == [99, 97, 115, 101, 115]) = false := by rw [h]; rfl
  clear h
  go_enter Tryd.func27, Tryd.ntmps27
  go_wp2_with (fail)
  go_ret2
  exact ⟨rfl, 0, rfl⟩
set_option maxRecDepth 20000 in
theorem i_kind10 (s : ByteArray) (w : World) (h : s.toList = [114, 111, 111, 116, 115]) : Calls Tryd.prog 27 #[.string s] w (Q (.tuple #[.string ⟨#[]⟩, .bool true]) w) := by
  have h0 : (s.toList == [114, 105, 110, 103]) = false := by rw [h]; rfl
  have h1 : (s.toList == [112, 111, 108, 121]) = false := by rw [h]; rfl
  have h2 : (s.toList == [112, 97, 100, 105, 99]) = false := by rw [h]; rfl
  have h3 : (s.toList == [114, 97, 116, 105, 111, 110, 97, 108]) = false := by rw [h]; rfl
  have h4 : (s.toList == [110, 111, 116, 101]) = false := by rw [h]; rfl
  have h5 : (s.toList == [108, 105, 102, 116]) = false := by rw [h]; rfl
  have h6 : (s.toList == [100, 101, 103, 114, 101, 101, 115]) = false := by rw [h]; rfl
  have h7 : (s.toList == [115, 108, 111, 112, 101, 115]) = false := by rw [h]; rfl
  have h8 : (s.toList == [115, 112, 108, 105, 116]) = false := by rw [h]; rfl
  have h9 : (s.toList == [104, 105, 108, 98, 101, 114, 116]) = false := by rw [h]; rfl
  have h10 : (s.toList == [114, 111, 111, 116, 115]) = true := by rw [h]; rfl
  have h11 : (s.toList == [100, 105, 115, 99]) = false := by rw [h]; rfl
  have h12 : (s.toList == [103, 97, 108, 111, 105, 115]) = false := by rw [h]; rfl
  have h13 : (s.toList == [99, 97, 115, 101, 115]) = false := by rw [h]; rfl
  clear h
  go_enter Tryd.func27, Tryd.ntmps27
  go_wp2_with (fail)
  go_ret2
  exact ⟨rfl, 0, rfl⟩
set_option maxRecDepth 20000 in
theorem i_kind11 (s : ByteArray) (w : World) (h : s.toList = [100, 105, 115, 99]) : Calls Tryd.prog 27 #[.string s] w (Q (.tuple #[.string ⟨#[]⟩, .bool true]) w) := by
  have h0 : (s.toList == [114, 105, 110, 103]) = false := by rw [h]; rfl
  have h1 : (s.toList == [112, 111, 108, 121]) = false := by rw [h]; rfl
  have h2 : (s.toList == [112, 97, 100, 105, 99]) = false := by rw [h]; rfl
  have h3 : (s.toList == [114, 97, 116, 105, 111, 110, 97, 108]) = false := by rw [h]; rfl
  have h4 : (s.toList == [110, 111, 116, 101]) = false := by rw [h]; rfl
  have h5 : (s.toList == [108, 105, 102, 116]) = false := by rw [h]; rfl
  have h6 : (s.toList == [100, 101, 103, 114, 101, 101, 115]) = false := by rw [h]; rfl
  have h7 : (s.toList == [115, 108, 111, 112, 101, 115]) = false := by rw [h]; rfl
  have h8 : (s.toList == [115, 112, 108, 105, 116]) = false := by rw [h]; rfl
  have h9 : (s.toList == [104, 105, 108, 98, 101, 114, 116]) = false := by rw [h]; rfl
  have h10 : (s.toList == [114, 111, 111, 116, 115]) = false := by rw [h]; rfl
  have h11 : (s.toList == [100, 105, 115, 99]) = true := by rw [h]; rfl
  have h12 : (s.toList == [103, 97, 108, 111, 105, 115]) = false := by rw [h]; rfl
  have h13 : (s.toList == [99, 97, 115, 101, 115]) = false := by rw [h]; rfl
  clear h
  go_enter Tryd.func27, Tryd.ntmps27
  go_wp2_with (fail)
  go_ret2
  exact ⟨rfl, 0, rfl⟩
set_option maxRecDepth 20000 in
theorem i_kind12 (s : ByteArray) (w : World) (h : s.toList = [103, 97, 108, 111, 105, 115]) : Calls Tryd.prog 27 #[.string s] w (Q (.tuple #[.string ⟨#[]⟩, .bool true]) w) := by
  have h0 : (s.toList == [114, 105, 110, 103]) = false := by rw [h]; rfl
  have h1 : (s.toList == [112, 111, 108, 121]) = false := by rw [h]; rfl
  have h2 : (s.toList == [112, 97, 100, 105, 99]) = false := by rw [h]; rfl
  have h3 : (s.toList == [114, 97, 116, 105, 111, 110, 97, 108]) = false := by rw [h]; rfl
  have h4 : (s.toList == [110, 111, 116, 101]) = false := by rw [h]; rfl
  have h5 : (s.toList == [108, 105, 102, 116]) = false := by rw [h]; rfl
  have h6 : (s.toList == [100, 101, 103, 114, 101, 101, 115]) = false := by rw [h]; rfl
  have h7 : (s.toList == [115, 108, 111, 112, 101, 115]) = false := by rw [h]; rfl
  have h8 : (s.toList == [115, 112, 108, 105, 116]) = false := by rw [h]; rfl
  have h9 : (s.toList == [104, 105, 108, 98, 101, 114, 116]) = false := by rw [h]; rfl
  have h10 : (s.toList == [114, 111, 111, 116, 115]) = false := by rw [h]; rfl
  have h11 : (s.toList == [100, 105, 115, 99]) = false := by rw [h]; rfl
  have h12 : (s.toList == [103, 97, 108, 111, 105, 115]) = true := by rw [h]; rfl
  have h13 : (s.toList == [99, 97, 115, 101, 115]) = false := by rw [h]; rfl
  clear h
  go_enter Tryd.func27, Tryd.ntmps27
  go_wp2_with (fail)
  go_ret2
  exact ⟨rfl, 0, rfl⟩
set_option maxRecDepth 20000 in
theorem i_kind13 (s : ByteArray) (w : World) (h : s.toList = [99, 97, 115, 101, 115]) : Calls Tryd.prog 27 #[.string s] w (Q (.tuple #[.string ⟨#[]⟩, .bool true]) w) := by
  have h0 : (s.toList == [114, 105, 110, 103]) = false := by rw [h]; rfl
  have h1 : (s.toList == [112, 111, 108, 121]) = false := by rw [h]; rfl
  have h2 : (s.toList == [112, 97, 100, 105, 99]) = false := by rw [h]; rfl
  have h3 : (s.toList == [114, 97, 116, 105, 111, 110, 97, 108]) = false := by rw [h]; rfl
  have h4 : (s.toList == [110, 111, 116, 101]) = false := by rw [h]; rfl
  have h5 : (s.toList == [108, 105, 102, 116]) = false := by rw [h]; rfl
  have h6 : (s.toList == [100, 101, 103, 114, 101, 101, 115]) = false := by rw [h]; rfl
  have h7 : (s.toList == [115, 108, 111, 112, 101, 115]) = false := by rw [h]; rfl
  have h8 : (s.toList == [115, 112, 108, 105, 116]) = false := by rw [h]; rfl
  have h9 : (s.toList == [104, 105, 108, 98, 101, 114, 116]) = false := by rw [h]; rfl
  have h10 : (s.toList == [114, 111, 111, 116, 115]) = false := by rw [h]; rfl
  have h11 : (s.toList == [100, 105, 115, 99]) = false := by rw [h]; rfl
  have h12 : (s.toList == [103, 97, 108, 111, 105, 115]) = false := by rw [h]; rfl
  have h13 : (s.toList == [99, 97, 115, 101, 115]) = true := by rw [h]; rfl
  clear h
  go_enter Tryd.func27, Tryd.ntmps27
  go_wp2_with (fail)
  go_ret2
  exact ⟨rfl, 0, rfl⟩
set_option maxRecDepth 20000 in
theorem i_kind14 (s : ByteArray) (w : World) (h0 : (s.toList == [114, 105, 110, 103]) = false) (h1 : (s.toList == [112, 111, 108, 121]) = false) (h2 : (s.toList == [112, 97, 100, 105, 99]) = false) (h3 : (s.toList == [114, 97, 116, 105, 111, 110, 97, 108]) = false) (h4 : (s.toList == [110, 111, 116, 101]) = false) (h5 : (s.toList == [108, 105, 102, 116]) = false) (h6 : (s.toList == [100, 101, 103, 114, 101, 101, 115]) = false) (h7 : (s.toList == [115, 108, 111, 112, 101, 115]) = false) (h8 : (s.toList == [115, 112, 108, 105, 116]) = false) (h9 : (s.toList == [104, 105, 108, 98, 101, 114, 116]) = false) (h10 : (s.toList == [114, 111, 111, 116, 115]) = false) (h11 : (s.toList == [100, 105, 115, 99]) = false) (h12 : (s.toList == [103, 97, 108, 111, 105, 115]) = false) (h13 : (s.toList == [99, 97, 115, 101, 115]) = false) : Calls Tryd.prog 27 #[.string s] w (Q (.tuple #[.string ⟨#[]⟩, .bool false]) w) := by
  go_enter Tryd.func27, Tryd.ntmps27
  go_wp2_with (fail)
  go_ret2
  exact ⟨rfl, 0, rfl⟩
set_option maxRecDepth 20000 in
theorem s_kind0 (s : ByteArray) (w : World) (h : s.toList = [114, 105, 110, 103]) : Calls Tryd.prog 44 #[.string s] w (Q (.string ⟨#[73, 73]⟩) w) := by
  have h0 : (s.toList == [114, 105, 110, 103]) = true := by rw [h]; rfl
  have h1 : (s.toList == [112, 111, 108, 121]) = false := by rw [h]; rfl
  have h2 : (s.toList == [112, 97, 100, 105, 99]) = false := by rw [h]; rfl
  have h3 : (s.toList == [114, 97, 116, 105, 111, 110, 97, 108]) = false := by rw [h]; rfl
  have h4 : (s.toList == [110, 111, 116, 101]) = false := by rw [h]; rfl
  have h5 : (s.toList == [108, 105, 102, 116]) = false := by rw [h]; rfl
  have h6 : (s.toList == [100, 101, 103, 114, 101, 101, 115]) = false := by rw [h]; rfl
  have h7 : (s.toList == [115, 108, 111, 112, 101, 115]) = false := by rw [h]; rfl
  have h8 : (s.toList == [115, 112, 108, 105, 116]) = false := by rw [h]; rfl
  have h9 : (s.toList == [104, 105, 108, 98, 101, 114, 116]) = false := by rw [h]; rfl
  have h10 : (s.toList == [114, 111, 111, 116, 115]) = false := by rw [h]; rfl
  have h11 : (s.toList == [100, 105, 115, 99]) = false := by rw [h]; rfl
  have h12 : (s.toList == [103, 97, 108, 111, 105, 115]) = false := by rw [h]; rfl
  have h13 : (s.toList == [99, 97, 115, 101, 115]) = false := by rw [h]; rfl
  clear h
  go_enter Tryd.func44, Tryd.ntmps44
  go_wp2_with (fail)
  go_ret
  exact ⟨rfl, 0, rfl⟩
set_option maxRecDepth 20000 in
theorem s_kind1 (s : ByteArray) (w : World) (h : s.toList = [112, 111, 108, 121]) : Calls Tryd.prog 44 #[.string s] w (Q (.string ⟨#[84]⟩) w) := by
  have h0 : (s.toList == [114, 105, 110, 103]) = false := by rw [h]; rfl
  have h1 : (s.toList == [112, 111, 108, 121]) = true := by rw [h]; rfl
  have h2 : (s.toList == [112, 97, 100, 105, 99]) = false := by rw [h]; rfl
  have h3 : (s.toList == [114, 97, 116, 105, 111, 110, 97, 108]) = false := by rw [h]; rfl
  have h4 : (s.toList == [110, 111, 116, 101]) = false := by rw [h]; rfl
  have h5 : (s.toList == [108, 105, 102, 116]) = false := by rw [h]; rfl
  have h6 : (s.toList == [100, 101, 103, 114, 101, 101, 115]) = false := by rw [h]; rfl
  have h7 : (s.toList == [115, 108, 111, 112, 101, 115]) = false := by rw [h]; rfl
  have h8 : (s.toList == [115, 112, 108, 105, 116]) = false := by rw [h]; rfl
  have h9 : (s.toList == [104, 105, 108, 98, 101, 114, 116]) = false := by rw [h]; rfl
  have h10 : (s.toList == [114, 111, 111, 116, 115]) = false := by rw [h]; rfl
  have h11 : (s.toList == [100, 105, 115, 99]) = false := by rw [h]; rfl
  have h12 : (s.toList == [103, 97, 108, 111, 105, 115]) = false := by rw [h]; rfl
  have h13 : (s.toList == [99, 97, 115, 101, 115]) = false := by rw [h]; rfl
  clear h
  go_enter Tryd.func44, Tryd.ntmps44
  go_wp2_with (fail)
  go_ret
  exact ⟨rfl, 0, rfl⟩
set_option maxRecDepth 20000 in
theorem s_kind2 (s : ByteArray) (w : World) (h : s.toList = [112, 97, 100, 105, 99]) : Calls Tryd.prog 44 #[.string s] w (Q (.string ⟨#[84]⟩) w) := by
  have h0 : (s.toList == [114, 105, 110, 103]) = false := by rw [h]; rfl
  have h1 : (s.toList == [112, 111, 108, 121]) = false := by rw [h]; rfl
  have h2 : (s.toList == [112, 97, 100, 105, 99]) = true := by rw [h]; rfl
  have h3 : (s.toList == [114, 97, 116, 105, 111, 110, 97, 108]) = false := by rw [h]; rfl
  have h4 : (s.toList == [110, 111, 116, 101]) = false := by rw [h]; rfl
  have h5 : (s.toList == [108, 105, 102, 116]) = false := by rw [h]; rfl
  have h6 : (s.toList == [100, 101, 103, 114, 101, 101, 115]) = false := by rw [h]; rfl
  have h7 : (s.toList == [115, 108, 111, 112, 101, 115]) = false := by rw [h]; rfl
  have h8 : (s.toList == [115, 112, 108, 105, 116]) = false := by rw [h]; rfl
  have h9 : (s.toList == [104, 105, 108, 98, 101, 114, 116]) = false := by rw [h]; rfl
  have h10 : (s.toList == [114, 111, 111, 116, 115]) = false := by rw [h]; rfl
  have h11 : (s.toList == [100, 105, 115, 99]) = false := by rw [h]; rfl
  have h12 : (s.toList == [103, 97, 108, 111, 105, 115]) = false := by rw [h]; rfl
  have h13 : (s.toList == [99, 97, 115, 101, 115]) = false := by rw [h]; rfl
  clear h
  go_enter Tryd.func44, Tryd.ntmps44
  go_wp2_with (fail)
  go_ret
  exact ⟨rfl, 0, rfl⟩
set_option maxRecDepth 20000 in
theorem s_kind3 (s : ByteArray) (w : World) (h : s.toList = [114, 97, 116, 105, 111, 110, 97, 108]) : Calls Tryd.prog 44 #[.string s] w (Q (.string ⟨#[84]⟩) w) := by
  have h0 : (s.toList == [114, 105, 110, 103]) = false := by rw [h]; rfl
  have h1 : (s.toList == [112, 111, 108, 121]) = false := by rw [h]; rfl
  have h2 : (s.toList == [112, 97, 100, 105, 99]) = false := by rw [h]; rfl
  have h3 : (s.toList == [114, 97, 116, 105, 111, 110, 97, 108]) = true := by rw [h]; rfl
  have h4 : (s.toList == [110, 111, 116, 101]) = false := by rw [h]; rfl
  have h5 : (s.toList == [108, 105, 102, 116]) = false := by rw [h]; rfl
  have h6 : (s.toList == [100, 101, 103, 114, 101, 101, 115]) = false := by rw [h]; rfl
  have h7 : (s.toList == [115, 108, 111, 112, 101, 115]) = false := by rw [h]; rfl
  have h8 : (s.toList == [115, 112, 108, 105, 116]) = false := by rw [h]; rfl
  have h9 : (s.toList == [104, 105, 108, 98, 101, 114, 116]) = false := by rw [h]; rfl
  have h10 : (s.toList == [114, 111, 111, 116, 115]) = false := by rw [h]; rfl
  have h11 : (s.toList == [100, 105, 115, 99]) = false := by rw [h]; rfl
  have h12 : (s.toList == [103, 97, 108, 111, 105, 115]) = false := by rw [h]; rfl
  have h13 : (s.toList == [99, 97, 115, 101, 115]) = false := by rw [h]; rfl
  clear h
  go_enter Tryd.func44, Tryd.ntmps44
  go_wp2_with (fail)
  go_ret
  exact ⟨rfl, 0, rfl⟩
set_option maxRecDepth 20000 in
theorem s_kind4 (s : ByteArray) (w : World) (h : s.toList = [110, 111, 116, 101]) : Calls Tryd.prog 44 #[.string s] w (Q (.string ⟨#[84]⟩) w) := by
  have h0 : (s.toList == [114, 105, 110, 103]) = false := by rw [h]; rfl
  have h1 : (s.toList == [112, 111, 108, 121]) = false := by rw [h]; rfl
  have h2 : (s.toList == [112, 97, 100, 105, 99]) = false := by rw [h]; rfl
  have h3 : (s.toList == [114, 97, 116, 105, 111, 110, 97, 108]) = false := by rw [h]; rfl
  have h4 : (s.toList == [110, 111, 116, 101]) = true := by rw [h]; rfl
  have h5 : (s.toList == [108, 105, 102, 116]) = false := by rw [h]; rfl
  have h6 : (s.toList == [100, 101, 103, 114, 101, 101, 115]) = false := by rw [h]; rfl
  have h7 : (s.toList == [115, 108, 111, 112, 101, 115]) = false := by rw [h]; rfl
  have h8 : (s.toList == [115, 112, 108, 105, 116]) = false := by rw [h]; rfl
  have h9 : (s.toList == [104, 105, 108, 98, 101, 114, 116]) = false := by rw [h]; rfl
  have h10 : (s.toList == [114, 111, 111, 116, 115]) = false := by rw [h]; rfl
  have h11 : (s.toList == [100, 105, 115, 99]) = false := by rw [h]; rfl
  have h12 : (s.toList == [103, 97, 108, 111, 105, 115]) = false := by rw [h]; rfl
  have h13 : (s.toList == [99, 97, 115, 101, 115]) = false := by rw [h]; rfl
  clear h
  go_enter Tryd.func44, Tryd.ntmps44
  go_wp2_with (fail)
  go_ret
  exact ⟨rfl, 0, rfl⟩
set_option maxRecDepth 20000 in
theorem s_kind5 (s : ByteArray) (w : World) (h : s.toList = [108, 105, 102, 116]) : Calls Tryd.prog 44 #[.string s] w (Q (.string ⟨#[73]⟩) w) := by
  have h0 : (s.toList == [114, 105, 110, 103]) = false := by rw [h]; rfl
  have h1 : (s.toList == [112, 111, 108, 121]) = false := by rw [h]; rfl
  have h2 : (s.toList == [112, 97, 100, 105, 99]) = false := by rw [h]; rfl
  have h3 : (s.toList == [114, 97, 116, 105, 111, 110, 97, 108]) = false := by rw [h]; rfl
  have h4 : (s.toList == [110, 111, 116, 101]) = false := by rw [h]; rfl
  have h5 : (s.toList == [108, 105, 102, 116]) = true := by rw [h]; rfl
  have h6 : (s.toList == [100, 101, 103, 114, 101, 101, 115]) = false := by rw [h]; rfl
  have h7 : (s.toList == [115, 108, 111, 112, 101, 115]) = false := by rw [h]; rfl
  have h8 : (s.toList == [115, 112, 108, 105, 116]) = false := by rw [h]; rfl
  have h9 : (s.toList == [104, 105, 108, 98, 101, 114, 116]) = false := by rw [h]; rfl
  have h10 : (s.toList == [114, 111, 111, 116, 115]) = false := by rw [h]; rfl
  have h11 : (s.toList == [100, 105, 115, 99]) = false := by rw [h]; rfl
  have h12 : (s.toList == [103, 97, 108, 111, 105, 115]) = false := by rw [h]; rfl
  have h13 : (s.toList == [99, 97, 115, 101, 115]) = false := by rw [h]; rfl
  clear h
  go_enter Tryd.func44, Tryd.ntmps44
  go_wp2_with (fail)
  go_ret
  exact ⟨rfl, 0, rfl⟩
set_option maxRecDepth 20000 in
theorem s_kind6 (s : ByteArray) (w : World) (h : s.toList = [100, 101, 103, 114, 101, 101, 115]) : Calls Tryd.prog 44 #[.string s] w (Q (.string ⟨#[73]⟩) w) := by
  have h0 : (s.toList == [114, 105, 110, 103]) = false := by rw [h]; rfl
  have h1 : (s.toList == [112, 111, 108, 121]) = false := by rw [h]; rfl
  have h2 : (s.toList == [112, 97, 100, 105, 99]) = false := by rw [h]; rfl
  have h3 : (s.toList == [114, 97, 116, 105, 111, 110, 97, 108]) = false := by rw [h]; rfl
  have h4 : (s.toList == [110, 111, 116, 101]) = false := by rw [h]; rfl
  have h5 : (s.toList == [108, 105, 102, 116]) = false := by rw [h]; rfl
  have h6 : (s.toList == [100, 101, 103, 114, 101, 101, 115]) = true := by rw [h]; rfl
  have h7 : (s.toList == [115, 108, 111, 112, 101, 115]) = false := by rw [h]; rfl
  have h8 : (s.toList == [115, 112, 108, 105, 116]) = false := by rw [h]; rfl
  have h9 : (s.toList == [104, 105, 108, 98, 101, 114, 116]) = false := by rw [h]; rfl
  have h10 : (s.toList == [114, 111, 111, 116, 115]) = false := by rw [h]; rfl
  have h11 : (s.toList == [100, 105, 115, 99]) = false := by rw [h]; rfl
  have h12 : (s.toList == [103, 97, 108, 111, 105, 115]) = false := by rw [h]; rfl
  have h13 : (s.toList == [99, 97, 115, 101, 115]) = false := by rw [h]; rfl
  clear h
  go_enter Tryd.func44, Tryd.ntmps44
  go_wp2_with (fail)
  go_ret
  exact ⟨rfl, 0, rfl⟩
set_option maxRecDepth 20000 in
theorem s_kind7 (s : ByteArray) (w : World) (h : s.toList = [115, 108, 111, 112, 101, 115]) : Calls Tryd.prog 44 #[.string s] w (Q (.string ⟨#[73]⟩) w) := by
  have h0 : (s.toList == [114, 105, 110, 103]) = false := by rw [h]; rfl
  have h1 : (s.toList == [112, 111, 108, 121]) = false := by rw [h]; rfl
  have h2 : (s.toList == [112, 97, 100, 105, 99]) = false := by rw [h]; rfl
  have h3 : (s.toList == [114, 97, 116, 105, 111, 110, 97, 108]) = false := by rw [h]; rfl
  have h4 : (s.toList == [110, 111, 116, 101]) = false := by rw [h]; rfl
  have h5 : (s.toList == [108, 105, 102, 116]) = false := by rw [h]; rfl
  have h6 : (s.toList == [100, 101, 103, 114, 101, 101, 115]) = false := by rw [h]; rfl
  have h7 : (s.toList == [115, 108, 111, 112, 101, 115]) = true := by rw [h]; rfl
  have h8 : (s.toList == [115, 112, 108, 105, 116]) = false := by rw [h]; rfl
  have h9 : (s.toList == [104, 105, 108, 98, 101, 114, 116]) = false := by rw [h]; rfl
  have h10 : (s.toList == [114, 111, 111, 116, 115]) = false := by rw [h]; rfl
  have h11 : (s.toList == [100, 105, 115, 99]) = false := by rw [h]; rfl
  have h12 : (s.toList == [103, 97, 108, 111, 105, 115]) = false := by rw [h]; rfl
  have h13 : (s.toList == [99, 97, 115, 101, 115]) = false := by rw [h]; rfl
  clear h
  go_enter Tryd.func44, Tryd.ntmps44
  go_wp2_with (fail)
  go_ret
  exact ⟨rfl, 0, rfl⟩
set_option maxRecDepth 20000 in
theorem s_kind8 (s : ByteArray) (w : World) (h : s.toList = [115, 112, 108, 105, 116]) : Calls Tryd.prog 44 #[.string s] w (Q (.string ⟨#[73]⟩) w) := by
  have h0 : (s.toList == [114, 105, 110, 103]) = false := by rw [h]; rfl
  have h1 : (s.toList == [112, 111, 108, 121]) = false := by rw [h]; rfl
  have h2 : (s.toList == [112, 97, 100, 105, 99]) = false := by rw [h]; rfl
  have h3 : (s.toList == [114, 97, 116, 105, 111, 110, 97, 108]) = false := by rw [h]; rfl
  have h4 : (s.toList == [110, 111, 116, 101]) = false := by rw [h]; rfl
  have h5 : (s.toList == [108, 105, 102, 116]) = false := by rw [h]; rfl
  have h6 : (s.toList == [100, 101, 103, 114, 101, 101, 115]) = false := by rw [h]; rfl
  have h7 : (s.toList == [115, 108, 111, 112, 101, 115]) = false := by rw [h]; rfl
  have h8 : (s.toList == [115, 112, 108, 105, 116]) = true := by rw [h]; rfl
  have h9 : (s.toList == [104, 105, 108, 98, 101, 114, 116]) = false := by rw [h]; rfl
  have h10 : (s.toList == [114, 111, 111, 116, 115]) = false := by rw [h]; rfl
  have h11 : (s.toList == [100, 105, 115, 99]) = false := by rw [h]; rfl
  have h12 : (s.toList == [103, 97, 108, 111, 105, 115]) = false := by rw [h]; rfl
  have h13 : (s.toList == [99, 97, 115, 101, 115]) = false := by rw [h]; rfl
  clear h
  go_enter Tryd.func44, Tryd.ntmps44
  go_wp2_with (fail)
  go_ret
  exact ⟨rfl, 0, rfl⟩
set_option maxRecDepth 20000 in
theorem s_kind9 (s : ByteArray) (w : World) (h : s.toList = [104, 105, 108, 98, 101, 114, 116]) : Calls Tryd.prog 44 #[.string s] w (Q (.string ⟨#[73, 74, 74]⟩) w) := by
  have h0 : (s.toList == [114, 105, 110, 103]) = false := by rw [h]; rfl
  have h1 : (s.toList == [112, 111, 108, 121]) = false := by rw [h]; rfl
  have h2 : (s.toList == [112, 97, 100, 105, 99]) = false := by rw [h]; rfl
  have h3 : (s.toList == [114, 97, 116, 105, 111, 110, 97, 108]) = false := by rw [h]; rfl
  have h4 : (s.toList == [110, 111, 116, 101]) = false := by rw [h]; rfl
  have h5 : (s.toList == [108, 105, 102, 116]) = false := by rw [h]; rfl
  have h6 : (s.toList == [100, 101, 103, 114, 101, 101, 115]) = false := by rw [h]; rfl
  have h7 : (s.toList == [115, 108, 111, 112, 101, 115]) = false := by rw [h]; rfl
  have h8 : (s.toList == [115, 112, 108, 105, 116]) = false := by rw [h]; rfl
  have h9 : (s.toList == [104, 105, 108, 98, 101, 114, 116]) = true := by rw [h]; rfl
  have h10 : (s.toList == [114, 111, 111, 116, 115]) = false := by rw [h]; rfl
  have h11 : (s.toList == [100, 105, 115, 99]) = false := by rw [h]; rfl
  have h12 : (s.toList == [103, 97, 108, 111, 105, 115]) = false := by rw [h]; rfl
  have h13 : (s.toList == [99, 97, 115, 101, 115]) = false := by rw [h]; rfl
  clear h
  go_enter Tryd.func44, Tryd.ntmps44
  go_wp2_with (fail)
  go_ret
  exact ⟨rfl, 0, rfl⟩
set_option maxRecDepth 20000 in
theorem s_kind10 (s : ByteArray) (w : World) (h : s.toList = [114, 111, 111, 116, 115]) : Calls Tryd.prog 44 #[.string s] w (Q (.string ⟨#[]⟩) w) := by
  have h0 : (s.toList == [114, 105, 110, 103]) = false := by rw [h]; rfl
  have h1 : (s.toList == [112, 111, 108, 121]) = false := by rw [h]; rfl
  have h2 : (s.toList == [112, 97, 100, 105, 99]) = false := by rw [h]; rfl
  have h3 : (s.toList == [114, 97, 116, 105, 111, 110, 97, 108]) = false := by rw [h]; rfl
  have h4 : (s.toList == [110, 111, 116, 101]) = false := by rw [h]; rfl
  have h5 : (s.toList == [108, 105, 102, 116]) = false := by rw [h]; rfl
  have h6 : (s.toList == [100, 101, 103, 114, 101, 101, 115]) = false := by rw [h]; rfl
  have h7 : (s.toList == [115, 108, 111, 112, 101, 115]) = false := by rw [h]; rfl
  have h8 : (s.toList == [115, 112, 108, 105, 116]) = false := by rw [h]; rfl
  have h9 : (s.toList == [104, 105, 108, 98, 101, 114, 116]) = false := by rw [h]; rfl
  have h10 : (s.toList == [114, 111, 111, 116, 115]) = true := by rw [h]; rfl
  have h11 : (s.toList == [100, 105, 115, 99]) = false := by rw [h]; rfl
  have h12 : (s.toList == [103, 97, 108, 111, 105, 115]) = false := by rw [h]; rfl
  have h13 : (s.toList == [99, 97, 115, 101, 115]) = false := by rw [h]; rfl
  clear h
  go_enter Tryd.func44, Tryd.ntmps44
  go_wp2_with (fail)
  go_ret
  exact ⟨rfl, 0, rfl⟩
set_option maxRecDepth 20000 in
theorem s_kind11 (s : ByteArray) (w : World) (h : s.toList = [100, 105, 115, 99]) : Calls Tryd.prog 44 #[.string s] w (Q (.string ⟨#[]⟩) w) := by
  have h0 : (s.toList == [114, 105, 110, 103]) = false := by rw [h]; rfl
  have h1 : (s.toList == [112, 111, 108, 121]) = false := by rw [h]; rfl
  have h2 : (s.toList == [112, 97, 100, 105, 99]) = false := by rw [h]; rfl
  have h3 : (s.toList == [114, 97, 116, 105, 111, 110, 97, 108]) = false := by rw [h]; rfl
  have h4 : (s.toList == [110, 111, 116, 101]) = false := by rw [h]; rfl
  have h5 : (s.toList == [108, 105, 102, 116]) = false := by rw [h]; rfl
  have h6 : (s.toList == [100, 101, 103, 114, 101, 101, 115]) = false := by rw [h]; rfl
  have h7 : (s.toList == [115, 108, 111, 112, 101, 115]) = false := by rw [h]; rfl
  have h8 : (s.toList == [115, 112, 108, 105, 116]) = false := by rw [h]; rfl
  have h9 : (s.toList == [104, 105, 108, 98, 101, 114, 116]) = false := by rw [h]; rfl
  have h10 : (s.toList == [114, 111, 111, 116, 115]) = false := by rw [h]; rfl
  have h11 : (s.toList == [100, 105, 115, 99]) = true := by rw [h]; rfl
  have h12 : (s.toList == [103, 97, 108, 111, 105, 115]) = false := by rw [h]; rfl
  have h13 : (s.toList == [99, 97, 115, 101, 115]) = false := by rw [h]; rfl
  clear h
  go_enter Tryd.func44, Tryd.ntmps44
  go_wp2_with (fail)
  go_ret
  exact ⟨rfl, 0, rfl⟩
set_option maxRecDepth 20000 in
theorem s_kind12 (s : ByteArray) (w : World) (h : s.toList = [103, 97, 108, 111, 105, 115]) : Calls Tryd.prog 44 #[.string s] w (Q (.string ⟨#[]⟩) w) := by
  have h0 : (s.toList == [114, 105, 110, 103]) = false := by rw [h]; rfl
  have h1 : (s.toList == [112, 111, 108, 121]) = false := by rw [h]; rfl
  have h2 : (s.toList == [112, 97, 100, 105, 99]) = false := by rw [h]; rfl
  have h3 : (s.toList == [114, 97, 116, 105, 111, 110, 97, 108]) = false := by rw [h]; rfl
  have h4 : (s.toList == [110, 111, 116, 101]) = false := by rw [h]; rfl
  have h5 : (s.toList == [108, 105, 102, 116]) = false := by rw [h]; rfl
  have h6 : (s.toList == [100, 101, 103, 114, 101, 101, 115]) = false := by rw [h]; rfl
  have h7 : (s.toList == [115, 108, 111, 112, 101, 115]) = false := by rw [h]; rfl
  have h8 : (s.toList == [115, 112, 108, 105, 116]) = false := by rw [h]; rfl
  have h9 : (s.toList == [104, 105, 108, 98, 101, 114, 116]) = false := by rw [h]; rfl
  have h10 : (s.toList == [114, 111, 111, 116, 115]) = false := by rw [h]; rfl
  have h11 : (s.toList == [100, 105, 115, 99]) = false := by rw [h]; rfl
  have h12 : (s.toList == [103, 97, 108, 111, 105, 115]) = true := by rw [h]; rfl
  have h13 : (s.toList == [99, 97, 115, 101, 115]) = false := by rw [h]; rfl
  clear h
  go_enter Tryd.func44, Tryd.ntmps44
  go_wp2_with (fail)
  go_ret
  exact ⟨rfl, 0, rfl⟩
set_option maxRecDepth 20000 in
theorem s_kind13 (s : ByteArray) (w : World) (h : s.toList = [99, 97, 115, 101, 115]) : Calls Tryd.prog 44 #[.string s] w (Q (.string ⟨#[]⟩) w) := by
  have h0 : (s.toList == [114, 105, 110, 103]) = false := by rw [h]; rfl
  have h1 : (s.toList == [112, 111, 108, 121]) = false := by rw [h]; rfl
  have h2 : (s.toList == [112, 97, 100, 105, 99]) = false := by rw [h]; rfl
  have h3 : (s.toList == [114, 97, 116, 105, 111, 110, 97, 108]) = false := by rw [h]; rfl
  have h4 : (s.toList == [110, 111, 116, 101]) = false := by rw [h]; rfl
  have h5 : (s.toList == [108, 105, 102, 116]) = false := by rw [h]; rfl
  have h6 : (s.toList == [100, 101, 103, 114, 101, 101, 115]) = false := by rw [h]; rfl
  have h7 : (s.toList == [115, 108, 111, 112, 101, 115]) = false := by rw [h]; rfl
  have h8 : (s.toList == [115, 112, 108, 105, 116]) = false := by rw [h]; rfl
  have h9 : (s.toList == [104, 105, 108, 98, 101, 114, 116]) = false := by rw [h]; rfl
  have h10 : (s.toList == [114, 111, 111, 116, 115]) = false := by rw [h]; rfl
  have h11 : (s.toList == [100, 105, 115, 99]) = false := by rw [h]; rfl
  have h12 : (s.toList == [103, 97, 108, 111, 105, 115]) = false := by rw [h]; rfl
  have h13 : (s.toList == [99, 97, 115, 101, 115]) = true := by rw [h]; rfl
  clear h
  go_enter Tryd.func44, Tryd.ntmps44
  go_wp2_with (fail)
  go_ret
  exact ⟨rfl, 0, rfl⟩
set_option maxRecDepth 20000 in
theorem s_kind14 (s : ByteArray) (w : World) (h0 : (s.toList == [114, 105, 110, 103]) = false) (h1 : (s.toList == [112, 111, 108, 121]) = false) (h2 : (s.toList == [112, 97, 100, 105, 99]) = false) (h3 : (s.toList == [114, 97, 116, 105, 111, 110, 97, 108]) = false) (h4 : (s.toList == [110, 111, 116, 101]) = false) (h5 : (s.toList == [108, 105, 102, 116]) = false) (h6 : (s.toList == [100, 101, 103, 114, 101, 101, 115]) = false) (h7 : (s.toList == [115, 108, 111, 112, 101, 115]) = false) (h8 : (s.toList == [115, 112, 108, 105, 116]) = false) (h9 : (s.toList == [104, 105, 108, 98, 101, 114, 116]) = false) (h10 : (s.toList == [114, 111, 111, 116, 115]) = false) (h11 : (s.toList == [100, 105, 115, 99]) = false) (h12 : (s.toList == [103, 97, 108, 111, 105, 115]) = false) (h13 : (s.toList == [99, 97, 115, 101, 115]) = false) : Calls Tryd.prog 44 #[.string s] w (Q (.string ⟨#[45]⟩) w) := by
  go_enter Tryd.func44, Tryd.ntmps44
  go_wp2_with (fail)
  go_ret
  exact ⟨rfl, 0, rfl⟩
theorem i_kinds (s : ByteArray) (w : World) : Calls Tryd.prog 27 #[.string s] w (Q (.tuple #[.string (bl ((kd s.data.toList).getD [])), .bool (kd s.data.toList).isSome]) w) := by
  rw [← ByteArray.toList_eq]
  by_cases h0 : s.toList = [114, 105, 110, 103]
  · have e : kd s.toList = some [73, 73] := by rw [h0]; rfl
    rw [e]
    exact i_kind0 s w h0
  by_cases h1 : s.toList = [112, 111, 108, 121]
  · have e : kd s.toList = some [84] := by rw [h1]; rfl
    rw [e]
    exact i_kind1 s w h1
  by_cases h2 : s.toList = [112, 97, 100, 105, 99]
  · have e : kd s.toList = some [84] := by rw [h2]; rfl
    rw [e]
    exact i_kind2 s w h2
  by_cases h3 : s.toList = [114, 97, 116, 105, 111, 110, 97, 108]
  · have e : kd s.toList = some [84] := by rw [h3]; rfl
    rw [e]
    exact i_kind3 s w h3
  by_cases h4 : s.toList = [110, 111, 116, 101]
  · have e : kd s.toList = some [84] := by rw [h4]; rfl
    rw [e]
    exact i_kind4 s w h4
  by_cases h5 : s.toList = [108, 105, 102, 116]
  · have e : kd s.toList = some [73] := by rw [h5]; rfl
    rw [e]
    exact i_kind5 s w h5
  by_cases h6 : s.toList = [100, 101, 103, 114, 101, 101, 115]
  · have e : kd s.toList = some [73] := by rw [h6]; rfl
    rw [e]
    exact i_kind6 s w h6
  by_cases h7 : s.toList = [115, 108, 111, 112, 101, 115]
  · have e : kd s.toList = some [73] := by rw [h7]; rfl
    rw [e]
    exact i_kind7 s w h7
  by_cases h8 : s.toList = [115, 112, 108, 105, 116]
  · have e : kd s.toList = some [73] := by rw [h8]; rfl
    rw [e]
    exact i_kind8 s w h8
  by_cases h9 : s.toList = [104, 105, 108, 98, 101, 114, 116]
  · have e : kd s.toList = some [73, 74, 74] := by rw [h9]; rfl
    rw [e]
    exact i_kind9 s w h9
  by_cases h10 : s.toList = [114, 111, 111, 116, 115]
  · have e : kd s.toList = some [] := by rw [h10]; rfl
    rw [e]
    exact i_kind10 s w h10
  by_cases h11 : s.toList = [100, 105, 115, 99]
  · have e : kd s.toList = some [] := by rw [h11]; rfl
    rw [e]
    exact i_kind11 s w h11
  by_cases h12 : s.toList = [103, 97, 108, 111, 105, 115]
  · have e : kd s.toList = some [] := by rw [h12]; rfl
    rw [e]
    exact i_kind12 s w h12
  by_cases h13 : s.toList = [99, 97, 115, 101, 115]
  · have e : kd s.toList = some [] := by rw [h13]; rfl
    rw [e]
    exact i_kind13 s w h13
  have t0 : (s.toList == [114, 105, 110, 103]) = false := by rw [beq_eq_false_iff_ne]; exact h0
  have t1 : (s.toList == [112, 111, 108, 121]) = false := by rw [beq_eq_false_iff_ne]; exact h1
  have t2 : (s.toList == [112, 97, 100, 105, 99]) = false := by rw [beq_eq_false_iff_ne]; exact h2
  have t3 : (s.toList == [114, 97, 116, 105, 111, 110, 97, 108]) = false := by rw [beq_eq_false_iff_ne]; exact h3
  have t4 : (s.toList == [110, 111, 116, 101]) = false := by rw [beq_eq_false_iff_ne]; exact h4
  have t5 : (s.toList == [108, 105, 102, 116]) = false := by rw [beq_eq_false_iff_ne]; exact h5
  have t6 : (s.toList == [100, 101, 103, 114, 101, 101, 115]) = false := by rw [beq_eq_false_iff_ne]; exact h6
  have t7 : (s.toList == [115, 108, 111, 112, 101, 115]) = false := by rw [beq_eq_false_iff_ne]; exact h7
  have t8 : (s.toList == [115, 112, 108, 105, 116]) = false := by rw [beq_eq_false_iff_ne]; exact h8
  have t9 : (s.toList == [104, 105, 108, 98, 101, 114, 116]) = false := by rw [beq_eq_false_iff_ne]; exact h9
  have t10 : (s.toList == [114, 111, 111, 116, 115]) = false := by rw [beq_eq_false_iff_ne]; exact h10
  have t11 : (s.toList == [100, 105, 115, 99]) = false := by rw [beq_eq_false_iff_ne]; exact h11
  have t12 : (s.toList == [103, 97, 108, 111, 105, 115]) = false := by rw [beq_eq_false_iff_ne]; exact h12
  have t13 : (s.toList == [99, 97, 115, 101, 115]) = false := by rw [beq_eq_false_iff_ne]; exact h13
  have e : kd s.toList = none := by
    unfold kd kdT
    simp only [List.find?, t0, t1, t2, t3, t4, t5, t6, t7, t8, t9, t10, t11, t12, t13, Option.map_none]
  rw [e]
  exact i_kind14 s w t0 t1 t2 t3 t4 t5 t6 t7 t8 t9 t10 t11 t12 t13
theorem s_kinds (s : ByteArray) (w : World) : Calls Tryd.prog 44 #[.string s] w (Q (.string (bl ((kd s.data.toList).getD [45]))) w) := by
  rw [← ByteArray.toList_eq]
  by_cases h0 : s.toList = [114, 105, 110, 103]
  · have e : kd s.toList = some [73, 73] := by rw [h0]; rfl
    rw [e]
    exact s_kind0 s w h0
  by_cases h1 : s.toList = [112, 111, 108, 121]
  · have e : kd s.toList = some [84] := by rw [h1]; rfl
    rw [e]
    exact s_kind1 s w h1
  by_cases h2 : s.toList = [112, 97, 100, 105, 99]
  · have e : kd s.toList = some [84] := by rw [h2]; rfl
    rw [e]
    exact s_kind2 s w h2
  by_cases h3 : s.toList = [114, 97, 116, 105, 111, 110, 97, 108]
  · have e : kd s.toList = some [84] := by rw [h3]; rfl
    rw [e]
    exact s_kind3 s w h3
  by_cases h4 : s.toList = [110, 111, 116, 101]
  · have e : kd s.toList = some [84] := by rw [h4]; rfl
    rw [e]
    exact s_kind4 s w h4
  by_cases h5 : s.toList = [108, 105, 102, 116]
  · have e : kd s.toList = some [73] := by rw [h5]; rfl
    rw [e]
    exact s_kind5 s w h5
  by_cases h6 : s.toList = [100, 101, 103, 114, 101, 101, 115]
  · have e : kd s.toList = some [73] := by rw [h6]; rfl
    rw [e]
    exact s_kind6 s w h6
  by_cases h7 : s.toList = [115, 108, 111, 112, 101, 115]
  · have e : kd s.toList = some [73] := by rw [h7]; rfl
    rw [e]
    exact s_kind7 s w h7
  by_cases h8 : s.toList = [115, 112, 108, 105, 116]
  · have e : kd s.toList = some [73] := by rw [h8]; rfl
    rw [e]
    exact s_kind8 s w h8
  by_cases h9 : s.toList = [104, 105, 108, 98, 101, 114, 116]
  · have e : kd s.toList = some [73, 74, 74] := by rw [h9]; rfl
    rw [e]
    exact s_kind9 s w h9
  by_cases h10 : s.toList = [114, 111, 111, 116, 115]
  · have e : kd s.toList = some [] := by rw [h10]; rfl
    rw [e]
    exact s_kind10 s w h10
  by_cases h11 : s.toList = [100, 105, 115, 99]
  · have e : kd s.toList = some [] := by rw [h11]; rfl
    rw [e]
    exact s_kind11 s w h11
  by_cases h12 : s.toList = [103, 97, 108, 111, 105, 115]
  · have e : kd s.toList = some [] := by rw [h12]; rfl
    rw [e]
    exact s_kind12 s w h12
  by_cases h13 : s.toList = [99, 97, 115, 101, 115]
  · have e : kd s.toList = some [] := by rw [h13]; rfl
    rw [e]
    exact s_kind13 s w h13
  have t0 : (s.toList == [114, 105, 110, 103]) = false := by rw [beq_eq_false_iff_ne]; exact h0
  have t1 : (s.toList == [112, 111, 108, 121]) = false := by rw [beq_eq_false_iff_ne]; exact h1
  have t2 : (s.toList == [112, 97, 100, 105, 99]) = false := by rw [beq_eq_false_iff_ne]; exact h2
  have t3 : (s.toList == [114, 97, 116, 105, 111, 110, 97, 108]) = false := by rw [beq_eq_false_iff_ne]; exact h3
  have t4 : (s.toList == [110, 111, 116, 101]) = false := by rw [beq_eq_false_iff_ne]; exact h4
  have t5 : (s.toList == [108, 105, 102, 116]) = false := by rw [beq_eq_false_iff_ne]; exact h5
  have t6 : (s.toList == [100, 101, 103, 114, 101, 101, 115]) = false := by rw [beq_eq_false_iff_ne]; exact h6
  have t7 : (s.toList == [115, 108, 111, 112, 101, 115]) = false := by rw [beq_eq_false_iff_ne]; exact h7
  have t8 : (s.toList == [115, 112, 108, 105, 116]) = false := by rw [beq_eq_false_iff_ne]; exact h8
  have t9 : (s.toList == [104, 105, 108, 98, 101, 114, 116]) = false := by rw [beq_eq_false_iff_ne]; exact h9
  have t10 : (s.toList == [114, 111, 111, 116, 115]) = false := by rw [beq_eq_false_iff_ne]; exact h10
  have t11 : (s.toList == [100, 105, 115, 99]) = false := by rw [beq_eq_false_iff_ne]; exact h11
  have t12 : (s.toList == [103, 97, 108, 111, 105, 115]) = false := by rw [beq_eq_false_iff_ne]; exact h12
  have t13 : (s.toList == [99, 97, 115, 101, 115]) = false := by rw [beq_eq_false_iff_ne]; exact h13
  have e : kd s.toList = none := by
    unfold kd kdT
    simp only [List.find?, t0, t1, t2, t3, t4, t5, t6, t7, t8, t9, t10, t11, t12, t13, Option.map_none]
  rw [e]
  exact s_kind14 s w t0 t1 t2 t3 t4 t5 t6 t7 t8 t9 t10 t11 t12 t13
end Go.Proofs.YtjfinniebijgbaaDoor
