/- Texts in plain terms: pieces, replacements, numerals. -/
import Derived.Lib.SplitLaws
import Derived.Lib.Replace
import Derived.Lib.ItoaNum
import Derived.Lib.ItoaMem
import Derived.Lib.ParseIntB
import Derived.Lib.Join
namespace Go.Proofs.YtjfinniebijgbaaDoor
set_option linter.unusedVariables false
set_option linter.unusedSimpArgs false
open Go.Lib

def bl (l : List UInt8) : ByteArray := ⟨l.toArray⟩
theorem bl_toList (l : List UInt8) : (bl l).data.toList = l := by simp [bl]
theorem bl_of (s : ByteArray) : bl s.data.toList = s := by simp [bl]
/-- The pieces of a text between the bytes c. -/
def spl (c : UInt8) : List UInt8 → List (List UInt8)
  | [] => [[]]
  | b :: l => if b = c then [] :: spl c l else (b :: (spl c l).headD []) :: (spl c l).tail
theorem spl_ne (c : UInt8) : ∀ l, spl c l ≠ []
  | [] => by simp [spl]
  | b :: l => by
    unfold spl
    split <;> simp
theorem index_cons_eq (c : UInt8) (l : List UInt8) : index (c :: l) [c] = ((0 : Nat) : Int) := by
  rw [index]; simp [List.isPrefixOf]
theorem index_cons_ne {b c : UInt8} (l : List UInt8) (h : b ≠ c) : index (b :: l) [c] = if index l [c] == -1 then -1 else index l [c] + 1 := by
  have hp : ([c] : List UInt8).isPrefixOf (b :: l) = false := by simp [List.isPrefixOf, Ne.symm h]
  rw [index, hp]; simp
theorem splitK_miss {sep s : List UInt8} {save : Nat} (h : index s sep = -1) : ∀ k, splitK sep save k s = [s]
  | 0 => rfl
  | k + 1 => by unfold splitK; rw [if_pos (beq_iff_eq.2 h)]
theorem split_spl (c : UInt8) : ∀ s, splitK [c] 0 (count s [c]) s = spl c s
  | [] => by rw [splitK_miss (by simp [index])]; rfl
  | b :: l => by
    have ih := split_spl c l
    by_cases h : b = c
    · subst h
      rw [count_cons_eq, Nat.add_comm 1, splitK, index_cons_eq, if_neg (by decide), spl, if_pos rfl]
      simp only [Int.toNat_natCast, List.take_zero, Nat.zero_add, Nat.add_zero, List.length_singleton, List.drop_succ_cons, List.drop_zero]
      rw [ih]
    · rw [count_cons_ne b c l h, spl, if_neg h, ← ih]
      by_cases hm : index l [c] = -1
      · have hix : index (b :: l) [c] = -1 := by rw [index_cons_ne l h, if_pos (beq_iff_eq.2 hm)]
        rw [splitK_miss hix, splitK_miss hm]
        rfl
      · have hge := index_ge l [c]
        obtain ⟨j, hj⟩ : ∃ j : Nat, index l [c] = j := ⟨(index l [c]).toNat, by omega⟩
        have hix : index (b :: l) [c] = ((j + 1 : Nat) : Int) := by rw [index_cons_ne l h, if_neg (fun e => hm (beq_iff_eq.1 e)), hj]; omega
        obtain ⟨k, hk⟩ : ∃ k, count l [c] = k + 1 := ⟨count (l.drop (j + 1)) [c], by rw [count_hit (by simp) hj]; simp; omega⟩
        have e1 : (index (b :: l) [c]).toNat = j + 1 := by omega
        have e2 : (index l [c]).toNat = j := by omega
        rw [hk, splitK, splitK, if_neg (fun e => by have := beq_iff_eq.1 e; omega), if_neg (fun e => by have := beq_iff_eq.1 e; omega), e1, e2]
        rfl
theorem repl_map (a b : UInt8) : ∀ s, replaceK [a] [b] (count s [a]) s = s.map fun x => if x = a then b else x
  | [] => by
    rw [count_miss (by simp [index])]; rfl
  | x :: l => by
    have ih := repl_map a b l
    by_cases h : x = a
    · subst h
      rw [count_cons_eq, Nat.add_comm 1, replaceK, index_cons_eq, if_neg (by decide)]
      simp only [Int.toNat_natCast, List.take_zero, Nat.zero_add, List.length_singleton, List.drop_succ_cons, List.drop_zero, List.map_cons, if_true, List.nil_append]
      rw [ih]
      rfl
    · rw [count_cons_ne x a l h, List.map_cons, if_neg h, ← ih]
      by_cases hm : index l [a] = -1
      · rw [count_miss hm]; rfl
      · have hge := index_ge l [a]
        obtain ⟨j, hj⟩ : ∃ j : Nat, index l [a] = j := ⟨(index l [a]).toNat, by omega⟩
        have hix : index (x :: l) [a] = ((j + 1 : Nat) : Int) := by rw [index_cons_ne l h, if_neg (fun e => hm (beq_iff_eq.1 e)), hj]; omega
        obtain ⟨k, hk⟩ : ∃ k, count l [a] = k + 1 := ⟨count (l.drop (j + 1)) [a], by rw [count_hit (by simp) hj]; simp; omega⟩
        rw [hk, replaceK_hit _ _ _ _ _ hix, replaceK_hit _ _ _ _ _ hj]
        rfl
theorem replAll_map {a b : UInt8} (h : a ≠ b) (s : List UInt8) : replaceAll s [a] [b] = s.map fun x => if x = a then b else x := by
  unfold replaceAll replace
  have e : replaceNum s [a] (-1) = count s [a] := by unfold replaceNum; rw [if_pos (.inl (by decide))]
  rw [if_neg (by simp [h]), e, repl_map a b s]
def digB (c : UInt8) : Bool := decide (48 ≤ c.toNat) && decide (c.toNat ≤ 57)
theorem digB_t {c : UInt8} (h : digB c = true) : 48 ≤ c.toNat ∧ c.toNat ≤ 57 := by
  unfold digB at h
  rw [Bool.and_eq_true, decide_eq_true_iff, decide_eq_true_iff] at h
  exact h
/-- What digits spell, behind a number. -/
def valF (a : Nat) (l : List UInt8) : Nat := l.foldl (fun b c => 10 * b + (c.toNat - 48)) a
theorem valF_nil (a : Nat) : valF a [] = a := rfl
theorem valF_cons (a : Nat) (c : UInt8) (r : List UInt8) : valF a (c :: r) = valF (10 * a + (c.toNat - 48)) r := by unfold valF; rw [List.foldl_cons]
theorem valF_snoc (c : UInt8) : ∀ (l : List UInt8) (a : Nat), valF a (l ++ [c]) = 10 * valF a l + (c.toNat - 48)
  | [], a => rfl
  | d :: l, a => by rw [List.cons_append, valF_cons, valF_snoc c l, valF_cons]
theorem valF_ge : ∀ (l : List UInt8) (a : Nat), a ≤ valF a l
  | [], a => Nat.le_refl _
  | c :: r, a => by
    have := valF_ge r (10 * a + (c.toNat - 48))
    rw [valF_cons]
    omega
theorem valF_lt : ∀ (l : List UInt8) (a : Nat), (l.all digB) = true → valF a l < (a + 1) * 10 ^ l.length
  | [], a, _ => by simp [valF_nil]
  | c :: r, a, h => by
    rw [List.all_cons, Bool.and_eq_true] at h
    have h1 := digB_t h.1
    have h2 := valF_lt r (10 * a + (c.toNat - 48)) h.2
    have h3 : (10 * a + (c.toNat - 48) + 1) * 10 ^ r.length ≤ (10 * (a + 1)) * 10 ^ r.length := Nat.mul_le_mul_right _ (by omega)
    rw [valF_cons, List.length_cons, Nat.pow_succ, show (a + 1) * (10 ^ r.length * 10) = (10 * (a + 1)) * 10 ^ r.length by rw [Nat.mul_comm (10 ^ r.length) 10, ← Nat.mul_assoc, Nat.mul_comm 10 (a + 1)]]
    omega
theorem dg_toNat (k : Nat) (h : k < 10) : (UInt8.ofNat (48 + k)).toNat = 48 + k := by
  simp [UInt8.toNat_ofNat']
  omega
theorem dec_digits : ∀ k n, n < k → ((decDigits n).all digB) = true ∧ valF 0 (decDigits n) = n ∧ decDigits n ≠ []
  | 0, n, h => by omega
  | k + 1, n, h => by
    by_cases h10 : n < 10
    · rw [decDigits, dif_pos h10]
      refine ⟨?_, ?_, by simp⟩
      · simp only [List.all_cons, List.all_nil, Bool.and_true, digB, dg_toNat n h10]
        simp
        omega
      · rw [valF_cons, valF_nil, dg_toNat n h10]
        omega
    · rw [decDigits, dif_neg h10]
      obtain ⟨h1, h2, h3⟩ := dec_digits k (n / 10) (by omega)
      have hd := dg_toNat (n % 10) (by omega)
      refine ⟨?_, ?_, by simp⟩
      · rw [List.all_append, h1, Bool.true_and]
        simp only [List.all_cons, List.all_nil, Bool.and_true, digB, hd]
        simp
        omega
      · rw [valF_snoc, h2, hd]
        omega
/-- A number of at least 0 as it is written, with at most thirteen digits. -/
def numB (l : List UInt8) : Bool := (decide (1 ≤ l.length) && decide (l.length ≤ 13)) && (l.all digB && (decDigits (valF 0 l) == l))
theorem numB_t {l : List UInt8} (h : numB l = true) : 1 ≤ l.length ∧ l.length ≤ 13 ∧ (l.all digB) = true ∧ decDigits (valF 0 l) = l := by
  unfold numB at h
  rw [Bool.and_eq_true, Bool.and_eq_true, Bool.and_eq_true, decide_eq_true_iff, decide_eq_true_iff, beq_iff_eq] at h
  exact ⟨h.1.1, h.1.2, h.2.1, h.2.2⟩
theorem numB_mk {l : List UInt8} (h1 : 1 ≤ l.length) (h2 : l.length ≤ 13) (h3 : (l.all digB) = true) (h4 : decDigits (valF 0 l) = l) : numB l = true := by
  unfold numB
  rw [h3, h4, decide_eq_true h1, decide_eq_true h2]
  simp
theorem numB_val {l : List UInt8} (h : numB l = true) : valF 0 l < 10000000000000 := by
  obtain ⟨_, h2, h3, _⟩ := numB_t h
  have h4 := valF_lt l 0 h3
  have h5 : 10 ^ l.length ≤ 10 ^ 13 := Nat.pow_le_pow_right (by decide) h2
  omega
theorem parse_digits (M : Nat) : ∀ (l : List UInt8) (a : Nat), (l.all digB) = true → valF a l ≤ M → valF a l < 9223372036854775808 → parseUintM M a l = .ok (valF a l)
  | [], a, _, _, _ => rfl
  | c :: r, a, h, h1, h2 => by
    rw [List.all_cons, Bool.and_eq_true] at h
    have hd := digB_t h.1
    have hg := valF_ge r (10 * a + (c.toNat - 48))
    rw [valF_cons] at h1 h2 ⊢
    rw [parseUintM, if_pos hd, if_neg (by omega), if_neg (by omega), Nat.mul_comm a 10]
    exact parse_digits M r _ h.2 h1 h2
theorem num_head {l : List UInt8} (h : numB l = true) : ∃ c r, l = c :: r ∧ 48 ≤ c.toNat ∧ c.toNat ≤ 57 := by
  obtain ⟨h1, _, h3, _⟩ := numB_t h
  cases l with
  | nil => simp at h1
  | cons c r =>
    rw [List.all_cons, Bool.and_eq_true] at h3
    exact ⟨c, r, rfl, digB_t h3.1⟩
theorem num_uint {l : List UInt8} (h : numB l = true) : parseUintB 64 l = .ok (valF 0 l) := by
  obtain ⟨c, r, e, _⟩ := num_head h
  have hv := numB_val h
  unfold parseUintB
  rw [if_neg (by rw [e]; simp)]
  exact parse_digits _ l 0 (numB_t h).2.2.1 (by omega) (by omega)
theorem num_parse {l : List UInt8} (h : numB l = true) : parseIntB 64 l = .ok ((valF 0 l : Nat) : Int) := by
  have hu := num_uint h
  have hv := numB_val h
  obtain ⟨c, r, rfl, hc⟩ := num_head h
  unfold parseIntB
  simp only []
  rw [if_neg (by omega), hu]
  simp only []
  rw [if_neg (by omega), if_neg (by omega), if_neg (by omega)]
/-- What the program reads of a word, and whether it is written so. -/
def rdN (l : List UInt8) : Int := match parseIntB 64 l with | .ok v => v | .range => intSat 64 l | _ => 0
def rdB (l : List UInt8) : Bool := match parseIntB 64 l with | .ok v => itoa v == l | _ => false
def isN (l : List UInt8) : Bool := (rdB l && decide (0 ≤ rdN l)) && decide (l.length ≤ 13)
theorem isN_num (l : List UInt8) : isN l = numB l := by
  rw [Bool.eq_iff_iff]
  constructor
  · intro h
    unfold isN rdB rdN at h
    cases hp : parseIntB 64 l with
    | range => rw [hp] at h; simp at h
    | ok v =>
      rw [hp] at h
      simp only [Bool.and_eq_true, beq_iff_eq, decide_eq_true_iff] at h
      obtain ⟨⟨h1, h2⟩, h3⟩ := h
      obtain ⟨n, rfl⟩ : ∃ n : Nat, v = n := ⟨v.toNat, by omega⟩
      rw [itoa_nonneg] at h1
      subst h1
      obtain ⟨d1, d2, d3⟩ := dec_digits (n + 1) n (by omega)
      exact numB_mk (by cases hq : decDigits n with | nil => exact absurd hq d3 | cons => simp) h3 d1 (by rw [d2])
    | _ => rw [hp] at h; simp at h
  · intro h
    obtain ⟨_, h2, _, h4⟩ := numB_t h
    unfold isN rdB rdN
    rw [num_parse h]
    simp only [itoa_nonneg, h4, beq_self_eq_true, Bool.true_and, decide_eq_true h2, Bool.and_true]
    simp
/-- A number with a sign, as the reference reads it. -/
def sgB (l : List UInt8) : Bool := match l with | [] => false | c :: r => if c = 45 then numB r && decide (0 < valF 0 r) else numB (c :: r)
def sgN (l : List UInt8) : Int := match l with | [] => 0 | c :: r => if c = 45 then -((valF 0 r : Nat) : Int) else ((valF 0 (c :: r) : Nat) : Int)
theorem sg_trim (l : List UInt8) : (isN (if ([45] : List UInt8).isPrefixOf l = true then l.drop 1 else l) && !(l == [45, 48])) = sgB l := by
  cases l with
  | nil => simp [isN_num, numB, sgB]
  | cons c r =>
    by_cases hc : c = 45
    · subst hc
      have hp : ([45] : List UInt8).isPrefixOf (45 :: r) = true := by simp [List.isPrefixOf]
      rw [hp, if_pos rfl, List.drop_succ_cons, List.drop_zero, isN_num, sgB, if_pos rfl]
      cases hn : numB r
      · simp
      · obtain ⟨_, _, _, h4⟩ := numB_t hn
        rw [Bool.true_and, Bool.true_and, Bool.eq_iff_iff]
        constructor
        · intro h
          simp at h ⊢
          rcases Nat.eq_zero_or_pos (valF 0 r) with h0 | h0
          · rw [h0, decDigits_one (by decide)] at h4
            exact absurd h4.symm h
          · exact h0
        · intro h
          simp at h ⊢
          intro e
          subst e
          simp [valF_cons, valF_nil] at h
    · have hp : ([45] : List UInt8).isPrefixOf (c :: r) = false := by simp [List.isPrefixOf, Ne.symm hc]
      rw [hp, if_neg (by decide), isN_num, sgB, if_neg hc]
      have : ((c :: r) == [45, 48]) = false := by
        rw [beq_eq_false_iff_ne]
        intro e
        injection e with e _
        exact hc e
      rw [this]
      simp
theorem sg_parse {l : List UInt8} (h : sgB l = true) : parseIntB 64 l = .ok (sgN l) ∧ itoa (sgN l) = l ∧ -10000000000000 < sgN l ∧ sgN l < 10000000000000 := by
  cases l with
  | nil => simp [sgB] at h
  | cons c r =>
    by_cases hc : c = 45
    · subst hc
      rw [sgB, if_pos rfl, Bool.and_eq_true, decide_eq_true_iff] at h
      obtain ⟨h1, h2⟩ := h
      have hu := num_uint h1
      have hv := numB_val h1
      rw [sgN, if_pos rfl]
      refine ⟨?_, ?_, by omega, by omega⟩
      · unfold parseIntB
        simp only []
        rw [if_pos (.inr (by decide)), hu]
        simp only []
        rw [if_neg (fun e => e.1 (by decide)), if_neg (by omega), if_pos (by decide)]
      · rw [itoa_neg _ (by omega), (numB_t h1).2.2.2]
    · rw [sgB, if_neg hc] at h
      have hv := numB_val h
      rw [sgN, if_neg hc, itoa_nonneg]
      exact ⟨num_parse h, (numB_t h).2.2.2, by omega, by omega⟩
theorem sg_rd {l : List UInt8} (h : sgB l = true) : rdN l = sgN l := by
  unfold rdN
  rw [(sg_parse h).1]
/-- What is put together comes apart again. -/
theorem spl_none {c : UInt8} : ∀ {l : List UInt8}, (∀ x ∈ l, x ≠ c) → spl c l = [l]
  | [], _ => rfl
  | b :: l, h => by
    rw [spl, if_neg (h b (by simp)), spl_none (fun x hx => h x (by simp [hx]))]
    rfl
theorem spl_app {c : UInt8} {m : List UInt8} : ∀ {l : List UInt8}, (∀ x ∈ l, x ≠ c) → spl c (l ++ c :: m) = l :: spl c m
  | [], _ => by rw [List.nil_append, spl, if_pos rfl]
  | b :: l, h => by
    rw [List.cons_append, spl, if_neg (h b (by simp)), spl_app (fun x hx => h x (by simp [hx]))]
    rfl
def jn (c : UInt8) : List (List UInt8) → List UInt8
  | [] => []
  | [x] => x
  | x :: y :: r => x ++ c :: jn c (y :: r)
theorem jn_join (c : UInt8) : ∀ xs, join xs [c] = jn c xs
  | [] => rfl
  | [x] => by rw [join_one]; rfl
  | x :: y :: r => by
    have ih := jn_join c (y :: r)
    rw [join_cons] at ih ⊢
    rw [jn, ← ih]
    simp [joinTail]
theorem jn_snoc (c : UInt8) (x : List UInt8) : ∀ xs, xs ≠ [] → jn c (xs ++ [x]) = jn c xs ++ c :: x
  | [], h => absurd rfl h
  | [y], _ => rfl
  | y :: z :: r, _ => by
    have ih := jn_snoc c x (z :: r) (by simp)
    rw [List.cons_append, List.cons_append, jn, ← List.cons_append, ih, jn, List.append_assoc, List.cons_append]
theorem spl_jn {c : UInt8} : ∀ {xs : List (List UInt8)}, xs ≠ [] → (∀ l ∈ xs, ∀ x ∈ l, x ≠ c) → spl c (jn c xs) = xs
  | [], h, _ => absurd rfl h
  | [x], _, h => spl_none (h x (by simp))
  | x :: y :: r, _, h => by
    rw [jn, spl_app (h x (by simp)), spl_jn (by simp) (fun l hl => h l (List.mem_cons_of_mem _ hl))]
theorem jn_map (a b : UInt8) (xs : List (List UInt8)) (h : ∀ l ∈ xs, ∀ x ∈ l, x ≠ a) : (jn a xs).map (fun x => if x = a then b else x) = jn b xs := by
  have hk : ∀ l : List UInt8, (∀ x ∈ l, x ≠ a) → l.map (fun x => if x = a then b else x) = l := fun l hl => by
    conv => rhs; rw [← List.map_id l]
    apply List.map_congr_left
    intro x hx
    simp [hl x hx]
  induction xs with
  | nil => rfl
  | cons x r ih =>
    cases r with
    | nil => exact hk x (h x (by simp))
    | cons y r =>
      rw [jn, jn, List.map_append, List.map_cons, hk x (h x (by simp)), if_pos rfl, ih (fun l hl => h l (List.mem_cons_of_mem _ hl))]
end Go.Proofs.YtjfinniebijgbaaDoor
