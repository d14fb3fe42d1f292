/- A helper text of this claim: lemmas of an abstract machine over the model, or walks in it. Own work of an AI agent. -/
import Derived.Test.YtkcjomglcjhkgaaDoorD6
set_option linter.unusedVariables false
set_option linter.unusedSimpArgs false
namespace Go.Uw.D
set_option linter.unusedSimpArgs false
open Go Go.Uw Go.Proofs

theorem decL_pow : ∀ (k n : Nat), n < 10 ^ (k + 1) → (decL n).length ≤ k + 1
  | 0, n, h => by rw [decL_small (by simpa using h)]; simp
  | k + 1, n, h => by
    by_cases h1 : n < 10
    · rw [decL_small h1]; simp
    · rw [decL_big h1]
      have := decL_pow k (n / 10) (by rw [Nat.div_lt_iff_lt_mul (by decide)]; rw [Nat.pow_succ] at h; exact h)
      simp; omega

theorem decL10 {n : Int} (h : n ≤ 4294967295) : (decL n.toNat).length ≤ 10 := decL_pow 9 _ (by omega)

theorem ev_cases (e : Ev) (h : checkEv e = 0) :
    (e.kind = 1 ∧ 0 ≤ e.key ∧ e.key ≤ 4294967295) ∨ ((e.kind = 2 ∨ e.kind = 3 ∨ e.kind = 4) ∧ (0 ≤ e.slot ∧ e.slot ≤ 39) ∧ (0 ≤ e.gen ∧ e.gen ≤ 1048576)) ∨
    (e.kind = 5 ∧ (0 ≤ e.request ∧ e.request ≤ 1048576) ∧ (0 ≤ e.backend ∧ e.backend ≤ 11) ∧ (1 ≤ e.weight ∧ e.weight ≤ 8)) ∨ (e.kind = 6 ∧ (0 ≤ e.request ∧ e.request ≤ 1048576) ∧ (0 ≤ e.backend ∧ e.backend ≤ 11)) ∨ e.kind = 7 := by
  unfold checkEv at h
  split at h
  · cases h
  rename_i h1
  split at h
  · cases h
  rename_i h2
  have hk : e.kind = 1 ∨ e.kind = 2 ∨ e.kind = 3 ∨ e.kind = 4 ∨ e.kind = 5 ∨ e.kind = 6 ∨ e.kind = 7 := by omega
  rcases hk with hk | hk | hk | hk | hk | hk | hk <;> simp [fieldsOf, hk] at h2 ⊢ <;> omega

theorem word_len (k : Int) : (wordL k).length ≤ 6 := by
  unfold wordL
  repeat' split
  all_goals simp

theorem line_len (e : Ev) (h : checkEv e = 0) : (lineL e).length ≤ 60 := by
  have hw := word_len e.kind
  have hs : (if e.kind = 4 then (if e.good then [32, 103, 111, 111, 100] else [32, 98, 97, 100]) else [] : List UInt8).length ≤ 5 := by
    repeat' split
    all_goals simp
  unfold lineL
  rw [List.length_append]
  rcases ev_cases e h with ⟨hk, h1, h2⟩ | ⟨hk, h1, h2⟩ | ⟨hk, h1, h2, h3⟩ | ⟨hk, h1, h2⟩ | hk
  · have a1 := decL10 h2
    have : fieldVals e = [e.key] := by simp [fieldVals, hk]
    rw [this]; simp only [List.foldl_cons, List.foldl_nil, List.length_append, List.length_cons, List.length_nil]; omega
  · have a1 := decL10 (n := e.slot) (by omega)
    have a2 := decL10 (n := e.gen) (by omega)
    have : fieldVals e = [e.slot, e.gen] := by rcases hk with hk | hk | hk <;> simp [fieldVals, hk]
    rw [this]; simp only [List.foldl_cons, List.foldl_nil, List.length_append, List.length_cons, List.length_nil]; omega
  · have a1 := decL10 (n := e.request) (by omega)
    have a2 := decL10 (n := e.backend) (by omega)
    have a3 := decL10 (n := e.weight) (by omega)
    have : fieldVals e = [e.request, e.backend, e.weight] := by simp [fieldVals, hk]
    rw [this]; simp only [List.foldl_cons, List.foldl_nil, List.length_append, List.length_cons, List.length_nil]; omega
  · have a1 := decL10 (n := e.request) (by omega)
    have a2 := decL10 (n := e.backend) (by omega)
    have : fieldVals e = [e.request, e.backend] := by simp [fieldVals, hk]
    rw [this]; simp only [List.foldl_cons, List.foldl_nil, List.length_append, List.length_cons, List.length_nil]; omega
  · have : fieldVals e = [] := by simp [fieldVals, hk]
    rw [this]; simp only [List.foldl_nil]; omega

theorem line_ok (e : Ev) (h : checkEv e = 0) : Fun Tryd.prog 16 [.agg (fvs (encEv e))] [] [] (sA (lineL e)) [] := by
  have hc := ev_cases e h
  obtain ⟨kind, key, slot, gen, good, request, backend, weight⟩ := e
  simp only at hc
  rcases hc with ⟨rfl, h1, h2⟩ | ⟨hk, h1, h2⟩ | ⟨rfl, h1, h2, h3⟩ | ⟨rfl, h1, h2⟩ | rfl
  · exact line_1 key slot gen good request backend weight ⟨h1, h2⟩
  · rcases hk with rfl | rfl | rfl
    · exact line_2 key slot gen good request backend weight h1 h2
    · exact line_3 key slot gen good request backend weight h1 h2
    · cases good
      · exact line_4f key slot gen request backend weight h1 h2
      · exact line_4t key slot gen request backend weight h1 h2
  · exact line_5 key slot gen good request backend weight h1 h2 h3
  · exact line_6 key slot gen good request backend weight h1 h2
  · exact line_7 key slot gen good request backend weight

/-- what is left to show behind i events -/
theorem showGo_step {l : List Ev} {i : Nat} (hi : i < l.length) (acc : List UInt8) : showGo (l.drop i) i acc = if checkEv l[i] ≠ 0 then ([], (i : Int), checkEv l[i]) else showGo (l.drop (i + 1)) (i + 1) (acc ++ lineL l[i] ++ [10]) := by
  rw [List.drop_eq_getElem_cons hi, showGo]
theorem showGo_end {l : List Ev} {i : Nat} (hi : l.length ≤ i) (acc : List UInt8) : showGo (l.drop i) i acc = (acc, 0, 0) := by
  rw [List.drop_eq_nil_of_le hi, showGo]
end Go.Uw.D
