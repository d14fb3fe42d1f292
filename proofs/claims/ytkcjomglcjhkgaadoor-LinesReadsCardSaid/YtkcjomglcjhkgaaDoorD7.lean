/- A helper text of this claim: lemmas of an abstract machine over the model, or walks in it. Own work of an AI agent. -/
import Derived.Test.YtkcjomglcjhkgaaDoorD6
set_option linter.unusedVariables false
set_option linter.unusedSimpArgs false
namespace Go.Uw.D
open Go Go.Uw Go.Proofs

theorem decL_pow : ∀ (k n : Nat), n < 10 ^ (k + 1) → (decL n).length ≤ k + 1
  | 0, n, h => by rw [decL_small (by simpa using h)]; simp
  | k + 1, n, h => by
    by_cases h1 : n < 10
    · rw [decL_small h1]; simp
    · rw [decL_big h1]
      have := decL_pow k (n / 10) (by rw [Nat.div_lt_iff_lt_mul (by decide)]; rw [Nat.pow_succ] at h; exact h)
      simp; omega

theorem decL10 {n : Int} (h : n ≤ 4294967295) : (decL n.toNat).length ≤ 10 := decL_pow 9 _ (by omega)

theorem ev_cases (e : Ev) (h : checkEv e = 0) :
    (e.kind = 1 ∧ 0 ≤ e.key ∧ e.key ≤ 4294967295) ∨ ((e.kind = 2 ∨ e.kind = 3 ∨ e.kind = 4) ∧ (0 ≤ e.slot ∧ e.slot ≤ 39) ∧ (0 ≤ e.gen ∧ e.gen ≤ 1048576)) ∨
    (e.kind = 5 ∧ (0 ≤ e.request ∧ e.request ≤ 1048576) ∧ (0 ≤ e.backend ∧ e.backend ≤ 11) ∧ (1 ≤ e.weight ∧ e.weight ≤ 8)) ∨ (e.kind = 6 ∧ (0 ≤ e.request ∧ e.request ≤ 1048576) ∧ (0 ≤ e.backend ∧ e.backend ≤ 11)) ∨ e.kind = 7 := by
  unfold checkEv at h
  split at h
  · cases h
  rename_i h1
  split at h
  · cases h
  rename_i h2
  have hk : e.kind = 1 ∨ e.kind = 2 ∨ e.kind = 3 ∨ e.kind = 4 ∨ e.kind = 5 ∨ e.kind = 6 ∨ e.kind = 7 := by omega
  rcases hk with hk | hk | hk | hk | hk | hk | hk <;> simp [fieldsOf, hk] at h2 ⊢ <;> omega

end Go.Uw.D
