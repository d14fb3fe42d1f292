/- A loop whose first round is another. Own work. -/
import Derived.Test.YtkcjomglcjhkgaaDoorUwW
set_option linter.unusedVariables false
set_option linter.unusedSimpArgs false
set_option linter.unusedVariables false
namespace Go.Uw
open Go
theorem awp_loop1 {P : Program} {E : Env} {K : Exit → St → Prop} {s : St} {X : Type} (Q : X → Prop) (Inv : X → St) (μ : X → Nat) (M : Nat) {c : Code} (hM : ∀ x, Q x → μ x < M)
    (h1 : AWP P E c (thenK (fun s' => ∃ x', Q x' ∧ Le E s' (Inv x')) K) s)
    (hr : ∀ x, Q x → AWP P E c (thenK (fun s' => ∃ x', Q x' ∧ Le E s' (Inv x') ∧ μ x' < μ x) K) (Inv x)) : AWP P E (.loop c) K s := by
  refine awp_loopQ (X := Option X) (fun o => ∀ x, o = some x → Q x) (fun o => match o with | none => s | some x => Inv x) (fun o => match o with | none => M | some x => μ x) none (by simp) Le.refl ?_
  intro o ho
  cases o with
  | none =>
    refine awp_mono h1 fun e s' h => ?_
    cases e with
    | normal => obtain ⟨x', h2, h3⟩ := h; exact ⟨some x', fun x hx => by cases hx; exact h2, h3, hM x' h2⟩
    | _ => exact h
  | some x =>
    refine awp_mono (hr x (ho x rfl)) fun e s' h => ?_
    cases e with
    | normal => obtain ⟨x', h2, h3, h4⟩ := h; exact ⟨some x', fun x hx => by cases hx; exact h2, h3, h4⟩
    | _ => exact h
end Go.Uw
