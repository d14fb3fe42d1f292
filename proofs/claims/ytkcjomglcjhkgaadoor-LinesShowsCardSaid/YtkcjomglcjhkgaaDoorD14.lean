/- A helper text of this claim: lemmas of an abstract machine over the model, or walks in it. Own work of an AI agent. -/
import Derived.Test.YtkcjomglcjhkgaaDoorD13
set_option linter.unusedVariables false
set_option linter.unusedSimpArgs false
namespace Go.Uw.D
set_option linter.unusedSimpArgs false
open Go Go.Uw Go.Proofs
theorem pline_ok (e : Ev) (h : checkEv e = 0) : Fun Tryd.prog 13 [.agg (fvs (encEv e))] [] [] (sA (lineL e ++ [10])) [] := by
  have hc := ev_cases e h
  obtain ⟨kind, key, slot, gen, good, request, backend, weight⟩ := e
  simp only at hc
  rcases hc with ⟨rfl, h1, h2⟩ | ⟨hk, h1, h2⟩ | ⟨rfl, h1, h2, h3⟩ | ⟨rfl, h1, h2⟩ | rfl
  · exact pline_1 key slot gen good request backend weight ⟨h1, h2⟩
  · rcases hk with rfl | rfl | rfl
    · exact pline_2 key slot gen good request backend weight h1 h2
    · exact pline_3 key slot gen good request backend weight h1 h2
    · cases good
      · exact pline_4f key slot gen request backend weight h1 h2
      · exact pline_4t key slot gen request backend weight h1 h2
  · exact pline_5 key slot gen good request backend weight h1 h2 h3
  · exact pline_6 key slot gen good request backend weight h1 h2
  · exact pline_7 key slot gen good request backend weight
end Go.Uw.D
