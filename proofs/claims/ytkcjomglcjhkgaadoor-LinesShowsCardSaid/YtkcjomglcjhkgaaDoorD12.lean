/- A helper text of this claim: lemmas of an abstract machine over the model, or walks in it. Own work of an AI agent. -/
import Derived.Test.YtkcjomglcjhkgaaDoorD11
import Derived.Test.YtkcjomglcjhkgaaDoorUwW
import Derived.Test.YtkcjomglcjhkgaaDoorDShelf
set_option linter.unusedVariables false
set_option linter.unusedSimpArgs false
namespace Go.Uw.D
set_option linter.unusedSimpArgs false
open Go Go.Uw Go.Proofs

theorem decL_eq (n : Nat) : decL n = Lib.decDigits n := by
  induction n using Nat.strongRecOn with
  | _ n ih =>
    by_cases h : n < 10
    · rw [decL_small h, Lib.decDigits, dif_pos h]
    · rw [decL_big h, Lib.decDigits, dif_neg h, ih (n / 10) (by omega)]

theorem gn_pow : Tryd.prog.globalNamed "internal/strconv.uint64pow10" = some 4 := by kernel_rfl

theorem tab_of_gok {w : World} {s : Nat → Prop} (h : GOK w s) : Lib.TabIs Tryd.prog w "internal/strconv.uint64pow10" .u64 Lib.pow10Tab := by
  obtain ⟨_, e, k, h2⟩ := h (4, (Lib.pow10Tab.map fun z => Value.int .u64 z).toArray) (by simp [Gl])
  unfold Lib.TabIs World.var?
  rw [gn_pow]
  simp only [Option.bind_some, h2]

theorem itoa_ok (n : Int) (h0 : 0 ≤ n) (h1 : n ≤ 4294967295) : Fun Tryd.prog 24 [iA n] [] [] (sA (decL n.toNat)) [] := by
  refine fun_of_grown (by have := decL10 h1; rw [maxLen_eq]; omega) fun w s hg => ?_
  have := Tryd.strconv_Itoa n (by omega) (by omega) w (tab_of_gok hg)
  rwa [Lib.itoa, if_neg (by omega), ← decL_eq] at this
end Go.Uw.D
