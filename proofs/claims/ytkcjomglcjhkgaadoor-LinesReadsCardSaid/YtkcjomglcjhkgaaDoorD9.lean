/- A helper text of this claim: lemmas of an abstract machine over the model, or walks in it. Own work of an AI agent. -/
import Derived.Test.YtkcjomglcjhkgaaDoorD7
set_option linter.unusedVariables false
set_option linter.unusedSimpArgs false
namespace Go.Uw.D
open Go Go.Uw Go.Proofs
theorem up_32 : Tryd.prog.underlying 32 = some (.pointer 35) := by kernel_rfl
theorem up_62 : Tryd.prog.underlying 62 = some (.pointer 5) := by kernel_rfl
theorem uu_73 : Tryd.prog.underlying 73 = some .unsafePointer := by kernel_rfl
theorem c_5 : Tryd.prog.cellsOf 5 = 1 := by kernel_rfl
theorem c_35 : Tryd.prog.cellsOf 35 = 2 := by kernel_rfl
theorem ty_35 : tyB Tryd.prog 35 = some (true, 2, 32) := by kernel_rfl
theorem i_35 : ∃ j, Tryd.prog.info? 35 = some j ∧ j.size ≠ 0 := by
  obtain ⟨d, inf, _, h2, _, h4, _⟩ := tyB_spec ty_35
  exact ⟨inf, h2, by omega⟩
theorem lies_35 (n : Nat) (hn : 2 ≤ n) : liesAt Tryd.prog Tryd.prog.depth 35 (n / Tryd.prog.cellsOf 35) 0 35 1 = true := by
  refine liesAt_self (by rw [c_35]; decide) _ ?_
  rw [c_35]; omega
theorem ne_1 : (Tryd.f37.name == "runtime.NumGoroutine") = false := by kernel_rfl
theorem ne_2 : Tryd.f37.body.isNone = true := by kernel_rfl
theorem ne_3 : Extern.findNext Tryd.f37 = none := by kernel_rfl
theorem ne_4 : Extern.find Tryd.f37 = some Extern.AbiNoEscape.same := by kernel_rfl

set_option maxRecDepth 100000 in
theorem check_fresh : Fun Tryd.prog 22 [.ptr 0 0 0 0] [(0, some (.cells 35 [lit (.pointer none), lit (.slice none 0 0)]))] [] (.tup []) [(0, some (.cells 35 [.ptr 0 0 0 0, lit (.slice none 0 0)]))] := by
  obtain ⟨j, hj, hj0⟩ := i_35
  refine fun_of_awp (rl := []) Tryd.func22 rfl Tryd.results22 Tryd.ntmps22 1 rfl (by simp) ?_
  intro w0 own0 ρ0 F hz
  refine awp_seq ?_
  refine awp_region ?_
  refine r_mv rfl trivial rfl ?_
  first | refine r_nilck rfl trivial rfl ?_ | refine r_nilckr rfl trivial rfl ?_ | refine r_nilckf rfl trivial rfl ?_
  first | refine r_fld fld_35_0 rfl trivial rfl ?_ | refine r_fldr fld_35_0 rfl trivial rfl ?_
  first | refine r_ld ty_32 rfl rfl rfl trivial rfl ?_ | refine r_ldr ty_32 rfl rfl trivial rfl ?_ | refine r_ldo ty_32 rfl rfl (by assumption) rfl trivial rfl ?_
  first | refine r_pnil up_32 rfl rfl trivial rfl ?_ | refine r_psome up_32 rfl rfl trivial rfl ?_
  refine reg_nil ?_
  refine awp_cond_t rfl ?_
  refine awp_region ?_
  refine r_mv rfl trivial rfl ?_
  refine r_mv rfl trivial rfl ?_
  refine r_tou up_32 uu_73 hj hj0 rfl rfl (Nat.zero_lt_succ _) trivial rfl ?_
  refine r_noesc Tryd.func37 ne_1 ne_2 ne_3 ne_4 rfl trivial rfl ?_
  refine r_fromu (cs := [_, _]) uu_73 up_32 hj (fun n hn => lies_35 n hn) rfl rfl trivial rfl ?_
  first | refine r_nilck rfl trivial rfl ?_ | refine r_nilckr rfl trivial rfl ?_ | refine r_nilckf rfl trivial rfl ?_
  first | refine r_fld fld_35_0 rfl trivial rfl ?_ | refine r_fldr fld_35_0 rfl trivial rfl ?_
  first | refine r_st ty_32 rfl rfl rfl rfl rfl rfl rfl trivial ?_ | refine r_sto ty_32 rfl rfl rfl rfl (by assumption) rfl rfl rfl trivial ?_
  refine reg_nil ?_
  exact finG (nid := []) [] 1 .nil rfl rfl rfl (.ren rfl) (.cons rfl (.ren rfl) .nil)
set_option maxRecDepth 100000 in
theorem check_used (acc : List UInt8) : Fun Tryd.prog 22 [.ptr 0 0 0 0] [(0, some (.cells 35 [.ptr 0 0 0 0, .rw 1 1 0 acc.length])), (1, some (.rows 5 1 (bytesF acc)))] [] (.tup []) [] := by
  obtain ⟨j, hj, hj0⟩ := i_35
  refine fun_of_awp (rl := []) Tryd.func22 rfl Tryd.results22 Tryd.ntmps22 2 rfl (by simp) ?_
  intro w0 own0 ρ0 F hz
  refine awp_seq ?_
  refine awp_region ?_
  refine r_mv rfl trivial rfl ?_
  first | refine r_nilck rfl trivial rfl ?_ | refine r_nilckr rfl trivial rfl ?_ | refine r_nilckf rfl trivial rfl ?_
  first | refine r_fld fld_35_0 rfl trivial rfl ?_ | refine r_fldr fld_35_0 rfl trivial rfl ?_
  first | refine r_ld ty_32 rfl rfl rfl trivial rfl ?_ | refine r_ldr ty_32 rfl rfl trivial rfl ?_ | refine r_ldo ty_32 rfl rfl (by assumption) rfl trivial rfl ?_
  first | refine r_pnil up_32 rfl rfl trivial rfl ?_ | refine r_psome up_32 rfl rfl trivial rfl ?_
  refine reg_nil ?_
  refine awp_cond_f rfl ?_
  refine awp_seq ?_
  refine awp_region ?_
  refine r_mv rfl trivial rfl ?_
  first | refine r_nilck rfl trivial rfl ?_ | refine r_nilckr rfl trivial rfl ?_ | refine r_nilckf rfl trivial rfl ?_
  first | refine r_fld fld_35_0 rfl trivial rfl ?_ | refine r_fldr fld_35_0 rfl trivial rfl ?_
  first | refine r_ld ty_32 rfl rfl rfl trivial rfl ?_ | refine r_ldr ty_32 rfl rfl trivial rfl ?_ | refine r_ldo ty_32 rfl rfl (by assumption) rfl trivial rfl ?_
  refine r_mv rfl trivial rfl ?_
  refine r_psame up_32 hj rfl rfl trivial rfl ?_
  refine reg_nil ?_
  refine awp_cond_f rfl ?_
  refine awp_skip ?_
  exact finG (nid := []) [] 2 .nil rfl rfl rfl (.ren rfl) (.cons rfl (.ren rfl) (.cons rfl (.ren rfl) .nil))
end Go.Uw.D
