/- A helper text of this claim: lemmas of an abstract machine over the model, or walks in it. Own work of an AI agent. -/
import Derived.Test.YtkcjomglcjhkgaaDoorD10
set_option linter.unusedVariables false
set_option linter.unusedSimpArgs false
namespace Go.Uw.D
open Go Go.Uw Go.Proofs

set_option maxRecDepth 100000 in
theorem nums_1 (key slot gen : Int) (good : Bool) (request backend weight : Int) : Fun Tryd.prog 23 [.ptr 0 0 0 0] [(0, some (.cells 37 (fvs (encEv ⟨1, key, slot, gen, good, request, backend, weight⟩))))] [1] (.rw 1 1 0 1) [(1, some (.cells 53 [.ptr 0 0 0 1]))] := by
  refine fun_of_awp (rl := [.tmp 2]) Tryd.func23 rfl Tryd.results23 Tryd.ntmps23 1 rfl (by simp) ?_
  intro w0 own0 ρ0 F hz
  refine awp_seq ?_
  refine awp_region ?_
  refine r_as rfl trivial rfl ?_
  refine reg_nil ?_
  refine awp_seq ?_
  refine awp_seq ?_
  refine awp_region ?_
  refine r_mv rfl trivial rfl ?_
  first | refine r_nilck rfl trivial rfl ?_ | refine r_nilckr rfl trivial rfl ?_ | refine r_nilckf rfl trivial rfl ?_
  first | refine r_fld fld_37_0 rfl trivial rfl ?_ | refine r_fldr fld_37_0 rfl trivial rfl ?_
  first | refine r_ld ty_3 rfl rfl rfl trivial rfl ?_ | refine r_ldr ty_3 rfl rfl trivial rfl ?_ | refine r_ldo ty_3 rfl rfl (by assumption) rfl trivial rfl ?_
  refine reg_nil ?_
  refine awp_block ?_
  refine awp_seq ?_
  refine awp_region ?_
  refine r_eqi rfl rfl trivial rfl ?_
  refine r_as rfl trivial rfl ?_
  refine reg_nil ?_
  refine awp_cond_t rfl ?_
  refine awp_seq ?_
  refine awp_region ?_
  refine r_mv rfl trivial rfl ?_
  first | refine r_nilck rfl trivial rfl ?_ | refine r_nilckr rfl trivial rfl ?_ | refine r_nilckf rfl trivial rfl ?_
  first | refine r_fld fld_37_1 rfl trivial rfl ?_ | refine r_fldr fld_37_1 rfl trivial rfl ?_
  refine r_bslicec sl_58 ty_53 rfl z_53 rfl rfl rfl rfl rfl rfl rfl trivial rfl ?_
  refine r_as rfl trivial rfl ?_
  refine reg_nil ?_
  refine awp_ret ?_
  exact finG (nid := []) [(1, 1)] 2 (.cons (.tmp rfl) .nil) rfl rfl rfl (.ren rfl) (.cons rfl (.ren rfl) (.cons rfl (.ren rfl) .nil))
set_option maxRecDepth 100000 in
theorem nums_2 (key slot gen : Int) (good : Bool) (request backend weight : Int) : Fun Tryd.prog 23 [.ptr 0 0 0 0] [(0, some (.cells 37 (fvs (encEv ⟨2, key, slot, gen, good, request, backend, weight⟩))))] [1] (.rw 1 1 0 2) [(1, some (.cells 53 [.ptr 0 0 0 2, .ptr 0 0 0 3]))] := by
  refine fun_of_awp (rl := [.tmp 2]) Tryd.func23 rfl Tryd.results23 Tryd.ntmps23 1 rfl (by simp) ?_
  intro w0 own0 ρ0 F hz
  refine awp_seq ?_
  refine awp_region ?_
  refine r_as rfl trivial rfl ?_
  refine reg_nil ?_
  refine awp_seq ?_
  refine awp_seq ?_
  refine awp_region ?_
  refine r_mv rfl trivial rfl ?_
  first | refine r_nilck rfl trivial rfl ?_ | refine r_nilckr rfl trivial rfl ?_ | refine r_nilckf rfl trivial rfl ?_
  first | refine r_fld fld_37_0 rfl trivial rfl ?_ | refine r_fldr fld_37_0 rfl trivial rfl ?_
  first | refine r_ld ty_3 rfl rfl rfl trivial rfl ?_ | refine r_ldr ty_3 rfl rfl trivial rfl ?_ | refine r_ldo ty_3 rfl rfl (by assumption) rfl trivial rfl ?_
  refine reg_nil ?_
  refine awp_block ?_
  refine awp_seq ?_
  refine awp_region ?_
  refine r_eqi rfl rfl trivial rfl ?_
  refine r_as rfl trivial rfl ?_
  refine reg_nil ?_
  refine awp_cond_f rfl ?_
  refine awp_seq ?_
  refine awp_seq ?_
  refine awp_region ?_
  refine r_eqi rfl rfl trivial rfl ?_
  refine r_as rfl trivial rfl ?_
  refine reg_nil ?_
  refine awp_cond_t rfl ?_
  refine awp_skip ?_
  refine awp_cond_t rfl ?_
  refine awp_seq ?_
  refine awp_draw mix rfl ?_
  refine r_mv rfl trivial rfl ?_
  first | refine r_nilck rfl trivial rfl ?_ | refine r_nilckr rfl trivial rfl ?_ | refine r_nilckf rfl trivial rfl ?_
  first | refine r_fld fld_37_2 rfl trivial rfl ?_ | refine r_fldr fld_37_2 rfl trivial rfl ?_
  refine r_mv rfl trivial rfl ?_
  first | refine r_nilck rfl trivial rfl ?_ | refine r_nilckr rfl trivial rfl ?_ | refine r_nilckf rfl trivial rfl ?_
  first | refine r_fld fld_37_3 rfl trivial rfl ?_ | refine r_fldr fld_37_3 rfl trivial rfl ?_
  refine r_bslicec sl_58 ty_53 rfl z_53 rfl rfl rfl rfl rfl rfl rfl trivial rfl ?_
  refine r_as rfl trivial rfl ?_
  refine reg_nil ⟨rfl, ?_⟩
  refine awp_ret ?_
  exact finG (nid := []) [(1, 1)] 2 (.cons (.tmp rfl) .nil) rfl rfl rfl (.ren rfl) (.cons rfl (.ren rfl) (.cons rfl (.ren rfl) .nil))
set_option maxRecDepth 100000 in
theorem nums_3 (key slot gen : Int) (good : Bool) (request backend weight : Int) : Fun Tryd.prog 23 [.ptr 0 0 0 0] [(0, some (.cells 37 (fvs (encEv ⟨3, key, slot, gen, good, request, backend, weight⟩))))] [1] (.rw 1 1 0 2) [(1, some (.cells 53 [.ptr 0 0 0 2, .ptr 0 0 0 3]))] := by
  refine fun_of_awp (rl := [.tmp 2]) Tryd.func23 rfl Tryd.results23 Tryd.ntmps23 1 rfl (by simp) ?_
  intro w0 own0 ρ0 F hz
  refine awp_seq ?_
  refine awp_region ?_
  refine r_as rfl trivial rfl ?_
  refine reg_nil ?_
  refine awp_seq ?_
  refine awp_seq ?_
  refine awp_region ?_
  refine r_mv rfl trivial rfl ?_
  first | refine r_nilck rfl trivial rfl ?_ | refine r_nilckr rfl trivial rfl ?_ | refine r_nilckf rfl trivial rfl ?_
  first | refine r_fld fld_37_0 rfl trivial rfl ?_ | refine r_fldr fld_37_0 rfl trivial rfl ?_
  first | refine r_ld ty_3 rfl rfl rfl trivial rfl ?_ | refine r_ldr ty_3 rfl rfl trivial rfl ?_ | refine r_ldo ty_3 rfl rfl (by assumption) rfl trivial rfl ?_
  refine reg_nil ?_
  refine awp_block ?_
  refine awp_seq ?_
  refine awp_region ?_
  refine r_eqi rfl rfl trivial rfl ?_
  refine r_as rfl trivial rfl ?_
  refine reg_nil ?_
  refine awp_cond_f rfl ?_
  refine awp_seq ?_
  refine awp_seq ?_
  refine awp_region ?_
  refine r_eqi rfl rfl trivial rfl ?_
  refine r_as rfl trivial rfl ?_
  refine reg_nil ?_
  refine awp_cond_f rfl ?_
  refine awp_seq ?_
  refine awp_region ?_
  refine r_eqi rfl rfl trivial rfl ?_
  refine r_as rfl trivial rfl ?_
  refine reg_nil ?_
  refine awp_cond_t rfl ?_
  refine awp_skip ?_
  refine awp_cond_t rfl ?_
  refine awp_seq ?_
  refine awp_draw mix rfl ?_
  refine r_mv rfl trivial rfl ?_
  first | refine r_nilck rfl trivial rfl ?_ | refine r_nilckr rfl trivial rfl ?_ | refine r_nilckf rfl trivial rfl ?_
  first | refine r_fld fld_37_2 rfl trivial rfl ?_ | refine r_fldr fld_37_2 rfl trivial rfl ?_
  refine r_mv rfl trivial rfl ?_
  first | refine r_nilck rfl trivial rfl ?_ | refine r_nilckr rfl trivial rfl ?_ | refine r_nilckf rfl trivial rfl ?_
  first | refine r_fld fld_37_3 rfl trivial rfl ?_ | refine r_fldr fld_37_3 rfl trivial rfl ?_
  refine r_bslicec sl_58 ty_53 rfl z_53 rfl rfl rfl rfl rfl rfl rfl trivial rfl ?_
  refine r_as rfl trivial rfl ?_
  refine reg_nil ⟨rfl, ?_⟩
  refine awp_ret ?_
  exact finG (nid := []) [(1, 1)] 2 (.cons (.tmp rfl) .nil) rfl rfl rfl (.ren rfl) (.cons rfl (.ren rfl) (.cons rfl (.ren rfl) .nil))
set_option maxRecDepth 100000 in
theorem nums_4 (key slot gen : Int) (good : Bool) (request backend weight : Int) : Fun Tryd.prog 23 [.ptr 0 0 0 0] [(0, some (.cells 37 (fvs (encEv ⟨4, key, slot, gen, good, request, backend, weight⟩))))] [1] (.rw 1 1 0 2) [(1, some (.cells 53 [.ptr 0 0 0 2, .ptr 0 0 0 3]))] := by
  refine fun_of_awp (rl := [.tmp 2]) Tryd.func23 rfl Tryd.results23 Tryd.ntmps23 1 rfl (by simp) ?_
  intro w0 own0 ρ0 F hz
  refine awp_seq ?_
  refine awp_region ?_
  refine r_as rfl trivial rfl ?_
  refine reg_nil ?_
  refine awp_seq ?_
  refine awp_seq ?_
  refine awp_region ?_
  refine r_mv rfl trivial rfl ?_
  first | refine r_nilck rfl trivial rfl ?_ | refine r_nilckr rfl trivial rfl ?_ | refine r_nilckf rfl trivial rfl ?_
  first | refine r_fld fld_37_0 rfl trivial rfl ?_ | refine r_fldr fld_37_0 rfl trivial rfl ?_
  first | refine r_ld ty_3 rfl rfl rfl trivial rfl ?_ | refine r_ldr ty_3 rfl rfl trivial rfl ?_ | refine r_ldo ty_3 rfl rfl (by assumption) rfl trivial rfl ?_
  refine reg_nil ?_
  refine awp_block ?_
  refine awp_seq ?_
  refine awp_region ?_
  refine r_eqi rfl rfl trivial rfl ?_
  refine r_as rfl trivial rfl ?_
  refine reg_nil ?_
  refine awp_cond_f rfl ?_
  refine awp_seq ?_
  refine awp_seq ?_
  refine awp_region ?_
  refine r_eqi rfl rfl trivial rfl ?_
  refine r_as rfl trivial rfl ?_
  refine reg_nil ?_
  refine awp_cond_f rfl ?_
  refine awp_seq ?_
  refine awp_region ?_
  refine r_eqi rfl rfl trivial rfl ?_
  refine r_as rfl trivial rfl ?_
  refine reg_nil ?_
  refine awp_cond_f rfl ?_
  refine awp_region ?_
  refine r_eqi rfl rfl trivial rfl ?_
  refine r_as rfl trivial rfl ?_
  refine reg_nil ?_
  refine awp_cond_t rfl ?_
  refine awp_seq ?_
  refine awp_draw mix rfl ?_
  refine r_mv rfl trivial rfl ?_
  first | refine r_nilck rfl trivial rfl ?_ | refine r_nilckr rfl trivial rfl ?_ | refine r_nilckf rfl trivial rfl ?_
  first | refine r_fld fld_37_2 rfl trivial rfl ?_ | refine r_fldr fld_37_2 rfl trivial rfl ?_
  refine r_mv rfl trivial rfl ?_
  first | refine r_nilck rfl trivial rfl ?_ | refine r_nilckr rfl trivial rfl ?_ | refine r_nilckf rfl trivial rfl ?_
  first | refine r_fld fld_37_3 rfl trivial rfl ?_ | refine r_fldr fld_37_3 rfl trivial rfl ?_
  refine r_bslicec sl_58 ty_53 rfl z_53 rfl rfl rfl rfl rfl rfl rfl trivial rfl ?_
  refine r_as rfl trivial rfl ?_
  refine reg_nil ⟨rfl, ?_⟩
  refine awp_ret ?_
  exact finG (nid := []) [(1, 1)] 2 (.cons (.tmp rfl) .nil) rfl rfl rfl (.ren rfl) (.cons rfl (.ren rfl) (.cons rfl (.ren rfl) .nil))
set_option maxRecDepth 100000 in
theorem nums_5 (key slot gen : Int) (good : Bool) (request backend weight : Int) : Fun Tryd.prog 23 [.ptr 0 0 0 0] [(0, some (.cells 37 (fvs (encEv ⟨5, key, slot, gen, good, request, backend, weight⟩))))] [1] (.rw 1 1 0 3) [(1, some (.cells 53 [.ptr 0 0 0 5, .ptr 0 0 0 6, .ptr 0 0 0 7]))] := by
  refine fun_of_awp (rl := [.tmp 2]) Tryd.func23 rfl Tryd.results23 Tryd.ntmps23 1 rfl (by simp) ?_
  intro w0 own0 ρ0 F hz
  refine awp_seq ?_
  refine awp_region ?_
  refine r_as rfl trivial rfl ?_
  refine reg_nil ?_
  refine awp_seq ?_
  refine awp_seq ?_
  refine awp_region ?_
  refine r_mv rfl trivial rfl ?_
  first | refine r_nilck rfl trivial rfl ?_ | refine r_nilckr rfl trivial rfl ?_ | refine r_nilckf rfl trivial rfl ?_
  first | refine r_fld fld_37_0 rfl trivial rfl ?_ | refine r_fldr fld_37_0 rfl trivial rfl ?_
  first | refine r_ld ty_3 rfl rfl rfl trivial rfl ?_ | refine r_ldr ty_3 rfl rfl trivial rfl ?_ | refine r_ldo ty_3 rfl rfl (by assumption) rfl trivial rfl ?_
  refine reg_nil ?_
  refine awp_block ?_
  refine awp_seq ?_
  refine awp_region ?_
  refine r_eqi rfl rfl trivial rfl ?_
  refine r_as rfl trivial rfl ?_
  refine reg_nil ?_
  refine awp_cond_f rfl ?_
  refine awp_seq ?_
  refine awp_seq ?_
  refine awp_region ?_
  refine r_eqi rfl rfl trivial rfl ?_
  refine r_as rfl trivial rfl ?_
  refine reg_nil ?_
  refine awp_cond_f rfl ?_
  refine awp_seq ?_
  refine awp_region ?_
  refine r_eqi rfl rfl trivial rfl ?_
  refine r_as rfl trivial rfl ?_
  refine reg_nil ?_
  refine awp_cond_f rfl ?_
  refine awp_region ?_
  refine r_eqi rfl rfl trivial rfl ?_
  refine r_as rfl trivial rfl ?_
  refine reg_nil ?_
  refine awp_cond_f rfl ?_
  refine awp_seq ?_
  refine awp_region ?_
  refine r_eqi rfl rfl trivial rfl ?_
  refine r_as rfl trivial rfl ?_
  refine reg_nil ?_
  refine awp_cond_t rfl ?_
  refine awp_seq ?_
  refine awp_draw mix rfl ?_
  refine r_mv rfl trivial rfl ?_
  first | refine r_nilck rfl trivial rfl ?_ | refine r_nilckr rfl trivial rfl ?_ | refine r_nilckf rfl trivial rfl ?_
  first | refine r_fld fld_37_5 rfl trivial rfl ?_ | refine r_fldr fld_37_5 rfl trivial rfl ?_
  refine r_mv rfl trivial rfl ?_
  first | refine r_nilck rfl trivial rfl ?_ | refine r_nilckr rfl trivial rfl ?_ | refine r_nilckf rfl trivial rfl ?_
  first | refine r_fld fld_37_6 rfl trivial rfl ?_ | refine r_fldr fld_37_6 rfl trivial rfl ?_
  refine r_mv rfl trivial rfl ?_
  first | refine r_nilck rfl trivial rfl ?_ | refine r_nilckr rfl trivial rfl ?_ | refine r_nilckf rfl trivial rfl ?_
  first | refine r_fld fld_37_7 rfl trivial rfl ?_ | refine r_fldr fld_37_7 rfl trivial rfl ?_
  refine r_bslicec sl_58 ty_53 rfl z_53 rfl rfl rfl rfl rfl rfl rfl trivial rfl ?_
  refine r_as rfl trivial rfl ?_
  refine reg_nil ⟨rfl, ?_⟩
  refine awp_ret ?_
  exact finG (nid := []) [(1, 1)] 2 (.cons (.tmp rfl) .nil) rfl rfl rfl (.ren rfl) (.cons rfl (.ren rfl) (.cons rfl (.ren rfl) .nil))
set_option maxRecDepth 100000 in
theorem nums_6 (key slot gen : Int) (good : Bool) (request backend weight : Int) : Fun Tryd.prog 23 [.ptr 0 0 0 0] [(0, some (.cells 37 (fvs (encEv ⟨6, key, slot, gen, good, request, backend, weight⟩))))] [1] (.rw 1 1 0 2) [(1, some (.cells 53 [.ptr 0 0 0 5, .ptr 0 0 0 6]))] := by
  refine fun_of_awp (rl := [.tmp 2]) Tryd.func23 rfl Tryd.results23 Tryd.ntmps23 1 rfl (by simp) ?_
  intro w0 own0 ρ0 F hz
  refine awp_seq ?_
  refine awp_region ?_
  refine r_as rfl trivial rfl ?_
  refine reg_nil ?_
  refine awp_seq ?_
  refine awp_seq ?_
  refine awp_region ?_
  refine r_mv rfl trivial rfl ?_
  first | refine r_nilck rfl trivial rfl ?_ | refine r_nilckr rfl trivial rfl ?_ | refine r_nilckf rfl trivial rfl ?_
  first | refine r_fld fld_37_0 rfl trivial rfl ?_ | refine r_fldr fld_37_0 rfl trivial rfl ?_
  first | refine r_ld ty_3 rfl rfl rfl trivial rfl ?_ | refine r_ldr ty_3 rfl rfl trivial rfl ?_ | refine r_ldo ty_3 rfl rfl (by assumption) rfl trivial rfl ?_
  refine reg_nil ?_
  refine awp_block ?_
  refine awp_seq ?_
  refine awp_region ?_
  refine r_eqi rfl rfl trivial rfl ?_
  refine r_as rfl trivial rfl ?_
  refine reg_nil ?_
  refine awp_cond_f rfl ?_
  refine awp_seq ?_
  refine awp_seq ?_
  refine awp_region ?_
  refine r_eqi rfl rfl trivial rfl ?_
  refine r_as rfl trivial rfl ?_
  refine reg_nil ?_
  refine awp_cond_f rfl ?_
  refine awp_seq ?_
  refine awp_region ?_
  refine r_eqi rfl rfl trivial rfl ?_
  refine r_as rfl trivial rfl ?_
  refine reg_nil ?_
  refine awp_cond_f rfl ?_
  refine awp_region ?_
  refine r_eqi rfl rfl trivial rfl ?_
  refine r_as rfl trivial rfl ?_
  refine reg_nil ?_
  refine awp_cond_f rfl ?_
  refine awp_seq ?_
  refine awp_region ?_
  refine r_eqi rfl rfl trivial rfl ?_
  refine r_as rfl trivial rfl ?_
  refine reg_nil ?_
  refine awp_cond_f rfl ?_
  refine awp_seq ?_
  refine awp_region ?_
  refine r_eqi rfl rfl trivial rfl ?_
  refine r_as rfl trivial rfl ?_
  refine reg_nil ?_
  refine awp_cond_t rfl ?_
  refine awp_seq ?_
  refine awp_draw mix rfl ?_
  refine r_mv rfl trivial rfl ?_
  first | refine r_nilck rfl trivial rfl ?_ | refine r_nilckr rfl trivial rfl ?_ | refine r_nilckf rfl trivial rfl ?_
  first | refine r_fld fld_37_5 rfl trivial rfl ?_ | refine r_fldr fld_37_5 rfl trivial rfl ?_
  refine r_mv rfl trivial rfl ?_
  first | refine r_nilck rfl trivial rfl ?_ | refine r_nilckr rfl trivial rfl ?_ | refine r_nilckf rfl trivial rfl ?_
  first | refine r_fld fld_37_6 rfl trivial rfl ?_ | refine r_fldr fld_37_6 rfl trivial rfl ?_
  refine r_bslicec sl_58 ty_53 rfl z_53 rfl rfl rfl rfl rfl rfl rfl trivial rfl ?_
  refine r_as rfl trivial rfl ?_
  refine reg_nil ⟨rfl, ?_⟩
  refine awp_ret ?_
  exact finG (nid := []) [(1, 1)] 2 (.cons (.tmp rfl) .nil) rfl rfl rfl (.ren rfl) (.cons rfl (.ren rfl) (.cons rfl (.ren rfl) .nil))
set_option maxRecDepth 100000 in
theorem nums_7 (key slot gen : Int) (good : Bool) (request backend weight : Int) : Fun Tryd.prog 23 [.ptr 0 0 0 0] [(0, some (.cells 37 (fvs (encEv ⟨7, key, slot, gen, good, request, backend, weight⟩))))] [] (lit (.slice none 0 0)) [] := by
  refine fun_of_awp (rl := [.tmp 2]) Tryd.func23 rfl Tryd.results23 Tryd.ntmps23 1 rfl (by simp) ?_
  intro w0 own0 ρ0 F hz
  refine awp_seq ?_
  refine awp_region ?_
  refine r_as rfl trivial rfl ?_
  refine reg_nil ?_
  refine awp_seq ?_
  refine awp_seq ?_
  refine awp_region ?_
  refine r_mv rfl trivial rfl ?_
  first | refine r_nilck rfl trivial rfl ?_ | refine r_nilckr rfl trivial rfl ?_ | refine r_nilckf rfl trivial rfl ?_
  first | refine r_fld fld_37_0 rfl trivial rfl ?_ | refine r_fldr fld_37_0 rfl trivial rfl ?_
  first | refine r_ld ty_3 rfl rfl rfl trivial rfl ?_ | refine r_ldr ty_3 rfl rfl trivial rfl ?_ | refine r_ldo ty_3 rfl rfl (by assumption) rfl trivial rfl ?_
  refine reg_nil ?_
  refine awp_block ?_
  refine awp_seq ?_
  refine awp_region ?_
  refine r_eqi rfl rfl trivial rfl ?_
  refine r_as rfl trivial rfl ?_
  refine reg_nil ?_
  refine awp_cond_f rfl ?_
  refine awp_seq ?_
  refine awp_seq ?_
  refine awp_region ?_
  refine r_eqi rfl rfl trivial rfl ?_
  refine r_as rfl trivial rfl ?_
  refine reg_nil ?_
  refine awp_cond_f rfl ?_
  refine awp_seq ?_
  refine awp_region ?_
  refine r_eqi rfl rfl trivial rfl ?_
  refine r_as rfl trivial rfl ?_
  refine reg_nil ?_
  refine awp_cond_f rfl ?_
  refine awp_region ?_
  refine r_eqi rfl rfl trivial rfl ?_
  refine r_as rfl trivial rfl ?_
  refine reg_nil ?_
  refine awp_cond_f rfl ?_
  refine awp_seq ?_
  refine awp_region ?_
  refine r_eqi rfl rfl trivial rfl ?_
  refine r_as rfl trivial rfl ?_
  refine reg_nil ?_
  refine awp_cond_f rfl ?_
  refine awp_seq ?_
  refine awp_region ?_
  refine r_eqi rfl rfl trivial rfl ?_
  refine r_as rfl trivial rfl ?_
  refine reg_nil ?_
  refine awp_cond_f rfl ?_
  refine awp_skip ?_
  refine awp_seq ?_
  refine awp_region ?_
  refine r_as rfl trivial rfl ?_
  refine reg_nil ?_
  refine awp_ret ?_
  exact finG (nid := []) [] 1 (.cons (.tmp rfl) .nil) rfl rfl rfl (.ren rfl) (.cons rfl (.ren rfl) .nil)
end Go.Uw.D
