/- A helper text of this claim: lemmas of an abstract machine over the model, or walks in it. Own work of an AI agent. -/
import Derived.Test.YtkcjomglcjhkgaaDoorDFacts
set_option linter.unusedVariables false
set_option linter.unusedSimpArgs false
namespace Go.Uw.D
open Go Go.Uw Go.Proofs
structure Ev where
  kind : Int
  key : Int
  slot : Int
  gen : Int
  good : Bool
  request : Int
  backend : Int
  weight : Int
  deriving DecidableEq
def encEv (e : Ev) : List FV := [I e.kind, I e.key, I e.slot, I e.gen, B e.good, I e.request, I e.backend, I e.weight]

set_option maxRecDepth 100000 in
theorem fields_1 (key slot gen : Int) (good : Bool) (request backend weight : Int) (gd : Int) : Fun Tryd.prog 20 [.ptr 0 0 0 0, .ptr 1 0 0 0] [(0, some (.cells 37 (fvs (encEv ⟨1, key, slot, gen, good, request, backend, weight⟩)))), (1, some (.cells 3 [iA gd]))] [2] (.tup [.rw 2 3 0 1, bA true]) [(2, some (.cells 55 [.ptr 0 0 0 1, iA 0, iA 4294967295]))] := by
  refine fun_of_awp (rl := [.tmp 4, .tmp 5]) Tryd.func20 rfl Tryd.results20 Tryd.ntmps20 2 rfl (by simp) ?_
  intro w0 own0 ρ0 F hz
  refine awp_seq ?_
  refine awp_region ?_
  refine r_as rfl trivial rfl ?_
  refine r_as rfl trivial rfl ?_
  refine reg_nil ?_
  refine awp_seq ?_
  refine awp_draw mix rfl ?_
  refine r_mv rfl trivial rfl ?_
  first | refine r_nilck rfl trivial rfl ?_ | refine r_nilckr rfl trivial rfl ?_ | refine r_nilckf rfl trivial rfl ?_
  first | refine r_fld fld_37_2 rfl trivial rfl ?_ | refine r_fldr fld_37_2 rfl trivial rfl ?_
  refine r_build pl_55 z_55 rfl rfl trivial rfl ?_
  refine r_mv rfl trivial rfl ?_
  first | refine r_nilck rfl trivial rfl ?_ | refine r_nilckr rfl trivial rfl ?_ | refine r_nilckf rfl trivial rfl ?_
  first | refine r_fld fld_37_3 rfl trivial rfl ?_ | refine r_fldr fld_37_3 rfl trivial rfl ?_
  refine r_build pl_55 z_55 rfl rfl trivial rfl ?_
  refine r_bslicec sl_49 ty_55 rfl z_55 rfl rfl rfl rfl rfl rfl rfl trivial rfl ?_
  refine r_as rfl trivial rfl ?_
  refine reg_nil ⟨rfl, ?_⟩
  refine awp_seq ?_
  refine awp_draw mix rfl ?_
  refine r_mv rfl trivial rfl ?_
  first | refine r_nilck rfl trivial rfl ?_ | refine r_nilckr rfl trivial rfl ?_ | refine r_nilckf rfl trivial rfl ?_
  first | refine r_fld fld_37_5 rfl trivial rfl ?_ | refine r_fldr fld_37_5 rfl trivial rfl ?_
  refine r_build pl_55 z_55 rfl rfl trivial rfl ?_
  refine r_mv rfl trivial rfl ?_
  first | refine r_nilck rfl trivial rfl ?_ | refine r_nilckr rfl trivial rfl ?_ | refine r_nilckf rfl trivial rfl ?_
  first | refine r_fld fld_37_6 rfl trivial rfl ?_ | refine r_fldr fld_37_6 rfl trivial rfl ?_
  refine r_build pl_55 z_55 rfl rfl trivial rfl ?_
  refine r_bslicec sl_49 ty_55 rfl z_55 rfl rfl rfl rfl rfl rfl rfl trivial rfl ?_
  refine r_as rfl trivial rfl ?_
  refine reg_nil ⟨rfl, ?_⟩
  refine awp_seq ?_
  refine awp_seq ?_
  refine awp_region ?_
  refine r_mv rfl trivial rfl ?_
  first | refine r_nilck rfl trivial rfl ?_ | refine r_nilckr rfl trivial rfl ?_ | refine r_nilckf rfl trivial rfl ?_
  first | refine r_fld fld_37_0 rfl trivial rfl ?_ | refine r_fldr fld_37_0 rfl trivial rfl ?_
  first | refine r_ld ty_3 rfl rfl rfl trivial rfl ?_ | refine r_ldr ty_3 rfl rfl trivial rfl ?_ | refine r_ldo ty_3 rfl rfl (by assumption) rfl trivial rfl ?_
  refine reg_nil ?_
  refine awp_block ?_
  refine awp_seq ?_
  refine awp_region ?_
  refine r_eqi rfl rfl trivial rfl ?_
  refine r_as rfl trivial rfl ?_
  refine reg_nil ?_
  refine awp_cond_t rfl ?_
  refine awp_seq ?_
  refine awp_region ?_
  refine r_mv rfl trivial rfl ?_
  first | refine r_nilck rfl trivial rfl ?_ | refine r_nilckr rfl trivial rfl ?_ | refine r_nilckf rfl trivial rfl ?_
  first | refine r_fld fld_37_1 rfl trivial rfl ?_ | refine r_fldr fld_37_1 rfl trivial rfl ?_
  refine r_build pl_55 z_55 rfl rfl trivial rfl ?_
  refine r_bslicec sl_49 ty_55 rfl z_55 rfl rfl rfl rfl rfl rfl rfl trivial rfl ?_
  refine r_as rfl trivial rfl ?_
  refine r_as rfl trivial rfl ?_
  refine reg_nil ?_
  refine awp_ret ?_
  exact finG (nid := []) [(2, 4)] 3 (.cons (.tmp rfl) (.cons (.tmp rfl) .nil)) rfl rfl rfl (.ren rfl) (.cons rfl (.ren rfl) (.cons rfl (.ren rfl) (.cons rfl (.ren rfl) .nil)))
set_option maxRecDepth 100000 in
theorem fields_2 (key slot gen : Int) (good : Bool) (request backend weight : Int) (gd : Int) : Fun Tryd.prog 20 [.ptr 0 0 0 0, .ptr 1 0 0 0] [(0, some (.cells 37 (fvs (encEv ⟨2, key, slot, gen, good, request, backend, weight⟩)))), (1, some (.cells 3 [iA gd]))] [2] (.tup [.rw 2 3 0 2, bA true]) [(2, some (.cells 55 [.ptr 0 0 0 2, iA 0, iA 39, .ptr 0 0 0 3, iA 0, iA 1048576]))] := by
  refine fun_of_awp (rl := [.tmp 4, .tmp 5]) Tryd.func20 rfl Tryd.results20 Tryd.ntmps20 2 rfl (by simp) ?_
  intro w0 own0 ρ0 F hz
  refine awp_seq ?_
  refine awp_region ?_
  refine r_as rfl trivial rfl ?_
  refine r_as rfl trivial rfl ?_
  refine reg_nil ?_
  refine awp_seq ?_
  refine awp_draw mix rfl ?_
  refine r_mv rfl trivial rfl ?_
  first | refine r_nilck rfl trivial rfl ?_ | refine r_nilckr rfl trivial rfl ?_ | refine r_nilckf rfl trivial rfl ?_
  first | refine r_fld fld_37_2 rfl trivial rfl ?_ | refine r_fldr fld_37_2 rfl trivial rfl ?_
  refine r_build pl_55 z_55 rfl rfl trivial rfl ?_
  refine r_mv rfl trivial rfl ?_
  first | refine r_nilck rfl trivial rfl ?_ | refine r_nilckr rfl trivial rfl ?_ | refine r_nilckf rfl trivial rfl ?_
  first | refine r_fld fld_37_3 rfl trivial rfl ?_ | refine r_fldr fld_37_3 rfl trivial rfl ?_
  refine r_build pl_55 z_55 rfl rfl trivial rfl ?_
  refine r_bslicec sl_49 ty_55 rfl z_55 rfl rfl rfl rfl rfl rfl rfl trivial rfl ?_
  refine r_as rfl trivial rfl ?_
  refine reg_nil ⟨rfl, ?_⟩
  refine awp_seq ?_
  refine awp_draw mix rfl ?_
  refine r_mv rfl trivial rfl ?_
  first | refine r_nilck rfl trivial rfl ?_ | refine r_nilckr rfl trivial rfl ?_ | refine r_nilckf rfl trivial rfl ?_
  first | refine r_fld fld_37_5 rfl trivial rfl ?_ | refine r_fldr fld_37_5 rfl trivial rfl ?_
  refine r_build pl_55 z_55 rfl rfl trivial rfl ?_
  refine r_mv rfl trivial rfl ?_
  first | refine r_nilck rfl trivial rfl ?_ | refine r_nilckr rfl trivial rfl ?_ | refine r_nilckf rfl trivial rfl ?_
  first | refine r_fld fld_37_6 rfl trivial rfl ?_ | refine r_fldr fld_37_6 rfl trivial rfl ?_
  refine r_build pl_55 z_55 rfl rfl trivial rfl ?_
  refine r_bslicec sl_49 ty_55 rfl z_55 rfl rfl rfl rfl rfl rfl rfl trivial rfl ?_
  refine r_as rfl trivial rfl ?_
  refine reg_nil ⟨rfl, ?_⟩
  refine awp_seq ?_
  refine awp_seq ?_
  refine awp_region ?_
  refine r_mv rfl trivial rfl ?_
  first | refine r_nilck rfl trivial rfl ?_ | refine r_nilckr rfl trivial rfl ?_ | refine r_nilckf rfl trivial rfl ?_
  first | refine r_fld fld_37_0 rfl trivial rfl ?_ | refine r_fldr fld_37_0 rfl trivial rfl ?_
  first | refine r_ld ty_3 rfl rfl rfl trivial rfl ?_ | refine r_ldr ty_3 rfl rfl trivial rfl ?_ | refine r_ldo ty_3 rfl rfl (by assumption) rfl trivial rfl ?_
  refine reg_nil ?_
  refine awp_block ?_
  refine awp_seq ?_
  refine awp_region ?_
  refine r_eqi rfl rfl trivial rfl ?_
  refine r_as rfl trivial rfl ?_
  refine reg_nil ?_
  refine awp_cond_f rfl ?_
  refine awp_seq ?_
  refine awp_seq ?_
  refine awp_region ?_
  refine r_eqi rfl rfl trivial rfl ?_
  refine r_as rfl trivial rfl ?_
  refine reg_nil ?_
  refine awp_cond_t rfl ?_
  refine awp_skip ?_
  refine awp_cond_t rfl ?_
  refine awp_seq ?_
  refine awp_region ?_
  refine r_mv rfl trivial rfl ?_
  refine r_as rfl trivial rfl ?_
  refine r_as rfl trivial rfl ?_
  refine reg_nil ?_
  refine awp_ret ?_
  exact finG (nid := []) [(2, 2)] 3 (.cons (.tmp rfl) (.cons (.tmp rfl) .nil)) rfl rfl rfl (.ren rfl) (.cons rfl (.ren rfl) (.cons rfl (.ren rfl) (.cons rfl (.ren rfl) .nil)))
set_option maxRecDepth 100000 in
theorem fields_3 (key slot gen : Int) (good : Bool) (request backend weight : Int) (gd : Int) : Fun Tryd.prog 20 [.ptr 0 0 0 0, .ptr 1 0 0 0] [(0, some (.cells 37 (fvs (encEv ⟨3, key, slot, gen, good, request, backend, weight⟩)))), (1, some (.cells 3 [iA gd]))] [2] (.tup [.rw 2 3 0 2, bA true]) [(2, some (.cells 55 [.ptr 0 0 0 2, iA 0, iA 39, .ptr 0 0 0 3, iA 0, iA 1048576]))] := by
  refine fun_of_awp (rl := [.tmp 4, .tmp 5]) Tryd.func20 rfl Tryd.results20 Tryd.ntmps20 2 rfl (by simp) ?_
  intro w0 own0 ρ0 F hz
  refine awp_seq ?_
  refine awp_region ?_
  refine r_as rfl trivial rfl ?_
  refine r_as rfl trivial rfl ?_
  refine reg_nil ?_
  refine awp_seq ?_
  refine awp_draw mix rfl ?_
  refine r_mv rfl trivial rfl ?_
  first | refine r_nilck rfl trivial rfl ?_ | refine r_nilckr rfl trivial rfl ?_ | refine r_nilckf rfl trivial rfl ?_
  first | refine r_fld fld_37_2 rfl trivial rfl ?_ | refine r_fldr fld_37_2 rfl trivial rfl ?_
  refine r_build pl_55 z_55 rfl rfl trivial rfl ?_
  refine r_mv rfl trivial rfl ?_
  first | refine r_nilck rfl trivial rfl ?_ | refine r_nilckr rfl trivial rfl ?_ | refine r_nilckf rfl trivial rfl ?_
  first | refine r_fld fld_37_3 rfl trivial rfl ?_ | refine r_fldr fld_37_3 rfl trivial rfl ?_
  refine r_build pl_55 z_55 rfl rfl trivial rfl ?_
  refine r_bslicec sl_49 ty_55 rfl z_55 rfl rfl rfl rfl rfl rfl rfl trivial rfl ?_
  refine r_as rfl trivial rfl ?_
  refine reg_nil ⟨rfl, ?_⟩
  refine awp_seq ?_
  refine awp_draw mix rfl ?_
  refine r_mv rfl trivial rfl ?_
  first | refine r_nilck rfl trivial rfl ?_ | refine r_nilckr rfl trivial rfl ?_ | refine r_nilckf rfl trivial rfl ?_
  first | refine r_fld fld_37_5 rfl trivial rfl ?_ | refine r_fldr fld_37_5 rfl trivial rfl ?_
  refine r_build pl_55 z_55 rfl rfl trivial rfl ?_
  refine r_mv rfl trivial rfl ?_
  first | refine r_nilck rfl trivial rfl ?_ | refine r_nilckr rfl trivial rfl ?_ | refine r_nilckf rfl trivial rfl ?_
  first | refine r_fld fld_37_6 rfl trivial rfl ?_ | refine r_fldr fld_37_6 rfl trivial rfl ?_
  refine r_build pl_55 z_55 rfl rfl trivial rfl ?_
  refine r_bslicec sl_49 ty_55 rfl z_55 rfl rfl rfl rfl rfl rfl rfl trivial rfl ?_
  refine r_as rfl trivial rfl ?_
  refine reg_nil ⟨rfl, ?_⟩
  refine awp_seq ?_
  refine awp_seq ?_
  refine awp_region ?_
  refine r_mv rfl trivial rfl ?_
  first | refine r_nilck rfl trivial rfl ?_ | refine r_nilckr rfl trivial rfl ?_ | refine r_nilckf rfl trivial rfl ?_
  first | refine r_fld fld_37_0 rfl trivial rfl ?_ | refine r_fldr fld_37_0 rfl trivial rfl ?_
  first | refine r_ld ty_3 rfl rfl rfl trivial rfl ?_ | refine r_ldr ty_3 rfl rfl trivial rfl ?_ | refine r_ldo ty_3 rfl rfl (by assumption) rfl trivial rfl ?_
  refine reg_nil ?_
  refine awp_block ?_
  refine awp_seq ?_
  refine awp_region ?_
  refine r_eqi rfl rfl trivial rfl ?_
  refine r_as rfl trivial rfl ?_
  refine reg_nil ?_
  refine awp_cond_f rfl ?_
  refine awp_seq ?_
  refine awp_seq ?_
  refine awp_region ?_
  refine r_eqi rfl rfl trivial rfl ?_
  refine r_as rfl trivial rfl ?_
  refine reg_nil ?_
  refine awp_cond_f rfl ?_
  refine awp_region ?_
  refine r_eqi rfl rfl trivial rfl ?_
  refine r_as rfl trivial rfl ?_
  refine reg_nil ?_
  refine awp_cond_t rfl ?_
  refine awp_seq ?_
  refine awp_region ?_
  refine r_mv rfl trivial rfl ?_
  refine r_as rfl trivial rfl ?_
  refine r_as rfl trivial rfl ?_
  refine reg_nil ?_
  refine awp_ret ?_
  exact finG (nid := []) [(2, 2)] 3 (.cons (.tmp rfl) (.cons (.tmp rfl) .nil)) rfl rfl rfl (.ren rfl) (.cons rfl (.ren rfl) (.cons rfl (.ren rfl) (.cons rfl (.ren rfl) .nil)))
set_option maxRecDepth 100000 in
theorem fields_4 (key slot gen : Int) (good : Bool) (request backend weight : Int) (gd : Int) : Fun Tryd.prog 20 [.ptr 0 0 0 0, .ptr 1 0 0 0] [(0, some (.cells 37 (fvs (encEv ⟨4, key, slot, gen, good, request, backend, weight⟩)))), (1, some (.cells 3 [iA gd]))] [2] (.tup [.rw 2 3 0 3, bA true]) [(2, some (.cells 55 [.ptr 0 0 0 2, iA 0, iA 39, .ptr 0 0 0 3, iA 0, iA 1048576, .ptr 1 0 0 0, iA 0, iA 1]))] := by
  refine fun_of_awp (rl := [.tmp 4, .tmp 5]) Tryd.func20 rfl Tryd.results20 Tryd.ntmps20 2 rfl (by simp) ?_
  intro w0 own0 ρ0 F hz
  refine awp_seq ?_
  refine awp_region ?_
  refine r_as rfl trivial rfl ?_
  refine r_as rfl trivial rfl ?_
  refine reg_nil ?_
  refine awp_seq ?_
  refine awp_draw mix rfl ?_
  refine r_mv rfl trivial rfl ?_
  first | refine r_nilck rfl trivial rfl ?_ | refine r_nilckr rfl trivial rfl ?_ | refine r_nilckf rfl trivial rfl ?_
  first | refine r_fld fld_37_2 rfl trivial rfl ?_ | refine r_fldr fld_37_2 rfl trivial rfl ?_
  refine r_build pl_55 z_55 rfl rfl trivial rfl ?_
  refine r_mv rfl trivial rfl ?_
  first | refine r_nilck rfl trivial rfl ?_ | refine r_nilckr rfl trivial rfl ?_ | refine r_nilckf rfl trivial rfl ?_
  first | refine r_fld fld_37_3 rfl trivial rfl ?_ | refine r_fldr fld_37_3 rfl trivial rfl ?_
  refine r_build pl_55 z_55 rfl rfl trivial rfl ?_
  refine r_bslicec sl_49 ty_55 rfl z_55 rfl rfl rfl rfl rfl rfl rfl trivial rfl ?_
  refine r_as rfl trivial rfl ?_
  refine reg_nil ⟨rfl, ?_⟩
  refine awp_seq ?_
  refine awp_draw mix rfl ?_
  refine r_mv rfl trivial rfl ?_
  first | refine r_nilck rfl trivial rfl ?_ | refine r_nilckr rfl trivial rfl ?_ | refine r_nilckf rfl trivial rfl ?_
  first | refine r_fld fld_37_5 rfl trivial rfl ?_ | refine r_fldr fld_37_5 rfl trivial rfl ?_
  refine r_build pl_55 z_55 rfl rfl trivial rfl ?_
  refine r_mv rfl trivial rfl ?_
  first | refine r_nilck rfl trivial rfl ?_ | refine r_nilckr rfl trivial rfl ?_ | refine r_nilckf rfl trivial rfl ?_
  first | refine r_fld fld_37_6 rfl trivial rfl ?_ | refine r_fldr fld_37_6 rfl trivial rfl ?_
  refine r_build pl_55 z_55 rfl rfl trivial rfl ?_
  refine r_bslicec sl_49 ty_55 rfl z_55 rfl rfl rfl rfl rfl rfl rfl trivial rfl ?_
  refine r_as rfl trivial rfl ?_
  refine reg_nil ⟨rfl, ?_⟩
  refine awp_seq ?_
  refine awp_seq ?_
  refine awp_region ?_
  refine r_mv rfl trivial rfl ?_
  first | refine r_nilck rfl trivial rfl ?_ | refine r_nilckr rfl trivial rfl ?_ | refine r_nilckf rfl trivial rfl ?_
  first | refine r_fld fld_37_0 rfl trivial rfl ?_ | refine r_fldr fld_37_0 rfl trivial rfl ?_
  first | refine r_ld ty_3 rfl rfl rfl trivial rfl ?_ | refine r_ldr ty_3 rfl rfl trivial rfl ?_ | refine r_ldo ty_3 rfl rfl (by assumption) rfl trivial rfl ?_
  refine reg_nil ?_
  refine awp_block ?_
  refine awp_seq ?_
  refine awp_region ?_
  refine r_eqi rfl rfl trivial rfl ?_
  refine r_as rfl trivial rfl ?_
  refine reg_nil ?_
  refine awp_cond_f rfl ?_
  refine awp_seq ?_
  refine awp_seq ?_
  refine awp_region ?_
  refine r_eqi rfl rfl trivial rfl ?_
  refine r_as rfl trivial rfl ?_
  refine reg_nil ?_
  refine awp_cond_f rfl ?_
  refine awp_region ?_
  refine r_eqi rfl rfl trivial rfl ?_
  refine r_as rfl trivial rfl ?_
  refine reg_nil ?_
  refine awp_cond_f rfl ?_
  refine awp_seq ?_
  refine awp_region ?_
  refine r_eqi rfl rfl trivial rfl ?_
  refine r_as rfl trivial rfl ?_
  refine reg_nil ?_
  refine awp_cond_t rfl ?_
  refine awp_seq ?_
  refine awp_region ?_
  refine r_mv rfl trivial rfl ?_
  refine r_mv rfl trivial rfl ?_
  refine r_build pl_55 z_55 rfl rfl trivial rfl ?_
  refine r_bslicec sl_49 ty_55 rfl z_55 rfl rfl rfl rfl rfl rfl rfl trivial rfl ?_
  refine r_appc sl_49 ty_55 rfl z_55 rfl rfl rfl rfl rfl rfl (by decide) (by decide) trivial rfl ?_
  refine r_as rfl trivial rfl ?_
  refine r_as rfl trivial rfl ?_
  refine reg_nil ?_
  refine awp_ret ?_
  exact finG (nid := []) [(2, 5)] 3 (.cons (.tmp rfl) (.cons (.tmp rfl) .nil)) rfl rfl rfl (.ren rfl) (.cons rfl (.ren rfl) (.cons rfl (.ren rfl) (.cons rfl (.ren rfl) .nil)))
set_option maxRecDepth 100000 in
theorem fields_5 (key slot gen : Int) (good : Bool) (request backend weight : Int) (gd : Int) : Fun Tryd.prog 20 [.ptr 0 0 0 0, .ptr 1 0 0 0] [(0, some (.cells 37 (fvs (encEv ⟨5, key, slot, gen, good, request, backend, weight⟩)))), (1, some (.cells 3 [iA gd]))] [2] (.tup [.rw 2 3 0 3, bA true]) [(2, some (.cells 55 [.ptr 0 0 0 5, iA 0, iA 1048576, .ptr 0 0 0 6, iA 0, iA 11, .ptr 0 0 0 7, iA 1, iA 8]))] := by
  refine fun_of_awp (rl := [.tmp 4, .tmp 5]) Tryd.func20 rfl Tryd.results20 Tryd.ntmps20 2 rfl (by simp) ?_
  intro w0 own0 ρ0 F hz
  refine awp_seq ?_
  refine awp_region ?_
  refine r_as rfl trivial rfl ?_
  refine r_as rfl trivial rfl ?_
  refine reg_nil ?_
  refine awp_seq ?_
  refine awp_draw mix rfl ?_
  refine r_mv rfl trivial rfl ?_
  first | refine r_nilck rfl trivial rfl ?_ | refine r_nilckr rfl trivial rfl ?_ | refine r_nilckf rfl trivial rfl ?_
  first | refine r_fld fld_37_2 rfl trivial rfl ?_ | refine r_fldr fld_37_2 rfl trivial rfl ?_
  refine r_build pl_55 z_55 rfl rfl trivial rfl ?_
  refine r_mv rfl trivial rfl ?_
  first | refine r_nilck rfl trivial rfl ?_ | refine r_nilckr rfl trivial rfl ?_ | refine r_nilckf rfl trivial rfl ?_
  first | refine r_fld fld_37_3 rfl trivial rfl ?_ | refine r_fldr fld_37_3 rfl trivial rfl ?_
  refine r_build pl_55 z_55 rfl rfl trivial rfl ?_
  refine r_bslicec sl_49 ty_55 rfl z_55 rfl rfl rfl rfl rfl rfl rfl trivial rfl ?_
  refine r_as rfl trivial rfl ?_
  refine reg_nil ⟨rfl, ?_⟩
  refine awp_seq ?_
  refine awp_draw mix rfl ?_
  refine r_mv rfl trivial rfl ?_
  first | refine r_nilck rfl trivial rfl ?_ | refine r_nilckr rfl trivial rfl ?_ | refine r_nilckf rfl trivial rfl ?_
  first | refine r_fld fld_37_5 rfl trivial rfl ?_ | refine r_fldr fld_37_5 rfl trivial rfl ?_
  refine r_build pl_55 z_55 rfl rfl trivial rfl ?_
  refine r_mv rfl trivial rfl ?_
  first | refine r_nilck rfl trivial rfl ?_ | refine r_nilckr rfl trivial rfl ?_ | refine r_nilckf rfl trivial rfl ?_
  first | refine r_fld fld_37_6 rfl trivial rfl ?_ | refine r_fldr fld_37_6 rfl trivial rfl ?_
  refine r_build pl_55 z_55 rfl rfl trivial rfl ?_
  refine r_bslicec sl_49 ty_55 rfl z_55 rfl rfl rfl rfl rfl rfl rfl trivial rfl ?_
  refine r_as rfl trivial rfl ?_
  refine reg_nil ⟨rfl, ?_⟩
  refine awp_seq ?_
  refine awp_seq ?_
  refine awp_region ?_
  refine r_mv rfl trivial rfl ?_
  first | refine r_nilck rfl trivial rfl ?_ | refine r_nilckr rfl trivial rfl ?_ | refine r_nilckf rfl trivial rfl ?_
  first | refine r_fld fld_37_0 rfl trivial rfl ?_ | refine r_fldr fld_37_0 rfl trivial rfl ?_
  first | refine r_ld ty_3 rfl rfl rfl trivial rfl ?_ | refine r_ldr ty_3 rfl rfl trivial rfl ?_ | refine r_ldo ty_3 rfl rfl (by assumption) rfl trivial rfl ?_
  refine reg_nil ?_
  refine awp_block ?_
  refine awp_seq ?_
  refine awp_region ?_
  refine r_eqi rfl rfl trivial rfl ?_
  refine r_as rfl trivial rfl ?_
  refine reg_nil ?_
  refine awp_cond_f rfl ?_
  refine awp_seq ?_
  refine awp_seq ?_
  refine awp_region ?_
  refine r_eqi rfl rfl trivial rfl ?_
  refine r_as rfl trivial rfl ?_
  refine reg_nil ?_
  refine awp_cond_f rfl ?_
  refine awp_region ?_
  refine r_eqi rfl rfl trivial rfl ?_
  refine r_as rfl trivial rfl ?_
  refine reg_nil ?_
  refine awp_cond_f rfl ?_
  refine awp_seq ?_
  refine awp_region ?_
  refine r_eqi rfl rfl trivial rfl ?_
  refine r_as rfl trivial rfl ?_
  refine reg_nil ?_
  refine awp_cond_f rfl ?_
  refine awp_seq ?_
  refine awp_region ?_
  refine r_eqi rfl rfl trivial rfl ?_
  refine r_as rfl trivial rfl ?_
  refine reg_nil ?_
  refine awp_cond_t rfl ?_
  refine awp_seq ?_
  refine awp_region ?_
  refine r_mv rfl trivial rfl ?_
  refine r_mv rfl trivial rfl ?_
  first | refine r_nilck rfl trivial rfl ?_ | refine r_nilckr rfl trivial rfl ?_ | refine r_nilckf rfl trivial rfl ?_
  first | refine r_fld fld_37_7 rfl trivial rfl ?_ | refine r_fldr fld_37_7 rfl trivial rfl ?_
  refine r_build pl_55 z_55 rfl rfl trivial rfl ?_
  refine r_bslicec sl_49 ty_55 rfl z_55 rfl rfl rfl rfl rfl rfl rfl trivial rfl ?_
  refine r_appc sl_49 ty_55 rfl z_55 rfl rfl rfl rfl rfl rfl (by decide) (by decide) trivial rfl ?_
  refine r_as rfl trivial rfl ?_
  refine r_as rfl trivial rfl ?_
  refine reg_nil ?_
  refine awp_ret ?_
  exact finG (nid := []) [(2, 5)] 3 (.cons (.tmp rfl) (.cons (.tmp rfl) .nil)) rfl rfl rfl (.ren rfl) (.cons rfl (.ren rfl) (.cons rfl (.ren rfl) (.cons rfl (.ren rfl) .nil)))
set_option maxRecDepth 100000 in
theorem fields_6 (key slot gen : Int) (good : Bool) (request backend weight : Int) (gd : Int) : Fun Tryd.prog 20 [.ptr 0 0 0 0, .ptr 1 0 0 0] [(0, some (.cells 37 (fvs (encEv ⟨6, key, slot, gen, good, request, backend, weight⟩)))), (1, some (.cells 3 [iA gd]))] [2] (.tup [.rw 2 3 0 2, bA true]) [(2, some (.cells 55 [.ptr 0 0 0 5, iA 0, iA 1048576, .ptr 0 0 0 6, iA 0, iA 11]))] := by
  refine fun_of_awp (rl := [.tmp 4, .tmp 5]) Tryd.func20 rfl Tryd.results20 Tryd.ntmps20 2 rfl (by simp) ?_
  intro w0 own0 ρ0 F hz
  refine awp_seq ?_
  refine awp_region ?_
  refine r_as rfl trivial rfl ?_
  refine r_as rfl trivial rfl ?_
  refine reg_nil ?_
  refine awp_seq ?_
  refine awp_draw mix rfl ?_
  refine r_mv rfl trivial rfl ?_
  first | refine r_nilck rfl trivial rfl ?_ | refine r_nilckr rfl trivial rfl ?_ | refine r_nilckf rfl trivial rfl ?_
  first | refine r_fld fld_37_2 rfl trivial rfl ?_ | refine r_fldr fld_37_2 rfl trivial rfl ?_
  refine r_build pl_55 z_55 rfl rfl trivial rfl ?_
  refine r_mv rfl trivial rfl ?_
  first | refine r_nilck rfl trivial rfl ?_ | refine r_nilckr rfl trivial rfl ?_ | refine r_nilckf rfl trivial rfl ?_
  first | refine r_fld fld_37_3 rfl trivial rfl ?_ | refine r_fldr fld_37_3 rfl trivial rfl ?_
  refine r_build pl_55 z_55 rfl rfl trivial rfl ?_
  refine r_bslicec sl_49 ty_55 rfl z_55 rfl rfl rfl rfl rfl rfl rfl trivial rfl ?_
  refine r_as rfl trivial rfl ?_
  refine reg_nil ⟨rfl, ?_⟩
  refine awp_seq ?_
  refine awp_draw mix rfl ?_
  refine r_mv rfl trivial rfl ?_
  first | refine r_nilck rfl trivial rfl ?_ | refine r_nilckr rfl trivial rfl ?_ | refine r_nilckf rfl trivial rfl ?_
  first | refine r_fld fld_37_5 rfl trivial rfl ?_ | refine r_fldr fld_37_5 rfl trivial rfl ?_
  refine r_build pl_55 z_55 rfl rfl trivial rfl ?_
  refine r_mv rfl trivial rfl ?_
  first | refine r_nilck rfl trivial rfl ?_ | refine r_nilckr rfl trivial rfl ?_ | refine r_nilckf rfl trivial rfl ?_
  first | refine r_fld fld_37_6 rfl trivial rfl ?_ | refine r_fldr fld_37_6 rfl trivial rfl ?_
  refine r_build pl_55 z_55 rfl rfl trivial rfl ?_
  refine r_bslicec sl_49 ty_55 rfl z_55 rfl rfl rfl rfl rfl rfl rfl trivial rfl ?_
  refine r_as rfl trivial rfl ?_
  refine reg_nil ⟨rfl, ?_⟩
  refine awp_seq ?_
  refine awp_seq ?_
  refine awp_region ?_
  refine r_mv rfl trivial rfl ?_
  first | refine r_nilck rfl trivial rfl ?_ | refine r_nilckr rfl trivial rfl ?_ | refine r_nilckf rfl trivial rfl ?_
  first | refine r_fld fld_37_0 rfl trivial rfl ?_ | refine r_fldr fld_37_0 rfl trivial rfl ?_
  first | refine r_ld ty_3 rfl rfl rfl trivial rfl ?_ | refine r_ldr ty_3 rfl rfl trivial rfl ?_ | refine r_ldo ty_3 rfl rfl (by assumption) rfl trivial rfl ?_
  refine reg_nil ?_
  refine awp_block ?_
  refine awp_seq ?_
  refine awp_region ?_
  refine r_eqi rfl rfl trivial rfl ?_
  refine r_as rfl trivial rfl ?_
  refine reg_nil ?_
  refine awp_cond_f rfl ?_
  refine awp_seq ?_
  refine awp_seq ?_
  refine awp_region ?_
  refine r_eqi rfl rfl trivial rfl ?_
  refine r_as rfl trivial rfl ?_
  refine reg_nil ?_
  refine awp_cond_f rfl ?_
  refine awp_region ?_
  refine r_eqi rfl rfl trivial rfl ?_
  refine r_as rfl trivial rfl ?_
  refine reg_nil ?_
  refine awp_cond_f rfl ?_
  refine awp_seq ?_
  refine awp_region ?_
  refine r_eqi rfl rfl trivial rfl ?_
  refine r_as rfl trivial rfl ?_
  refine reg_nil ?_
  refine awp_cond_f rfl ?_
  refine awp_seq ?_
  refine awp_region ?_
  refine r_eqi rfl rfl trivial rfl ?_
  refine r_as rfl trivial rfl ?_
  refine reg_nil ?_
  refine awp_cond_f rfl ?_
  refine awp_seq ?_
  refine awp_region ?_
  refine r_eqi rfl rfl trivial rfl ?_
  refine r_as rfl trivial rfl ?_
  refine reg_nil ?_
  refine awp_cond_t rfl ?_
  refine awp_seq ?_
  refine awp_region ?_
  refine r_mv rfl trivial rfl ?_
  refine r_as rfl trivial rfl ?_
  refine r_as rfl trivial rfl ?_
  refine reg_nil ?_
  refine awp_ret ?_
  exact finG (nid := []) [(2, 3)] 3 (.cons (.tmp rfl) (.cons (.tmp rfl) .nil)) rfl rfl rfl (.ren rfl) (.cons rfl (.ren rfl) (.cons rfl (.ren rfl) (.cons rfl (.ren rfl) .nil)))
set_option maxRecDepth 100000 in
theorem fields_7 (key slot gen : Int) (good : Bool) (request backend weight : Int) (gd : Int) : Fun Tryd.prog 20 [.ptr 0 0 0 0, .ptr 1 0 0 0] [(0, some (.cells 37 (fvs (encEv ⟨7, key, slot, gen, good, request, backend, weight⟩)))), (1, some (.cells 3 [iA gd]))] [] (.tup [lit (.slice none 0 0), bA true]) [] := by
  refine fun_of_awp (rl := [.tmp 4, .tmp 5]) Tryd.func20 rfl Tryd.results20 Tryd.ntmps20 2 rfl (by simp) ?_
  intro w0 own0 ρ0 F hz
  refine awp_seq ?_
  refine awp_region ?_
  refine r_as rfl trivial rfl ?_
  refine r_as rfl trivial rfl ?_
  refine reg_nil ?_
  refine awp_seq ?_
  refine awp_draw mix rfl ?_
  refine r_mv rfl trivial rfl ?_
  first | refine r_nilck rfl trivial rfl ?_ | refine r_nilckr rfl trivial rfl ?_ | refine r_nilckf rfl trivial rfl ?_
  first | refine r_fld fld_37_2 rfl trivial rfl ?_ | refine r_fldr fld_37_2 rfl trivial rfl ?_
  refine r_build pl_55 z_55 rfl rfl trivial rfl ?_
  refine r_mv rfl trivial rfl ?_
  first | refine r_nilck rfl trivial rfl ?_ | refine r_nilckr rfl trivial rfl ?_ | refine r_nilckf rfl trivial rfl ?_
  first | refine r_fld fld_37_3 rfl trivial rfl ?_ | refine r_fldr fld_37_3 rfl trivial rfl ?_
  refine r_build pl_55 z_55 rfl rfl trivial rfl ?_
  refine r_bslicec sl_49 ty_55 rfl z_55 rfl rfl rfl rfl rfl rfl rfl trivial rfl ?_
  refine r_as rfl trivial rfl ?_
  refine reg_nil ⟨rfl, ?_⟩
  refine awp_seq ?_
  refine awp_draw mix rfl ?_
  refine r_mv rfl trivial rfl ?_
  first | refine r_nilck rfl trivial rfl ?_ | refine r_nilckr rfl trivial rfl ?_ | refine r_nilckf rfl trivial rfl ?_
  first | refine r_fld fld_37_5 rfl trivial rfl ?_ | refine r_fldr fld_37_5 rfl trivial rfl ?_
  refine r_build pl_55 z_55 rfl rfl trivial rfl ?_
  refine r_mv rfl trivial rfl ?_
  first | refine r_nilck rfl trivial rfl ?_ | refine r_nilckr rfl trivial rfl ?_ | refine r_nilckf rfl trivial rfl ?_
  first | refine r_fld fld_37_6 rfl trivial rfl ?_ | refine r_fldr fld_37_6 rfl trivial rfl ?_
  refine r_build pl_55 z_55 rfl rfl trivial rfl ?_
  refine r_bslicec sl_49 ty_55 rfl z_55 rfl rfl rfl rfl rfl rfl rfl trivial rfl ?_
  refine r_as rfl trivial rfl ?_
  refine reg_nil ⟨rfl, ?_⟩
  refine awp_seq ?_
  refine awp_seq ?_
  refine awp_region ?_
  refine r_mv rfl trivial rfl ?_
  first | refine r_nilck rfl trivial rfl ?_ | refine r_nilckr rfl trivial rfl ?_ | refine r_nilckf rfl trivial rfl ?_
  first | refine r_fld fld_37_0 rfl trivial rfl ?_ | refine r_fldr fld_37_0 rfl trivial rfl ?_
  first | refine r_ld ty_3 rfl rfl rfl trivial rfl ?_ | refine r_ldr ty_3 rfl rfl trivial rfl ?_ | refine r_ldo ty_3 rfl rfl (by assumption) rfl trivial rfl ?_
  refine reg_nil ?_
  refine awp_block ?_
  refine awp_seq ?_
  refine awp_region ?_
  refine r_eqi rfl rfl trivial rfl ?_
  refine r_as rfl trivial rfl ?_
  refine reg_nil ?_
  refine awp_cond_f rfl ?_
  refine awp_seq ?_
  refine awp_seq ?_
  refine awp_region ?_
  refine r_eqi rfl rfl trivial rfl ?_
  refine r_as rfl trivial rfl ?_
  refine reg_nil ?_
  refine awp_cond_f rfl ?_
  refine awp_region ?_
  refine r_eqi rfl rfl trivial rfl ?_
  refine r_as rfl trivial rfl ?_
  refine reg_nil ?_
  refine awp_cond_f rfl ?_
  refine awp_seq ?_
  refine awp_region ?_
  refine r_eqi rfl rfl trivial rfl ?_
  refine r_as rfl trivial rfl ?_
  refine reg_nil ?_
  refine awp_cond_f rfl ?_
  refine awp_seq ?_
  refine awp_region ?_
  refine r_eqi rfl rfl trivial rfl ?_
  refine r_as rfl trivial rfl ?_
  refine reg_nil ?_
  refine awp_cond_f rfl ?_
  refine awp_seq ?_
  refine awp_region ?_
  refine r_eqi rfl rfl trivial rfl ?_
  refine r_as rfl trivial rfl ?_
  refine reg_nil ?_
  refine awp_cond_f rfl ?_
  refine awp_seq ?_
  refine awp_region ?_
  refine r_eqi rfl rfl trivial rfl ?_
  refine r_as rfl trivial rfl ?_
  refine reg_nil ?_
  refine awp_cond_t rfl ?_
  refine awp_seq ?_
  refine awp_region ?_
  refine r_as rfl trivial rfl ?_
  refine r_as rfl trivial rfl ?_
  refine reg_nil ?_
  refine awp_ret ?_
  exact finG (nid := []) [] 2 (.cons (.tmp rfl) (.cons (.tmp rfl) .nil)) rfl rfl rfl (.ren rfl) (.cons rfl (.ren rfl) (.cons rfl (.ren rfl) .nil))
set_option maxRecDepth 100000 in
theorem fields_0 (e : Ev) (gd : Int) (hk : e.kind < 1 ∨ 7 < e.kind) : Fun Tryd.prog 20 [.ptr 0 0 0 0, .ptr 1 0 0 0] [(0, some (.cells 37 (fvs (encEv e)))), (1, some (.cells 3 [iA gd]))] [] (.tup [lit (.slice none 0 0), bA false]) [] := by
  refine fun_of_awp (rl := [.tmp 4, .tmp 5]) Tryd.func20 rfl Tryd.results20 Tryd.ntmps20 2 rfl (by simp) ?_
  intro w0 own0 ρ0 F hz
  refine awp_seq ?_
  refine awp_region ?_
  refine r_as rfl trivial rfl ?_
  refine r_as rfl trivial rfl ?_
  refine reg_nil ?_
  refine awp_seq ?_
  refine awp_draw mix rfl ?_
  refine r_mv rfl trivial rfl ?_
  first | refine r_nilck rfl trivial rfl ?_ | refine r_nilckr rfl trivial rfl ?_ | refine r_nilckf rfl trivial rfl ?_
  first | refine r_fld fld_37_2 rfl trivial rfl ?_ | refine r_fldr fld_37_2 rfl trivial rfl ?_
  refine r_build pl_55 z_55 rfl rfl trivial rfl ?_
  refine r_mv rfl trivial rfl ?_
  first | refine r_nilck rfl trivial rfl ?_ | refine r_nilckr rfl trivial rfl ?_ | refine r_nilckf rfl trivial rfl ?_
  first | refine r_fld fld_37_3 rfl trivial rfl ?_ | refine r_fldr fld_37_3 rfl trivial rfl ?_
  refine r_build pl_55 z_55 rfl rfl trivial rfl ?_
  refine r_bslicec sl_49 ty_55 rfl z_55 rfl rfl rfl rfl rfl rfl rfl trivial rfl ?_
  refine r_as rfl trivial rfl ?_
  refine reg_nil ⟨rfl, ?_⟩
  refine awp_seq ?_
  refine awp_draw mix rfl ?_
  refine r_mv rfl trivial rfl ?_
  first | refine r_nilck rfl trivial rfl ?_ | refine r_nilckr rfl trivial rfl ?_ | refine r_nilckf rfl trivial rfl ?_
  first | refine r_fld fld_37_5 rfl trivial rfl ?_ | refine r_fldr fld_37_5 rfl trivial rfl ?_
  refine r_build pl_55 z_55 rfl rfl trivial rfl ?_
  refine r_mv rfl trivial rfl ?_
  first | refine r_nilck rfl trivial rfl ?_ | refine r_nilckr rfl trivial rfl ?_ | refine r_nilckf rfl trivial rfl ?_
  first | refine r_fld fld_37_6 rfl trivial rfl ?_ | refine r_fldr fld_37_6 rfl trivial rfl ?_
  refine r_build pl_55 z_55 rfl rfl trivial rfl ?_
  refine r_bslicec sl_49 ty_55 rfl z_55 rfl rfl rfl rfl rfl rfl rfl trivial rfl ?_
  refine r_as rfl trivial rfl ?_
  refine reg_nil ⟨rfl, ?_⟩
  refine awp_seq ?_
  refine awp_seq ?_
  refine awp_region ?_
  refine r_mv rfl trivial rfl ?_
  first | refine r_nilck rfl trivial rfl ?_ | refine r_nilckr rfl trivial rfl ?_ | refine r_nilckf rfl trivial rfl ?_
  first | refine r_fld fld_37_0 rfl trivial rfl ?_ | refine r_fldr fld_37_0 rfl trivial rfl ?_
  first | refine r_ld ty_3 rfl rfl rfl trivial rfl ?_ | refine r_ldr ty_3 rfl rfl trivial rfl ?_ | refine r_ldo ty_3 rfl rfl (by assumption) rfl trivial rfl ?_
  refine reg_nil ?_
  refine awp_block ?_
  refine awp_seq ?_
  refine awp_region ?_
  refine r_eqi rfl rfl trivial rfl ?_
  refine r_as rfl trivial rfl ?_
  refine reg_nil ?_
  refine awp_cond_no rfl (by omega) ?_
  refine awp_seq ?_
  refine awp_seq ?_
  refine awp_region ?_
  refine r_eqi rfl rfl trivial rfl ?_
  refine r_as rfl trivial rfl ?_
  refine reg_nil ?_
  refine awp_cond_no rfl (by omega) ?_
  refine awp_region ?_
  refine r_eqi rfl rfl trivial rfl ?_
  refine r_as rfl trivial rfl ?_
  refine reg_nil ?_
  refine awp_cond_no rfl (by omega) ?_
  refine awp_seq ?_
  refine awp_region ?_
  refine r_eqi rfl rfl trivial rfl ?_
  refine r_as rfl trivial rfl ?_
  refine reg_nil ?_
  refine awp_cond_no rfl (by omega) ?_
  refine awp_seq ?_
  refine awp_region ?_
  refine r_eqi rfl rfl trivial rfl ?_
  refine r_as rfl trivial rfl ?_
  refine reg_nil ?_
  refine awp_cond_no rfl (by omega) ?_
  refine awp_seq ?_
  refine awp_region ?_
  refine r_eqi rfl rfl trivial rfl ?_
  refine r_as rfl trivial rfl ?_
  refine reg_nil ?_
  refine awp_cond_no rfl (by omega) ?_
  refine awp_seq ?_
  refine awp_region ?_
  refine r_eqi rfl rfl trivial rfl ?_
  refine r_as rfl trivial rfl ?_
  refine reg_nil ?_
  refine awp_cond_no rfl (by omega) ?_
  refine awp_skip ?_
  refine awp_seq ?_
  refine awp_region ?_
  refine r_as rfl trivial rfl ?_
  refine r_as rfl trivial rfl ?_
  refine reg_nil ?_
  refine awp_ret ?_
  exact finG (nid := []) [] 2 (.cons (.tmp rfl) (.cons (.tmp rfl) .nil)) rfl rfl rfl (.ren rfl) (.cons rfl (.ren rfl) (.cons rfl (.ren rfl) .nil))
end Go.Uw.D
