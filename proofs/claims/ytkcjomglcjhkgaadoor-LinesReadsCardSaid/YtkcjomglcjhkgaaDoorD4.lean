/- A helper text of this claim: lemmas of an abstract machine over the model, or walks in it. Own work of an AI agent. -/
import Derived.Test.YtkcjomglcjhkgaaDoorD3
set_option linter.unusedVariables false
set_option linter.unusedSimpArgs false
namespace Go.Uw.D
open Go Go.Uw Go.Proofs
def intsF (l : List Int) : List (List FV) := l.map fun n => [I n]

set_option maxRecDepth 100000 in
theorem numbers_1 (key slot gen : Int) (good : Bool) (request backend weight : Int) : Fun Tryd.prog 26 [.agg (fvs (encEv ⟨1, key, slot, gen, good, request, backend, weight⟩))] [] [] (.tup [.fv (.ro 1 (intsF [key])), .fv (.ro 1 (intsF [0])), .fv (.ro 1 (intsF [4294967295])), bA true]) [] := by
  refine fun_of_awp (rl := [.tmp 2, .tmp 3, .tmp 4, .tmp 5]) Tryd.func26 rfl Tryd.results26 Tryd.ntmps26 0 rfl (by simp) ?_
  intro w0 own0 ρ0 F hz
  refine awp_seq ?_
  refine awp_region ?_
  refine r_box rfl rfl rfl trivial rfl ?_
  refine r_as rfl trivial rfl ?_
  refine r_as rfl trivial rfl ?_
  refine r_as rfl trivial rfl ?_
  refine r_as rfl trivial rfl ?_
  refine reg_nil ?_
  refine awp_seq ?_
  refine awp_region ?_
  refine r_as rfl trivial rfl ?_
  refine reg_nil ?_
  refine awp_seq ?_
  refine awp_seq ?_
  refine awp_region ?_
  first | refine r_fld fld_37_4 rfl trivial rfl ?_ | refine r_fldr fld_37_4 rfl trivial rfl ?_
  first | refine r_ld ty_4 rfl rfl rfl trivial rfl ?_ | refine r_ldr ty_4 rfl rfl trivial rfl ?_ | refine r_ldo ty_4 rfl rfl (by assumption) rfl trivial rfl ?_
  refine reg_nil ?_
  first | refine awp_cond_dec rfl (fun h1 => ?_) (fun h1 => ?_) | refine awp_cond rfl (fun h1 => ?_) (fun h1 => ?_)
  · refine awp_region ?_
    refine r_as rfl trivial rfl ?_
    refine reg_nil ?_
    refine awp_seq ?_
    refine awp_seq ?_
    refine awp_region ?_
    first | refine r_fld fld_37_0 rfl trivial rfl ?_ | refine r_fldr fld_37_0 rfl trivial rfl ?_
    first | refine r_ld ty_3 rfl rfl rfl trivial rfl ?_ | refine r_ldr ty_3 rfl rfl trivial rfl ?_ | refine r_ldo ty_3 rfl rfl (by assumption) rfl trivial rfl ?_
    refine reg_nil ?_
    refine awp_block ?_
    refine awp_seq ?_
    refine awp_region ?_
    refine r_eqi rfl rfl trivial rfl ?_
    refine r_as rfl trivial rfl ?_
    refine reg_nil ?_
    refine awp_cond_t rfl ?_
    refine awp_seq ?_
    refine awp_region ?_
    first | refine r_fld fld_37_1 rfl trivial rfl ?_ | refine r_fldr fld_37_1 rfl trivial rfl ?_
    first | refine r_ld ty_3 rfl rfl rfl trivial rfl ?_ | refine r_ldr ty_3 rfl rfl trivial rfl ?_ | refine r_ldo ty_3 rfl rfl (by assumption) rfl trivial rfl ?_
    refine r_bslice (rs := [[_]]) sl_63 ty_3 rfl z_3 rfl rfl rfl rfl rfl rfl rfl trivial rfl ?_
    refine r_bslice (rs := [[_]]) sl_63 ty_3 rfl z_3 rfl rfl rfl rfl rfl rfl rfl trivial rfl ?_
    refine r_bslice (rs := [[_]]) sl_63 ty_3 rfl z_3 rfl rfl rfl rfl rfl rfl rfl trivial rfl ?_
    refine r_as rfl trivial rfl ?_
    refine r_as rfl trivial rfl ?_
    refine r_as rfl trivial rfl ?_
    refine r_as rfl trivial rfl ?_
    refine reg_nil ?_
    refine awp_ret ?_
    exact fin0' (.cons (.tmp rfl) (.cons (.tmp rfl) (.cons (.tmp rfl) (.cons (.tmp rfl) .nil)))) (.tup (.cons (by first | exact .fv | exact .frz rfl rfl trivial | exact .nil | exact .aggf' rfl | exact .aggf) (.cons (by first | exact .fv | exact .frz rfl rfl trivial | exact .nil | exact .aggf' rfl | exact .aggf) (.cons (by first | exact .fv | exact .frz rfl rfl trivial | exact .nil | exact .aggf' rfl | exact .aggf) (.cons (by first | exact .fv | exact .frz rfl rfl trivial | exact .nil | exact .aggf' rfl | exact .aggf) .nil)))))
  · refine awp_skip ?_
    refine awp_seq ?_
    refine awp_seq ?_
    refine awp_region ?_
    first | refine r_fld fld_37_0 rfl trivial rfl ?_ | refine r_fldr fld_37_0 rfl trivial rfl ?_
    first | refine r_ld ty_3 rfl rfl rfl trivial rfl ?_ | refine r_ldr ty_3 rfl rfl trivial rfl ?_ | refine r_ldo ty_3 rfl rfl (by assumption) rfl trivial rfl ?_
    refine reg_nil ?_
    refine awp_block ?_
    refine awp_seq ?_
    refine awp_region ?_
    refine r_eqi rfl rfl trivial rfl ?_
    refine r_as rfl trivial rfl ?_
    refine reg_nil ?_
    refine awp_cond_t rfl ?_
    refine awp_seq ?_
    refine awp_region ?_
    first | refine r_fld fld_37_1 rfl trivial rfl ?_ | refine r_fldr fld_37_1 rfl trivial rfl ?_
    first | refine r_ld ty_3 rfl rfl rfl trivial rfl ?_ | refine r_ldr ty_3 rfl rfl trivial rfl ?_ | refine r_ldo ty_3 rfl rfl (by assumption) rfl trivial rfl ?_
    refine r_bslice (rs := [[_]]) sl_63 ty_3 rfl z_3 rfl rfl rfl rfl rfl rfl rfl trivial rfl ?_
    refine r_bslice (rs := [[_]]) sl_63 ty_3 rfl z_3 rfl rfl rfl rfl rfl rfl rfl trivial rfl ?_
    refine r_bslice (rs := [[_]]) sl_63 ty_3 rfl z_3 rfl rfl rfl rfl rfl rfl rfl trivial rfl ?_
    refine r_as rfl trivial rfl ?_
    refine r_as rfl trivial rfl ?_
    refine r_as rfl trivial rfl ?_
    refine r_as rfl trivial rfl ?_
    refine reg_nil ?_
    refine awp_ret ?_
    exact fin0' (.cons (.tmp rfl) (.cons (.tmp rfl) (.cons (.tmp rfl) (.cons (.tmp rfl) .nil)))) (.tup (.cons (by first | exact .fv | exact .frz rfl rfl trivial | exact .nil | exact .aggf' rfl | exact .aggf) (.cons (by first | exact .fv | exact .frz rfl rfl trivial | exact .nil | exact .aggf' rfl | exact .aggf) (.cons (by first | exact .fv | exact .frz rfl rfl trivial | exact .nil | exact .aggf' rfl | exact .aggf) (.cons (by first | exact .fv | exact .frz rfl rfl trivial | exact .nil | exact .aggf' rfl | exact .aggf) .nil)))))
set_option maxRecDepth 100000 in
theorem numbers_2 (key slot gen : Int) (good : Bool) (request backend weight : Int) : Fun Tryd.prog 26 [.agg (fvs (encEv ⟨2, key, slot, gen, good, request, backend, weight⟩))] [] [] (.tup [.fv (.ro 1 (intsF [slot, gen])), .fv (.ro 1 (intsF [0, 0])), .fv (.ro 1 (intsF [39, 1048576])), bA true]) [] := by
  refine fun_of_awp (rl := [.tmp 2, .tmp 3, .tmp 4, .tmp 5]) Tryd.func26 rfl Tryd.results26 Tryd.ntmps26 0 rfl (by simp) ?_
  intro w0 own0 ρ0 F hz
  refine awp_seq ?_
  refine awp_region ?_
  refine r_box rfl rfl rfl trivial rfl ?_
  refine r_as rfl trivial rfl ?_
  refine r_as rfl trivial rfl ?_
  refine r_as rfl trivial rfl ?_
  refine r_as rfl trivial rfl ?_
  refine reg_nil ?_
  refine awp_seq ?_
  refine awp_region ?_
  refine r_as rfl trivial rfl ?_
  refine reg_nil ?_
  refine awp_seq ?_
  refine awp_seq ?_
  refine awp_region ?_
  first | refine r_fld fld_37_4 rfl trivial rfl ?_ | refine r_fldr fld_37_4 rfl trivial rfl ?_
  first | refine r_ld ty_4 rfl rfl rfl trivial rfl ?_ | refine r_ldr ty_4 rfl rfl trivial rfl ?_ | refine r_ldo ty_4 rfl rfl (by assumption) rfl trivial rfl ?_
  refine reg_nil ?_
  first | refine awp_cond_dec rfl (fun h1 => ?_) (fun h1 => ?_) | refine awp_cond rfl (fun h1 => ?_) (fun h1 => ?_)
  · refine awp_region ?_
    refine r_as rfl trivial rfl ?_
    refine reg_nil ?_
    refine awp_seq ?_
    refine awp_seq ?_
    refine awp_region ?_
    first | refine r_fld fld_37_0 rfl trivial rfl ?_ | refine r_fldr fld_37_0 rfl trivial rfl ?_
    first | refine r_ld ty_3 rfl rfl rfl trivial rfl ?_ | refine r_ldr ty_3 rfl rfl trivial rfl ?_ | refine r_ldo ty_3 rfl rfl (by assumption) rfl trivial rfl ?_
    refine reg_nil ?_
    refine awp_block ?_
    refine awp_seq ?_
    refine awp_region ?_
    refine r_eqi rfl rfl trivial rfl ?_
    refine r_as rfl trivial rfl ?_
    refine reg_nil ?_
    refine awp_cond_f rfl ?_
    refine awp_seq ?_
    refine awp_seq ?_
    refine awp_region ?_
    refine r_eqi rfl rfl trivial rfl ?_
    refine r_as rfl trivial rfl ?_
    refine reg_nil ?_
    refine awp_cond_t rfl ?_
    refine awp_skip ?_
    refine awp_cond_t rfl ?_
    refine awp_seq ?_
    refine awp_region ?_
    first | refine r_fld fld_37_2 rfl trivial rfl ?_ | refine r_fldr fld_37_2 rfl trivial rfl ?_
    first | refine r_ld ty_3 rfl rfl rfl trivial rfl ?_ | refine r_ldr ty_3 rfl rfl trivial rfl ?_ | refine r_ldo ty_3 rfl rfl (by assumption) rfl trivial rfl ?_
    first | refine r_fld fld_37_3 rfl trivial rfl ?_ | refine r_fldr fld_37_3 rfl trivial rfl ?_
    first | refine r_ld ty_3 rfl rfl rfl trivial rfl ?_ | refine r_ldr ty_3 rfl rfl trivial rfl ?_ | refine r_ldo ty_3 rfl rfl (by assumption) rfl trivial rfl ?_
    refine r_bslice (rs := [[_], [_]]) sl_63 ty_3 rfl z_3 rfl rfl rfl rfl rfl rfl rfl trivial rfl ?_
    refine r_bslice (rs := [[_], [_]]) sl_63 ty_3 rfl z_3 rfl rfl rfl rfl rfl rfl rfl trivial rfl ?_
    refine r_bslice (rs := [[_], [_]]) sl_63 ty_3 rfl z_3 rfl rfl rfl rfl rfl rfl rfl trivial rfl ?_
    refine r_as rfl trivial rfl ?_
    refine r_as rfl trivial rfl ?_
    refine r_as rfl trivial rfl ?_
    refine r_as rfl trivial rfl ?_
    refine reg_nil ?_
    refine awp_ret ?_
    exact fin0' (.cons (.tmp rfl) (.cons (.tmp rfl) (.cons (.tmp rfl) (.cons (.tmp rfl) .nil)))) (.tup (.cons (by first | exact .fv | exact .frz rfl rfl trivial | exact .nil | exact .aggf' rfl | exact .aggf) (.cons (by first | exact .fv | exact .frz rfl rfl trivial | exact .nil | exact .aggf' rfl | exact .aggf) (.cons (by first | exact .fv | exact .frz rfl rfl trivial | exact .nil | exact .aggf' rfl | exact .aggf) (.cons (by first | exact .fv | exact .frz rfl rfl trivial | exact .nil | exact .aggf' rfl | exact .aggf) .nil)))))
  · refine awp_skip ?_
    refine awp_seq ?_
    refine awp_seq ?_
    refine awp_region ?_
    first | refine r_fld fld_37_0 rfl trivial rfl ?_ | refine r_fldr fld_37_0 rfl trivial rfl ?_
    first | refine r_ld ty_3 rfl rfl rfl trivial rfl ?_ | refine r_ldr ty_3 rfl rfl trivial rfl ?_ | refine r_ldo ty_3 rfl rfl (by assumption) rfl trivial rfl ?_
    refine reg_nil ?_
    refine awp_block ?_
    refine awp_seq ?_
    refine awp_region ?_
    refine r_eqi rfl rfl trivial rfl ?_
    refine r_as rfl trivial rfl ?_
    refine reg_nil ?_
    refine awp_cond_f rfl ?_
    refine awp_seq ?_
    refine awp_seq ?_
    refine awp_region ?_
    refine r_eqi rfl rfl trivial rfl ?_
    refine r_as rfl trivial rfl ?_
    refine reg_nil ?_
    refine awp_cond_t rfl ?_
    refine awp_skip ?_
    refine awp_cond_t rfl ?_
    refine awp_seq ?_
    refine awp_region ?_
    first | refine r_fld fld_37_2 rfl trivial rfl ?_ | refine r_fldr fld_37_2 rfl trivial rfl ?_
    first | refine r_ld ty_3 rfl rfl rfl trivial rfl ?_ | refine r_ldr ty_3 rfl rfl trivial rfl ?_ | refine r_ldo ty_3 rfl rfl (by assumption) rfl trivial rfl ?_
    first | refine r_fld fld_37_3 rfl trivial rfl ?_ | refine r_fldr fld_37_3 rfl trivial rfl ?_
    first | refine r_ld ty_3 rfl rfl rfl trivial rfl ?_ | refine r_ldr ty_3 rfl rfl trivial rfl ?_ | refine r_ldo ty_3 rfl rfl (by assumption) rfl trivial rfl ?_
    refine r_bslice (rs := [[_], [_]]) sl_63 ty_3 rfl z_3 rfl rfl rfl rfl rfl rfl rfl trivial rfl ?_
    refine r_bslice (rs := [[_], [_]]) sl_63 ty_3 rfl z_3 rfl rfl rfl rfl rfl rfl rfl trivial rfl ?_
    refine r_bslice (rs := [[_], [_]]) sl_63 ty_3 rfl z_3 rfl rfl rfl rfl rfl rfl rfl trivial rfl ?_
    refine r_as rfl trivial rfl ?_
    refine r_as rfl trivial rfl ?_
    refine r_as rfl trivial rfl ?_
    refine r_as rfl trivial rfl ?_
    refine reg_nil ?_
    refine awp_ret ?_
    exact fin0' (.cons (.tmp rfl) (.cons (.tmp rfl) (.cons (.tmp rfl) (.cons (.tmp rfl) .nil)))) (.tup (.cons (by first | exact .fv | exact .frz rfl rfl trivial | exact .nil | exact .aggf' rfl | exact .aggf) (.cons (by first | exact .fv | exact .frz rfl rfl trivial | exact .nil | exact .aggf' rfl | exact .aggf) (.cons (by first | exact .fv | exact .frz rfl rfl trivial | exact .nil | exact .aggf' rfl | exact .aggf) (.cons (by first | exact .fv | exact .frz rfl rfl trivial | exact .nil | exact .aggf' rfl | exact .aggf) .nil)))))
set_option maxRecDepth 100000 in
theorem numbers_3 (key slot gen : Int) (good : Bool) (request backend weight : Int) : Fun Tryd.prog 26 [.agg (fvs (encEv ⟨3, key, slot, gen, good, request, backend, weight⟩))] [] [] (.tup [.fv (.ro 1 (intsF [slot, gen])), .fv (.ro 1 (intsF [0, 0])), .fv (.ro 1 (intsF [39, 1048576])), bA true]) [] := by
  refine fun_of_awp (rl := [.tmp 2, .tmp 3, .tmp 4, .tmp 5]) Tryd.func26 rfl Tryd.results26 Tryd.ntmps26 0 rfl (by simp) ?_
  intro w0 own0 ρ0 F hz
  refine awp_seq ?_
  refine awp_region ?_
  refine r_box rfl rfl rfl trivial rfl ?_
  refine r_as rfl trivial rfl ?_
  refine r_as rfl trivial rfl ?_
  refine r_as rfl trivial rfl ?_
  refine r_as rfl trivial rfl ?_
  refine reg_nil ?_
  refine awp_seq ?_
  refine awp_region ?_
  refine r_as rfl trivial rfl ?_
  refine reg_nil ?_
  refine awp_seq ?_
  refine awp_seq ?_
  refine awp_region ?_
  first | refine r_fld fld_37_4 rfl trivial rfl ?_ | refine r_fldr fld_37_4 rfl trivial rfl ?_
  first | refine r_ld ty_4 rfl rfl rfl trivial rfl ?_ | refine r_ldr ty_4 rfl rfl trivial rfl ?_ | refine r_ldo ty_4 rfl rfl (by assumption) rfl trivial rfl ?_
  refine reg_nil ?_
  first | refine awp_cond_dec rfl (fun h1 => ?_) (fun h1 => ?_) | refine awp_cond rfl (fun h1 => ?_) (fun h1 => ?_)
  · refine awp_region ?_
    refine r_as rfl trivial rfl ?_
    refine reg_nil ?_
    refine awp_seq ?_
    refine awp_seq ?_
    refine awp_region ?_
    first | refine r_fld fld_37_0 rfl trivial rfl ?_ | refine r_fldr fld_37_0 rfl trivial rfl ?_
    first | refine r_ld ty_3 rfl rfl rfl trivial rfl ?_ | refine r_ldr ty_3 rfl rfl trivial rfl ?_ | refine r_ldo ty_3 rfl rfl (by assumption) rfl trivial rfl ?_
    refine reg_nil ?_
    refine awp_block ?_
    refine awp_seq ?_
    refine awp_region ?_
    refine r_eqi rfl rfl trivial rfl ?_
    refine r_as rfl trivial rfl ?_
    refine reg_nil ?_
    refine awp_cond_f rfl ?_
    refine awp_seq ?_
    refine awp_seq ?_
    refine awp_region ?_
    refine r_eqi rfl rfl trivial rfl ?_
    refine r_as rfl trivial rfl ?_
    refine reg_nil ?_
    refine awp_cond_f rfl ?_
    refine awp_region ?_
    refine r_eqi rfl rfl trivial rfl ?_
    refine r_as rfl trivial rfl ?_
    refine reg_nil ?_
    refine awp_cond_t rfl ?_
    refine awp_seq ?_
    refine awp_region ?_
    first | refine r_fld fld_37_2 rfl trivial rfl ?_ | refine r_fldr fld_37_2 rfl trivial rfl ?_
    first | refine r_ld ty_3 rfl rfl rfl trivial rfl ?_ | refine r_ldr ty_3 rfl rfl trivial rfl ?_ | refine r_ldo ty_3 rfl rfl (by assumption) rfl trivial rfl ?_
    first | refine r_fld fld_37_3 rfl trivial rfl ?_ | refine r_fldr fld_37_3 rfl trivial rfl ?_
    first | refine r_ld ty_3 rfl rfl rfl trivial rfl ?_ | refine r_ldr ty_3 rfl rfl trivial rfl ?_ | refine r_ldo ty_3 rfl rfl (by assumption) rfl trivial rfl ?_
    refine r_bslice (rs := [[_], [_]]) sl_63 ty_3 rfl z_3 rfl rfl rfl rfl rfl rfl rfl trivial rfl ?_
    refine r_bslice (rs := [[_], [_]]) sl_63 ty_3 rfl z_3 rfl rfl rfl rfl rfl rfl rfl trivial rfl ?_
    refine r_bslice (rs := [[_], [_]]) sl_63 ty_3 rfl z_3 rfl rfl rfl rfl rfl rfl rfl trivial rfl ?_
    refine r_as rfl trivial rfl ?_
    refine r_as rfl trivial rfl ?_
    refine r_as rfl trivial rfl ?_
    refine r_as rfl trivial rfl ?_
    refine reg_nil ?_
    refine awp_ret ?_
    exact fin0' (.cons (.tmp rfl) (.cons (.tmp rfl) (.cons (.tmp rfl) (.cons (.tmp rfl) .nil)))) (.tup (.cons (by first | exact .fv | exact .frz rfl rfl trivial | exact .nil | exact .aggf' rfl | exact .aggf) (.cons (by first | exact .fv | exact .frz rfl rfl trivial | exact .nil | exact .aggf' rfl | exact .aggf) (.cons (by first | exact .fv | exact .frz rfl rfl trivial | exact .nil | exact .aggf' rfl | exact .aggf) (.cons (by first | exact .fv | exact .frz rfl rfl trivial | exact .nil | exact .aggf' rfl | exact .aggf) .nil)))))
  · refine awp_skip ?_
    refine awp_seq ?_
    refine awp_seq ?_
    refine awp_region ?_
    first | refine r_fld fld_37_0 rfl trivial rfl ?_ | refine r_fldr fld_37_0 rfl trivial rfl ?_
    first | refine r_ld ty_3 rfl rfl rfl trivial rfl ?_ | refine r_ldr ty_3 rfl rfl trivial rfl ?_ | refine r_ldo ty_3 rfl rfl (by assumption) rfl trivial rfl ?_
    refine reg_nil ?_
    refine awp_block ?_
    refine awp_seq ?_
    refine awp_region ?_
    refine r_eqi rfl rfl trivial rfl ?_
    refine r_as rfl trivial rfl ?_
    refine reg_nil ?_
    refine awp_cond_f rfl ?_
    refine awp_seq ?_
    refine awp_seq ?_
    refine awp_region ?_
    refine r_eqi rfl rfl trivial rfl ?_
    refine r_as rfl trivial rfl ?_
    refine reg_nil ?_
    refine awp_cond_f rfl ?_
    refine awp_region ?_
    refine r_eqi rfl rfl trivial rfl ?_
    refine r_as rfl trivial rfl ?_
    refine reg_nil ?_
    refine awp_cond_t rfl ?_
    refine awp_seq ?_
    refine awp_region ?_
    first | refine r_fld fld_37_2 rfl trivial rfl ?_ | refine r_fldr fld_37_2 rfl trivial rfl ?_
    first | refine r_ld ty_3 rfl rfl rfl trivial rfl ?_ | refine r_ldr ty_3 rfl rfl trivial rfl ?_ | refine r_ldo ty_3 rfl rfl (by assumption) rfl trivial rfl ?_
    first | refine r_fld fld_37_3 rfl trivial rfl ?_ | refine r_fldr fld_37_3 rfl trivial rfl ?_
    first | refine r_ld ty_3 rfl rfl rfl trivial rfl ?_ | refine r_ldr ty_3 rfl rfl trivial rfl ?_ | refine r_ldo ty_3 rfl rfl (by assumption) rfl trivial rfl ?_
    refine r_bslice (rs := [[_], [_]]) sl_63 ty_3 rfl z_3 rfl rfl rfl rfl rfl rfl rfl trivial rfl ?_
    refine r_bslice (rs := [[_], [_]]) sl_63 ty_3 rfl z_3 rfl rfl rfl rfl rfl rfl rfl trivial rfl ?_
    refine r_bslice (rs := [[_], [_]]) sl_63 ty_3 rfl z_3 rfl rfl rfl rfl rfl rfl rfl trivial rfl ?_
    refine r_as rfl trivial rfl ?_
    refine r_as rfl trivial rfl ?_
    refine r_as rfl trivial rfl ?_
    refine r_as rfl trivial rfl ?_
    refine reg_nil ?_
    refine awp_ret ?_
    exact fin0' (.cons (.tmp rfl) (.cons (.tmp rfl) (.cons (.tmp rfl) (.cons (.tmp rfl) .nil)))) (.tup (.cons (by first | exact .fv | exact .frz rfl rfl trivial | exact .nil | exact .aggf' rfl | exact .aggf) (.cons (by first | exact .fv | exact .frz rfl rfl trivial | exact .nil | exact .aggf' rfl | exact .aggf) (.cons (by first | exact .fv | exact .frz rfl rfl trivial | exact .nil | exact .aggf' rfl | exact .aggf) (.cons (by first | exact .fv | exact .frz rfl rfl trivial | exact .nil | exact .aggf' rfl | exact .aggf) .nil)))))
set_option maxRecDepth 100000 in
theorem numbers_4t (key slot gen : Int) (request backend weight : Int) : Fun Tryd.prog 26 [.agg (fvs (encEv ⟨4, key, slot, gen, true, request, backend, weight⟩))] [] [] (.tup [.fv (.ro 1 (intsF [slot, gen, 1])), .fv (.ro 1 (intsF [0, 0, 0])), .fv (.ro 1 (intsF [39, 1048576, 1])), bA true]) [] := by
  refine fun_of_awp (rl := [.tmp 2, .tmp 3, .tmp 4, .tmp 5]) Tryd.func26 rfl Tryd.results26 Tryd.ntmps26 0 rfl (by simp) ?_
  intro w0 own0 ρ0 F hz
  refine awp_seq ?_
  refine awp_region ?_
  refine r_box rfl rfl rfl trivial rfl ?_
  refine r_as rfl trivial rfl ?_
  refine r_as rfl trivial rfl ?_
  refine r_as rfl trivial rfl ?_
  refine r_as rfl trivial rfl ?_
  refine reg_nil ?_
  refine awp_seq ?_
  refine awp_region ?_
  refine r_as rfl trivial rfl ?_
  refine reg_nil ?_
  refine awp_seq ?_
  refine awp_seq ?_
  refine awp_region ?_
  first | refine r_fld fld_37_4 rfl trivial rfl ?_ | refine r_fldr fld_37_4 rfl trivial rfl ?_
  first | refine r_ld ty_4 rfl rfl rfl trivial rfl ?_ | refine r_ldr ty_4 rfl rfl trivial rfl ?_ | refine r_ldo ty_4 rfl rfl (by assumption) rfl trivial rfl ?_
  refine reg_nil ?_
  refine awp_cond_t rfl ?_
  refine awp_region ?_
  refine r_as rfl trivial rfl ?_
  refine reg_nil ?_
  refine awp_seq ?_
  refine awp_seq ?_
  refine awp_region ?_
  first | refine r_fld fld_37_0 rfl trivial rfl ?_ | refine r_fldr fld_37_0 rfl trivial rfl ?_
  first | refine r_ld ty_3 rfl rfl rfl trivial rfl ?_ | refine r_ldr ty_3 rfl rfl trivial rfl ?_ | refine r_ldo ty_3 rfl rfl (by assumption) rfl trivial rfl ?_
  refine reg_nil ?_
  refine awp_block ?_
  refine awp_seq ?_
  refine awp_region ?_
  refine r_eqi rfl rfl trivial rfl ?_
  refine r_as rfl trivial rfl ?_
  refine reg_nil ?_
  refine awp_cond_f rfl ?_
  refine awp_seq ?_
  refine awp_seq ?_
  refine awp_region ?_
  refine r_eqi rfl rfl trivial rfl ?_
  refine r_as rfl trivial rfl ?_
  refine reg_nil ?_
  refine awp_cond_f rfl ?_
  refine awp_region ?_
  refine r_eqi rfl rfl trivial rfl ?_
  refine r_as rfl trivial rfl ?_
  refine reg_nil ?_
  refine awp_cond_f rfl ?_
  refine awp_seq ?_
  refine awp_region ?_
  refine r_eqi rfl rfl trivial rfl ?_
  refine r_as rfl trivial rfl ?_
  refine reg_nil ?_
  refine awp_cond_t rfl ?_
  refine awp_seq ?_
  refine awp_region ?_
  first | refine r_fld fld_37_2 rfl trivial rfl ?_ | refine r_fldr fld_37_2 rfl trivial rfl ?_
  first | refine r_ld ty_3 rfl rfl rfl trivial rfl ?_ | refine r_ldr ty_3 rfl rfl trivial rfl ?_ | refine r_ldo ty_3 rfl rfl (by assumption) rfl trivial rfl ?_
  first | refine r_fld fld_37_3 rfl trivial rfl ?_ | refine r_fldr fld_37_3 rfl trivial rfl ?_
  first | refine r_ld ty_3 rfl rfl rfl trivial rfl ?_ | refine r_ldr ty_3 rfl rfl trivial rfl ?_ | refine r_ldo ty_3 rfl rfl (by assumption) rfl trivial rfl ?_
  refine r_mv rfl trivial rfl ?_
  refine r_bslice (rs := [[_], [_], [_]]) sl_63 ty_3 rfl z_3 rfl rfl rfl rfl rfl rfl rfl trivial rfl ?_
  refine r_bslice (rs := [[_], [_], [_]]) sl_63 ty_3 rfl z_3 rfl rfl rfl rfl rfl rfl rfl trivial rfl ?_
  refine r_bslice (rs := [[_], [_], [_]]) sl_63 ty_3 rfl z_3 rfl rfl rfl rfl rfl rfl rfl trivial rfl ?_
  refine r_as rfl trivial rfl ?_
  refine r_as rfl trivial rfl ?_
  refine r_as rfl trivial rfl ?_
  refine r_as rfl trivial rfl ?_
  refine reg_nil ?_
  refine awp_ret ?_
  exact fin0' (.cons (.tmp rfl) (.cons (.tmp rfl) (.cons (.tmp rfl) (.cons (.tmp rfl) .nil)))) (.tup (.cons (by first | exact .fv | exact .frz rfl rfl trivial | exact .nil | exact .aggf' rfl | exact .aggf) (.cons (by first | exact .fv | exact .frz rfl rfl trivial | exact .nil | exact .aggf' rfl | exact .aggf) (.cons (by first | exact .fv | exact .frz rfl rfl trivial | exact .nil | exact .aggf' rfl | exact .aggf) (.cons (by first | exact .fv | exact .frz rfl rfl trivial | exact .nil | exact .aggf' rfl | exact .aggf) .nil)))))
set_option maxRecDepth 100000 in
theorem numbers_4f (key slot gen : Int) (request backend weight : Int) : Fun Tryd.prog 26 [.agg (fvs (encEv ⟨4, key, slot, gen, false, request, backend, weight⟩))] [] [] (.tup [.fv (.ro 1 (intsF [slot, gen, 0])), .fv (.ro 1 (intsF [0, 0, 0])), .fv (.ro 1 (intsF [39, 1048576, 1])), bA true]) [] := by
  refine fun_of_awp (rl := [.tmp 2, .tmp 3, .tmp 4, .tmp 5]) Tryd.func26 rfl Tryd.results26 Tryd.ntmps26 0 rfl (by simp) ?_
  intro w0 own0 ρ0 F hz
  refine awp_seq ?_
  refine awp_region ?_
  refine r_box rfl rfl rfl trivial rfl ?_
  refine r_as rfl trivial rfl ?_
  refine r_as rfl trivial rfl ?_
  refine r_as rfl trivial rfl ?_
  refine r_as rfl trivial rfl ?_
  refine reg_nil ?_
  refine awp_seq ?_
  refine awp_region ?_
  refine r_as rfl trivial rfl ?_
  refine reg_nil ?_
  refine awp_seq ?_
  refine awp_seq ?_
  refine awp_region ?_
  first | refine r_fld fld_37_4 rfl trivial rfl ?_ | refine r_fldr fld_37_4 rfl trivial rfl ?_
  first | refine r_ld ty_4 rfl rfl rfl trivial rfl ?_ | refine r_ldr ty_4 rfl rfl trivial rfl ?_ | refine r_ldo ty_4 rfl rfl (by assumption) rfl trivial rfl ?_
  refine reg_nil ?_
  refine awp_cond_f rfl ?_
  refine awp_skip ?_
  refine awp_seq ?_
  refine awp_seq ?_
  refine awp_region ?_
  first | refine r_fld fld_37_0 rfl trivial rfl ?_ | refine r_fldr fld_37_0 rfl trivial rfl ?_
  first | refine r_ld ty_3 rfl rfl rfl trivial rfl ?_ | refine r_ldr ty_3 rfl rfl trivial rfl ?_ | refine r_ldo ty_3 rfl rfl (by assumption) rfl trivial rfl ?_
  refine reg_nil ?_
  refine awp_block ?_
  refine awp_seq ?_
  refine awp_region ?_
  refine r_eqi rfl rfl trivial rfl ?_
  refine r_as rfl trivial rfl ?_
  refine reg_nil ?_
  refine awp_cond_f rfl ?_
  refine awp_seq ?_
  refine awp_seq ?_
  refine awp_region ?_
  refine r_eqi rfl rfl trivial rfl ?_
  refine r_as rfl trivial rfl ?_
  refine reg_nil ?_
  refine awp_cond_f rfl ?_
  refine awp_region ?_
  refine r_eqi rfl rfl trivial rfl ?_
  refine r_as rfl trivial rfl ?_
  refine reg_nil ?_
  refine awp_cond_f rfl ?_
  refine awp_seq ?_
  refine awp_region ?_
  refine r_eqi rfl rfl trivial rfl ?_
  refine r_as rfl trivial rfl ?_
  refine reg_nil ?_
  refine awp_cond_t rfl ?_
  refine awp_seq ?_
  refine awp_region ?_
  first | refine r_fld fld_37_2 rfl trivial rfl ?_ | refine r_fldr fld_37_2 rfl trivial rfl ?_
  first | refine r_ld ty_3 rfl rfl rfl trivial rfl ?_ | refine r_ldr ty_3 rfl rfl trivial rfl ?_ | refine r_ldo ty_3 rfl rfl (by assumption) rfl trivial rfl ?_
  first | refine r_fld fld_37_3 rfl trivial rfl ?_ | refine r_fldr fld_37_3 rfl trivial rfl ?_
  first | refine r_ld ty_3 rfl rfl rfl trivial rfl ?_ | refine r_ldr ty_3 rfl rfl trivial rfl ?_ | refine r_ldo ty_3 rfl rfl (by assumption) rfl trivial rfl ?_
  refine r_mv rfl trivial rfl ?_
  refine r_bslice (rs := [[_], [_], [_]]) sl_63 ty_3 rfl z_3 rfl rfl rfl rfl rfl rfl rfl trivial rfl ?_
  refine r_bslice (rs := [[_], [_], [_]]) sl_63 ty_3 rfl z_3 rfl rfl rfl rfl rfl rfl rfl trivial rfl ?_
  refine r_bslice (rs := [[_], [_], [_]]) sl_63 ty_3 rfl z_3 rfl rfl rfl rfl rfl rfl rfl trivial rfl ?_
  refine r_as rfl trivial rfl ?_
  refine r_as rfl trivial rfl ?_
  refine r_as rfl trivial rfl ?_
  refine r_as rfl trivial rfl ?_
  refine reg_nil ?_
  refine awp_ret ?_
  exact fin0' (.cons (.tmp rfl) (.cons (.tmp rfl) (.cons (.tmp rfl) (.cons (.tmp rfl) .nil)))) (.tup (.cons (by first | exact .fv | exact .frz rfl rfl trivial | exact .nil | exact .aggf' rfl | exact .aggf) (.cons (by first | exact .fv | exact .frz rfl rfl trivial | exact .nil | exact .aggf' rfl | exact .aggf) (.cons (by first | exact .fv | exact .frz rfl rfl trivial | exact .nil | exact .aggf' rfl | exact .aggf) (.cons (by first | exact .fv | exact .frz rfl rfl trivial | exact .nil | exact .aggf' rfl | exact .aggf) .nil)))))
set_option maxRecDepth 100000 in
theorem numbers_5 (key slot gen : Int) (good : Bool) (request backend weight : Int) : Fun Tryd.prog 26 [.agg (fvs (encEv ⟨5, key, slot, gen, good, request, backend, weight⟩))] [] [] (.tup [.fv (.ro 1 (intsF [request, backend, weight])), .fv (.ro 1 (intsF [0, 0, 1])), .fv (.ro 1 (intsF [1048576, 11, 8])), bA true]) [] := by
  refine fun_of_awp (rl := [.tmp 2, .tmp 3, .tmp 4, .tmp 5]) Tryd.func26 rfl Tryd.results26 Tryd.ntmps26 0 rfl (by simp) ?_
  intro w0 own0 ρ0 F hz
  refine awp_seq ?_
  refine awp_region ?_
  refine r_box rfl rfl rfl trivial rfl ?_
  refine r_as rfl trivial rfl ?_
  refine r_as rfl trivial rfl ?_
  refine r_as rfl trivial rfl ?_
  refine r_as rfl trivial rfl ?_
  refine reg_nil ?_
  refine awp_seq ?_
  refine awp_region ?_
  refine r_as rfl trivial rfl ?_
  refine reg_nil ?_
  refine awp_seq ?_
  refine awp_seq ?_
  refine awp_region ?_
  first | refine r_fld fld_37_4 rfl trivial rfl ?_ | refine r_fldr fld_37_4 rfl trivial rfl ?_
  first | refine r_ld ty_4 rfl rfl rfl trivial rfl ?_ | refine r_ldr ty_4 rfl rfl trivial rfl ?_ | refine r_ldo ty_4 rfl rfl (by assumption) rfl trivial rfl ?_
  refine reg_nil ?_
  first | refine awp_cond_dec rfl (fun h1 => ?_) (fun h1 => ?_) | refine awp_cond rfl (fun h1 => ?_) (fun h1 => ?_)
  · refine awp_region ?_
    refine r_as rfl trivial rfl ?_
    refine reg_nil ?_
    refine awp_seq ?_
    refine awp_seq ?_
    refine awp_region ?_
    first | refine r_fld fld_37_0 rfl trivial rfl ?_ | refine r_fldr fld_37_0 rfl trivial rfl ?_
    first | refine r_ld ty_3 rfl rfl rfl trivial rfl ?_ | refine r_ldr ty_3 rfl rfl trivial rfl ?_ | refine r_ldo ty_3 rfl rfl (by assumption) rfl trivial rfl ?_
    refine reg_nil ?_
    refine awp_block ?_
    refine awp_seq ?_
    refine awp_region ?_
    refine r_eqi rfl rfl trivial rfl ?_
    refine r_as rfl trivial rfl ?_
    refine reg_nil ?_
    refine awp_cond_f rfl ?_
    refine awp_seq ?_
    refine awp_seq ?_
    refine awp_region ?_
    refine r_eqi rfl rfl trivial rfl ?_
    refine r_as rfl trivial rfl ?_
    refine reg_nil ?_
    refine awp_cond_f rfl ?_
    refine awp_region ?_
    refine r_eqi rfl rfl trivial rfl ?_
    refine r_as rfl trivial rfl ?_
    refine reg_nil ?_
    refine awp_cond_f rfl ?_
    refine awp_seq ?_
    refine awp_region ?_
    refine r_eqi rfl rfl trivial rfl ?_
    refine r_as rfl trivial rfl ?_
    refine reg_nil ?_
    refine awp_cond_f rfl ?_
    refine awp_seq ?_
    refine awp_region ?_
    refine r_eqi rfl rfl trivial rfl ?_
    refine r_as rfl trivial rfl ?_
    refine reg_nil ?_
    refine awp_cond_t rfl ?_
    refine awp_seq ?_
    refine awp_region ?_
    first | refine r_fld fld_37_5 rfl trivial rfl ?_ | refine r_fldr fld_37_5 rfl trivial rfl ?_
    first | refine r_ld ty_3 rfl rfl rfl trivial rfl ?_ | refine r_ldr ty_3 rfl rfl trivial rfl ?_ | refine r_ldo ty_3 rfl rfl (by assumption) rfl trivial rfl ?_
    first | refine r_fld fld_37_6 rfl trivial rfl ?_ | refine r_fldr fld_37_6 rfl trivial rfl ?_
    first | refine r_ld ty_3 rfl rfl rfl trivial rfl ?_ | refine r_ldr ty_3 rfl rfl trivial rfl ?_ | refine r_ldo ty_3 rfl rfl (by assumption) rfl trivial rfl ?_
    first | refine r_fld fld_37_7 rfl trivial rfl ?_ | refine r_fldr fld_37_7 rfl trivial rfl ?_
    first | refine r_ld ty_3 rfl rfl rfl trivial rfl ?_ | refine r_ldr ty_3 rfl rfl trivial rfl ?_ | refine r_ldo ty_3 rfl rfl (by assumption) rfl trivial rfl ?_
    refine r_bslice (rs := [[_], [_], [_]]) sl_63 ty_3 rfl z_3 rfl rfl rfl rfl rfl rfl rfl trivial rfl ?_
    refine r_bslice (rs := [[_], [_], [_]]) sl_63 ty_3 rfl z_3 rfl rfl rfl rfl rfl rfl rfl trivial rfl ?_
    refine r_bslice (rs := [[_], [_], [_]]) sl_63 ty_3 rfl z_3 rfl rfl rfl rfl rfl rfl rfl trivial rfl ?_
    refine r_as rfl trivial rfl ?_
    refine r_as rfl trivial rfl ?_
    refine r_as rfl trivial rfl ?_
    refine r_as rfl trivial rfl ?_
    refine reg_nil ?_
    refine awp_ret ?_
    exact fin0' (.cons (.tmp rfl) (.cons (.tmp rfl) (.cons (.tmp rfl) (.cons (.tmp rfl) .nil)))) (.tup (.cons (by first | exact .fv | exact .frz rfl rfl trivial | exact .nil | exact .aggf' rfl | exact .aggf) (.cons (by first | exact .fv | exact .frz rfl rfl trivial | exact .nil | exact .aggf' rfl | exact .aggf) (.cons (by first | exact .fv | exact .frz rfl rfl trivial | exact .nil | exact .aggf' rfl | exact .aggf) (.cons (by first | exact .fv | exact .frz rfl rfl trivial | exact .nil | exact .aggf' rfl | exact .aggf) .nil)))))
  · refine awp_skip ?_
    refine awp_seq ?_
    refine awp_seq ?_
    refine awp_region ?_
    first | refine r_fld fld_37_0 rfl trivial rfl ?_ | refine r_fldr fld_37_0 rfl trivial rfl ?_
    first | refine r_ld ty_3 rfl rfl rfl trivial rfl ?_ | refine r_ldr ty_3 rfl rfl trivial rfl ?_ | refine r_ldo ty_3 rfl rfl (by assumption) rfl trivial rfl ?_
    refine reg_nil ?_
    refine awp_block ?_
    refine awp_seq ?_
    refine awp_region ?_
    refine r_eqi rfl rfl trivial rfl ?_
    refine r_as rfl trivial rfl ?_
    refine reg_nil ?_
    refine awp_cond_f rfl ?_
    refine awp_seq ?_
    refine awp_seq ?_
    refine awp_region ?_
    refine r_eqi rfl rfl trivial rfl ?_
    refine r_as rfl trivial rfl ?_
    refine reg_nil ?_
    refine awp_cond_f rfl ?_
    refine awp_region ?_
    refine r_eqi rfl rfl trivial rfl ?_
    refine r_as rfl trivial rfl ?_
    refine reg_nil ?_
    refine awp_cond_f rfl ?_
    refine awp_seq ?_
    refine awp_region ?_
    refine r_eqi rfl rfl trivial rfl ?_
    refine r_as rfl trivial rfl ?_
    refine reg_nil ?_
    refine awp_cond_f rfl ?_
    refine awp_seq ?_
    refine awp_region ?_
    refine r_eqi rfl rfl trivial rfl ?_
    refine r_as rfl trivial rfl ?_
    refine reg_nil ?_
    refine awp_cond_t rfl ?_
    refine awp_seq ?_
    refine awp_region ?_
    first | refine r_fld fld_37_5 rfl trivial rfl ?_ | refine r_fldr fld_37_5 rfl trivial rfl ?_
    first | refine r_ld ty_3 rfl rfl rfl trivial rfl ?_ | refine r_ldr ty_3 rfl rfl trivial rfl ?_ | refine r_ldo ty_3 rfl rfl (by assumption) rfl trivial rfl ?_
    first | refine r_fld fld_37_6 rfl trivial rfl ?_ | refine r_fldr fld_37_6 rfl trivial rfl ?_
    first | refine r_ld ty_3 rfl rfl rfl trivial rfl ?_ | refine r_ldr ty_3 rfl rfl trivial rfl ?_ | refine r_ldo ty_3 rfl rfl (by assumption) rfl trivial rfl ?_
    first | refine r_fld fld_37_7 rfl trivial rfl ?_ | refine r_fldr fld_37_7 rfl trivial rfl ?_
    first | refine r_ld ty_3 rfl rfl rfl trivial rfl ?_ | refine r_ldr ty_3 rfl rfl trivial rfl ?_ | refine r_ldo ty_3 rfl rfl (by assumption) rfl trivial rfl ?_
    refine r_bslice (rs := [[_], [_], [_]]) sl_63 ty_3 rfl z_3 rfl rfl rfl rfl rfl rfl rfl trivial rfl ?_
    refine r_bslice (rs := [[_], [_], [_]]) sl_63 ty_3 rfl z_3 rfl rfl rfl rfl rfl rfl rfl trivial rfl ?_
    refine r_bslice (rs := [[_], [_], [_]]) sl_63 ty_3 rfl z_3 rfl rfl rfl rfl rfl rfl rfl trivial rfl ?_
    refine r_as rfl trivial rfl ?_
    refine r_as rfl trivial rfl ?_
    refine r_as rfl trivial rfl ?_
    refine r_as rfl trivial rfl ?_
    refine reg_nil ?_
    refine awp_ret ?_
    exact fin0' (.cons (.tmp rfl) (.cons (.tmp rfl) (.cons (.tmp rfl) (.cons (.tmp rfl) .nil)))) (.tup (.cons (by first | exact .fv | exact .frz rfl rfl trivial | exact .nil | exact .aggf' rfl | exact .aggf) (.cons (by first | exact .fv | exact .frz rfl rfl trivial | exact .nil | exact .aggf' rfl | exact .aggf) (.cons (by first | exact .fv | exact .frz rfl rfl trivial | exact .nil | exact .aggf' rfl | exact .aggf) (.cons (by first | exact .fv | exact .frz rfl rfl trivial | exact .nil | exact .aggf' rfl | exact .aggf) .nil)))))
set_option maxRecDepth 100000 in
theorem numbers_6 (key slot gen : Int) (good : Bool) (request backend weight : Int) : Fun Tryd.prog 26 [.agg (fvs (encEv ⟨6, key, slot, gen, good, request, backend, weight⟩))] [] [] (.tup [.fv (.ro 1 (intsF [request, backend])), .fv (.ro 1 (intsF [0, 0])), .fv (.ro 1 (intsF [1048576, 11])), bA true]) [] := by
  refine fun_of_awp (rl := [.tmp 2, .tmp 3, .tmp 4, .tmp 5]) Tryd.func26 rfl Tryd.results26 Tryd.ntmps26 0 rfl (by simp) ?_
  intro w0 own0 ρ0 F hz
  refine awp_seq ?_
  refine awp_region ?_
  refine r_box rfl rfl rfl trivial rfl ?_
  refine r_as rfl trivial rfl ?_
  refine r_as rfl trivial rfl ?_
  refine r_as rfl trivial rfl ?_
  refine r_as rfl trivial rfl ?_
  refine reg_nil ?_
  refine awp_seq ?_
  refine awp_region ?_
  refine r_as rfl trivial rfl ?_
  refine reg_nil ?_
  refine awp_seq ?_
  refine awp_seq ?_
  refine awp_region ?_
  first | refine r_fld fld_37_4 rfl trivial rfl ?_ | refine r_fldr fld_37_4 rfl trivial rfl ?_
  first | refine r_ld ty_4 rfl rfl rfl trivial rfl ?_ | refine r_ldr ty_4 rfl rfl trivial rfl ?_ | refine r_ldo ty_4 rfl rfl (by assumption) rfl trivial rfl ?_
  refine reg_nil ?_
  first | refine awp_cond_dec rfl (fun h1 => ?_) (fun h1 => ?_) | refine awp_cond rfl (fun h1 => ?_) (fun h1 => ?_)
  · refine awp_region ?_
    refine r_as rfl trivial rfl ?_
    refine reg_nil ?_
    refine awp_seq ?_
    refine awp_seq ?_
    refine awp_region ?_
    first | refine r_fld fld_37_0 rfl trivial rfl ?_ | refine r_fldr fld_37_0 rfl trivial rfl ?_
    first | refine r_ld ty_3 rfl rfl rfl trivial rfl ?_ | refine r_ldr ty_3 rfl rfl trivial rfl ?_ | refine r_ldo ty_3 rfl rfl (by assumption) rfl trivial rfl ?_
    refine reg_nil ?_
    refine awp_block ?_
    refine awp_seq ?_
    refine awp_region ?_
    refine r_eqi rfl rfl trivial rfl ?_
    refine r_as rfl trivial rfl ?_
    refine reg_nil ?_
    refine awp_cond_f rfl ?_
    refine awp_seq ?_
    refine awp_seq ?_
    refine awp_region ?_
    refine r_eqi rfl rfl trivial rfl ?_
    refine r_as rfl trivial rfl ?_
    refine reg_nil ?_
    refine awp_cond_f rfl ?_
    refine awp_region ?_
    refine r_eqi rfl rfl trivial rfl ?_
    refine r_as rfl trivial rfl ?_
    refine reg_nil ?_
    refine awp_cond_f rfl ?_
    refine awp_seq ?_
    refine awp_region ?_
    refine r_eqi rfl rfl trivial rfl ?_
    refine r_as rfl trivial rfl ?_
    refine reg_nil ?_
    refine awp_cond_f rfl ?_
    refine awp_seq ?_
    refine awp_region ?_
    refine r_eqi rfl rfl trivial rfl ?_
    refine r_as rfl trivial rfl ?_
    refine reg_nil ?_
    refine awp_cond_f rfl ?_
    refine awp_seq ?_
    refine awp_region ?_
    refine r_eqi rfl rfl trivial rfl ?_
    refine r_as rfl trivial rfl ?_
    refine reg_nil ?_
    refine awp_cond_t rfl ?_
    refine awp_seq ?_
    refine awp_region ?_
    first | refine r_fld fld_37_5 rfl trivial rfl ?_ | refine r_fldr fld_37_5 rfl trivial rfl ?_
    first | refine r_ld ty_3 rfl rfl rfl trivial rfl ?_ | refine r_ldr ty_3 rfl rfl trivial rfl ?_ | refine r_ldo ty_3 rfl rfl (by assumption) rfl trivial rfl ?_
    first | refine r_fld fld_37_6 rfl trivial rfl ?_ | refine r_fldr fld_37_6 rfl trivial rfl ?_
    first | refine r_ld ty_3 rfl rfl rfl trivial rfl ?_ | refine r_ldr ty_3 rfl rfl trivial rfl ?_ | refine r_ldo ty_3 rfl rfl (by assumption) rfl trivial rfl ?_
    refine r_bslice (rs := [[_], [_]]) sl_63 ty_3 rfl z_3 rfl rfl rfl rfl rfl rfl rfl trivial rfl ?_
    refine r_bslice (rs := [[_], [_]]) sl_63 ty_3 rfl z_3 rfl rfl rfl rfl rfl rfl rfl trivial rfl ?_
    refine r_bslice (rs := [[_], [_]]) sl_63 ty_3 rfl z_3 rfl rfl rfl rfl rfl rfl rfl trivial rfl ?_
    refine r_as rfl trivial rfl ?_
    refine r_as rfl trivial rfl ?_
    refine r_as rfl trivial rfl ?_
    refine r_as rfl trivial rfl ?_
    refine reg_nil ?_
    refine awp_ret ?_
    exact fin0' (.cons (.tmp rfl) (.cons (.tmp rfl) (.cons (.tmp rfl) (.cons (.tmp rfl) .nil)))) (.tup (.cons (by first | exact .fv | exact .frz rfl rfl trivial | exact .nil | exact .aggf' rfl | exact .aggf) (.cons (by first | exact .fv | exact .frz rfl rfl trivial | exact .nil | exact .aggf' rfl | exact .aggf) (.cons (by first | exact .fv | exact .frz rfl rfl trivial | exact .nil | exact .aggf' rfl | exact .aggf) (.cons (by first | exact .fv | exact .frz rfl rfl trivial | exact .nil | exact .aggf' rfl | exact .aggf) .nil)))))
  · refine awp_skip ?_
    refine awp_seq ?_
    refine awp_seq ?_
    refine awp_region ?_
    first | refine r_fld fld_37_0 rfl trivial rfl ?_ | refine r_fldr fld_37_0 rfl trivial rfl ?_
    first | refine r_ld ty_3 rfl rfl rfl trivial rfl ?_ | refine r_ldr ty_3 rfl rfl trivial rfl ?_ | refine r_ldo ty_3 rfl rfl (by assumption) rfl trivial rfl ?_
    refine reg_nil ?_
    refine awp_block ?_
    refine awp_seq ?_
    refine awp_region ?_
    refine r_eqi rfl rfl trivial rfl ?_
    refine r_as rfl trivial rfl ?_
    refine reg_nil ?_
    refine awp_cond_f rfl ?_
    refine awp_seq ?_
    refine awp_seq ?_
    refine awp_region ?_
    refine r_eqi rfl rfl trivial rfl ?_
    refine r_as rfl trivial rfl ?_
    refine reg_nil ?_
    refine awp_cond_f rfl ?_
    refine awp_region ?_
    refine r_eqi rfl rfl trivial rfl ?_
    refine r_as rfl trivial rfl ?_
    refine reg_nil ?_
    refine awp_cond_f rfl ?_
    refine awp_seq ?_
    refine awp_region ?_
    refine r_eqi rfl rfl trivial rfl ?_
    refine r_as rfl trivial rfl ?_
    refine reg_nil ?_
    refine awp_cond_f rfl ?_
    refine awp_seq ?_
    refine awp_region ?_
    refine r_eqi rfl rfl trivial rfl ?_
    refine r_as rfl trivial rfl ?_
    refine reg_nil ?_
    refine awp_cond_f rfl ?_
    refine awp_seq ?_
    refine awp_region ?_
    refine r_eqi rfl rfl trivial rfl ?_
    refine r_as rfl trivial rfl ?_
    refine reg_nil ?_
    refine awp_cond_t rfl ?_
    refine awp_seq ?_
    refine awp_region ?_
    first | refine r_fld fld_37_5 rfl trivial rfl ?_ | refine r_fldr fld_37_5 rfl trivial rfl ?_
    first | refine r_ld ty_3 rfl rfl rfl trivial rfl ?_ | refine r_ldr ty_3 rfl rfl trivial rfl ?_ | refine r_ldo ty_3 rfl rfl (by assumption) rfl trivial rfl ?_
    first | refine r_fld fld_37_6 rfl trivial rfl ?_ | refine r_fldr fld_37_6 rfl trivial rfl ?_
    first | refine r_ld ty_3 rfl rfl rfl trivial rfl ?_ | refine r_ldr ty_3 rfl rfl trivial rfl ?_ | refine r_ldo ty_3 rfl rfl (by assumption) rfl trivial rfl ?_
    refine r_bslice (rs := [[_], [_]]) sl_63 ty_3 rfl z_3 rfl rfl rfl rfl rfl rfl rfl trivial rfl ?_
    refine r_bslice (rs := [[_], [_]]) sl_63 ty_3 rfl z_3 rfl rfl rfl rfl rfl rfl rfl trivial rfl ?_
    refine r_bslice (rs := [[_], [_]]) sl_63 ty_3 rfl z_3 rfl rfl rfl rfl rfl rfl rfl trivial rfl ?_
    refine r_as rfl trivial rfl ?_
    refine r_as rfl trivial rfl ?_
    refine r_as rfl trivial rfl ?_
    refine r_as rfl trivial rfl ?_
    refine reg_nil ?_
    refine awp_ret ?_
    exact fin0' (.cons (.tmp rfl) (.cons (.tmp rfl) (.cons (.tmp rfl) (.cons (.tmp rfl) .nil)))) (.tup (.cons (by first | exact .fv | exact .frz rfl rfl trivial | exact .nil | exact .aggf' rfl | exact .aggf) (.cons (by first | exact .fv | exact .frz rfl rfl trivial | exact .nil | exact .aggf' rfl | exact .aggf) (.cons (by first | exact .fv | exact .frz rfl rfl trivial | exact .nil | exact .aggf' rfl | exact .aggf) (.cons (by first | exact .fv | exact .frz rfl rfl trivial | exact .nil | exact .aggf' rfl | exact .aggf) .nil)))))
set_option maxRecDepth 100000 in
theorem numbers_7 (key slot gen : Int) (good : Bool) (request backend weight : Int) : Fun Tryd.prog 26 [.agg (fvs (encEv ⟨7, key, slot, gen, good, request, backend, weight⟩))] [] [] (.tup [.fv (.ro 1 (intsF [])), .fv (.ro 1 (intsF [])), .fv (.ro 1 (intsF [])), bA true]) [] := by
  refine fun_of_awp (rl := [.tmp 2, .tmp 3, .tmp 4, .tmp 5]) Tryd.func26 rfl Tryd.results26 Tryd.ntmps26 0 rfl (by simp) ?_
  intro w0 own0 ρ0 F hz
  refine awp_seq ?_
  refine awp_region ?_
  refine r_box rfl rfl rfl trivial rfl ?_
  refine r_as rfl trivial rfl ?_
  refine r_as rfl trivial rfl ?_
  refine r_as rfl trivial rfl ?_
  refine r_as rfl trivial rfl ?_
  refine reg_nil ?_
  refine awp_seq ?_
  refine awp_region ?_
  refine r_as rfl trivial rfl ?_
  refine reg_nil ?_
  refine awp_seq ?_
  refine awp_seq ?_
  refine awp_region ?_
  first | refine r_fld fld_37_4 rfl trivial rfl ?_ | refine r_fldr fld_37_4 rfl trivial rfl ?_
  first | refine r_ld ty_4 rfl rfl rfl trivial rfl ?_ | refine r_ldr ty_4 rfl rfl trivial rfl ?_ | refine r_ldo ty_4 rfl rfl (by assumption) rfl trivial rfl ?_
  refine reg_nil ?_
  first | refine awp_cond_dec rfl (fun h1 => ?_) (fun h1 => ?_) | refine awp_cond rfl (fun h1 => ?_) (fun h1 => ?_)
  · refine awp_region ?_
    refine r_as rfl trivial rfl ?_
    refine reg_nil ?_
    refine awp_seq ?_
    refine awp_seq ?_
    refine awp_region ?_
    first | refine r_fld fld_37_0 rfl trivial rfl ?_ | refine r_fldr fld_37_0 rfl trivial rfl ?_
    first | refine r_ld ty_3 rfl rfl rfl trivial rfl ?_ | refine r_ldr ty_3 rfl rfl trivial rfl ?_ | refine r_ldo ty_3 rfl rfl (by assumption) rfl trivial rfl ?_
    refine reg_nil ?_
    refine awp_block ?_
    refine awp_seq ?_
    refine awp_region ?_
    refine r_eqi rfl rfl trivial rfl ?_
    refine r_as rfl trivial rfl ?_
    refine reg_nil ?_
    refine awp_cond_f rfl ?_
    refine awp_seq ?_
    refine awp_seq ?_
    refine awp_region ?_
    refine r_eqi rfl rfl trivial rfl ?_
    refine r_as rfl trivial rfl ?_
    refine reg_nil ?_
    refine awp_cond_f rfl ?_
    refine awp_region ?_
    refine r_eqi rfl rfl trivial rfl ?_
    refine r_as rfl trivial rfl ?_
    refine reg_nil ?_
    refine awp_cond_f rfl ?_
    refine awp_seq ?_
    refine awp_region ?_
    refine r_eqi rfl rfl trivial rfl ?_
    refine r_as rfl trivial rfl ?_
    refine reg_nil ?_
    refine awp_cond_f rfl ?_
    refine awp_seq ?_
    refine awp_region ?_
    refine r_eqi rfl rfl trivial rfl ?_
    refine r_as rfl trivial rfl ?_
    refine reg_nil ?_
    refine awp_cond_f rfl ?_
    refine awp_seq ?_
    refine awp_region ?_
    refine r_eqi rfl rfl trivial rfl ?_
    refine r_as rfl trivial rfl ?_
    refine reg_nil ?_
    refine awp_cond_f rfl ?_
    refine awp_seq ?_
    refine awp_region ?_
    refine r_eqi rfl rfl trivial rfl ?_
    refine r_as rfl trivial rfl ?_
    refine reg_nil ?_
    refine awp_cond_t rfl ?_
    refine awp_seq ?_
    refine awp_region ?_
    refine r_as rfl trivial rfl ?_
    refine r_as rfl trivial rfl ?_
    refine r_as rfl trivial rfl ?_
    refine r_as rfl trivial rfl ?_
    refine reg_nil ?_
    refine awp_ret ?_
    exact fin0' (.cons (.tmp rfl) (.cons (.tmp rfl) (.cons (.tmp rfl) (.cons (.tmp rfl) .nil)))) (.tup (.cons (by first | exact .fv | exact .frz rfl rfl trivial | exact .nil | exact .aggf' rfl | exact .aggf) (.cons (by first | exact .fv | exact .frz rfl rfl trivial | exact .nil | exact .aggf' rfl | exact .aggf) (.cons (by first | exact .fv | exact .frz rfl rfl trivial | exact .nil | exact .aggf' rfl | exact .aggf) (.cons (by first | exact .fv | exact .frz rfl rfl trivial | exact .nil | exact .aggf' rfl | exact .aggf) .nil)))))
  · refine awp_skip ?_
    refine awp_seq ?_
    refine awp_seq ?_
    refine awp_region ?_
    first | refine r_fld fld_37_0 rfl trivial rfl ?_ | refine r_fldr fld_37_0 rfl trivial rfl ?_
    first | refine r_ld ty_3 rfl rfl rfl trivial rfl ?_ | refine r_ldr ty_3 rfl rfl trivial rfl ?_ | refine r_ldo ty_3 rfl rfl (by assumption) rfl trivial rfl ?_
    refine reg_nil ?_
    refine awp_block ?_
    refine awp_seq ?_
    refine awp_region ?_
    refine r_eqi rfl rfl trivial rfl ?_
    refine r_as rfl trivial rfl ?_
    refine reg_nil ?_
    refine awp_cond_f rfl ?_
    refine awp_seq ?_
    refine awp_seq ?_
    refine awp_region ?_
    refine r_eqi rfl rfl trivial rfl ?_
    refine r_as rfl trivial rfl ?_
    refine reg_nil ?_
    refine awp_cond_f rfl ?_
    refine awp_region ?_
    refine r_eqi rfl rfl trivial rfl ?_
    refine r_as rfl trivial rfl ?_
    refine reg_nil ?_
    refine awp_cond_f rfl ?_
    refine awp_seq ?_
    refine awp_region ?_
    refine r_eqi rfl rfl trivial rfl ?_
    refine r_as rfl trivial rfl ?_
    refine reg_nil ?_
    refine awp_cond_f rfl ?_
    refine awp_seq ?_
    refine awp_region ?_
    refine r_eqi rfl rfl trivial rfl ?_
    refine r_as rfl trivial rfl ?_
    refine reg_nil ?_
    refine awp_cond_f rfl ?_
    refine awp_seq ?_
    refine awp_region ?_
    refine r_eqi rfl rfl trivial rfl ?_
    refine r_as rfl trivial rfl ?_
    refine reg_nil ?_
    refine awp_cond_f rfl ?_
    refine awp_seq ?_
    refine awp_region ?_
    refine r_eqi rfl rfl trivial rfl ?_
    refine r_as rfl trivial rfl ?_
    refine reg_nil ?_
    refine awp_cond_t rfl ?_
    refine awp_seq ?_
    refine awp_region ?_
    refine r_as rfl trivial rfl ?_
    refine r_as rfl trivial rfl ?_
    refine r_as rfl trivial rfl ?_
    refine r_as rfl trivial rfl ?_
    refine reg_nil ?_
    refine awp_ret ?_
    exact fin0' (.cons (.tmp rfl) (.cons (.tmp rfl) (.cons (.tmp rfl) (.cons (.tmp rfl) .nil)))) (.tup (.cons (by first | exact .fv | exact .frz rfl rfl trivial | exact .nil | exact .aggf' rfl | exact .aggf) (.cons (by first | exact .fv | exact .frz rfl rfl trivial | exact .nil | exact .aggf' rfl | exact .aggf) (.cons (by first | exact .fv | exact .frz rfl rfl trivial | exact .nil | exact .aggf' rfl | exact .aggf) (.cons (by first | exact .fv | exact .frz rfl rfl trivial | exact .nil | exact .aggf' rfl | exact .aggf) .nil)))))
set_option maxRecDepth 100000 in
theorem numbers_0 (e : Ev) (hk : e.kind < 1 ∨ 7 < e.kind) : Fun Tryd.prog 26 [.agg (fvs (encEv e))] [] [] (.tup [.fv (.ro 1 []), .fv (.ro 1 []), .fv (.ro 1 []), bA false]) [] := by
  refine fun_of_awp (rl := [.tmp 2, .tmp 3, .tmp 4, .tmp 5]) Tryd.func26 rfl Tryd.results26 Tryd.ntmps26 0 rfl (by simp) ?_
  intro w0 own0 ρ0 F hz
  refine awp_seq ?_
  refine awp_region ?_
  refine r_box rfl rfl rfl trivial rfl ?_
  refine r_as rfl trivial rfl ?_
  refine r_as rfl trivial rfl ?_
  refine r_as rfl trivial rfl ?_
  refine r_as rfl trivial rfl ?_
  refine reg_nil ?_
  refine awp_seq ?_
  refine awp_region ?_
  refine r_as rfl trivial rfl ?_
  refine reg_nil ?_
  refine awp_seq ?_
  refine awp_seq ?_
  refine awp_region ?_
  first | refine r_fld fld_37_4 rfl trivial rfl ?_ | refine r_fldr fld_37_4 rfl trivial rfl ?_
  first | refine r_ld ty_4 rfl rfl rfl trivial rfl ?_ | refine r_ldr ty_4 rfl rfl trivial rfl ?_ | refine r_ldo ty_4 rfl rfl (by assumption) rfl trivial rfl ?_
  refine reg_nil ?_
  first | refine awp_cond_dec rfl (fun h1 => ?_) (fun h1 => ?_) | refine awp_cond rfl (fun h1 => ?_) (fun h1 => ?_)
  · refine awp_region ?_
    refine r_as rfl trivial rfl ?_
    refine reg_nil ?_
    refine awp_seq ?_
    refine awp_seq ?_
    refine awp_region ?_
    first | refine r_fld fld_37_0 rfl trivial rfl ?_ | refine r_fldr fld_37_0 rfl trivial rfl ?_
    first | refine r_ld ty_3 rfl rfl rfl trivial rfl ?_ | refine r_ldr ty_3 rfl rfl trivial rfl ?_ | refine r_ldo ty_3 rfl rfl (by assumption) rfl trivial rfl ?_
    refine reg_nil ?_
    refine awp_block ?_
    refine awp_seq ?_
    refine awp_region ?_
    refine r_eqi rfl rfl trivial rfl ?_
    refine r_as rfl trivial rfl ?_
    refine reg_nil ?_
    refine awp_cond_no rfl (by omega) ?_
    refine awp_seq ?_
    refine awp_seq ?_
    refine awp_region ?_
    refine r_eqi rfl rfl trivial rfl ?_
    refine r_as rfl trivial rfl ?_
    refine reg_nil ?_
    refine awp_cond_no rfl (by omega) ?_
    refine awp_region ?_
    refine r_eqi rfl rfl trivial rfl ?_
    refine r_as rfl trivial rfl ?_
    refine reg_nil ?_
    refine awp_cond_no rfl (by omega) ?_
    refine awp_seq ?_
    refine awp_region ?_
    refine r_eqi rfl rfl trivial rfl ?_
    refine r_as rfl trivial rfl ?_
    refine reg_nil ?_
    refine awp_cond_no rfl (by omega) ?_
    refine awp_seq ?_
    refine awp_region ?_
    refine r_eqi rfl rfl trivial rfl ?_
    refine r_as rfl trivial rfl ?_
    refine reg_nil ?_
    refine awp_cond_no rfl (by omega) ?_
    refine awp_seq ?_
    refine awp_region ?_
    refine r_eqi rfl rfl trivial rfl ?_
    refine r_as rfl trivial rfl ?_
    refine reg_nil ?_
    refine awp_cond_no rfl (by omega) ?_
    refine awp_seq ?_
    refine awp_region ?_
    refine r_eqi rfl rfl trivial rfl ?_
    refine r_as rfl trivial rfl ?_
    refine reg_nil ?_
    refine awp_cond_no rfl (by omega) ?_
    refine awp_skip ?_
    refine awp_seq ?_
    refine awp_region ?_
    refine r_as rfl trivial rfl ?_
    refine r_as rfl trivial rfl ?_
    refine r_as rfl trivial rfl ?_
    refine r_as rfl trivial rfl ?_
    refine reg_nil ?_
    refine awp_ret ?_
    exact fin0' (.cons (.tmp rfl) (.cons (.tmp rfl) (.cons (.tmp rfl) (.cons (.tmp rfl) .nil)))) (.tup (.cons (by first | exact .fv | exact .frz rfl rfl trivial | exact .nil | exact .aggf' rfl | exact .aggf) (.cons (by first | exact .fv | exact .frz rfl rfl trivial | exact .nil | exact .aggf' rfl | exact .aggf) (.cons (by first | exact .fv | exact .frz rfl rfl trivial | exact .nil | exact .aggf' rfl | exact .aggf) (.cons (by first | exact .fv | exact .frz rfl rfl trivial | exact .nil | exact .aggf' rfl | exact .aggf) .nil)))))
  · refine awp_skip ?_
    refine awp_seq ?_
    refine awp_seq ?_
    refine awp_region ?_
    first | refine r_fld fld_37_0 rfl trivial rfl ?_ | refine r_fldr fld_37_0 rfl trivial rfl ?_
    first | refine r_ld ty_3 rfl rfl rfl trivial rfl ?_ | refine r_ldr ty_3 rfl rfl trivial rfl ?_ | refine r_ldo ty_3 rfl rfl (by assumption) rfl trivial rfl ?_
    refine reg_nil ?_
    refine awp_block ?_
    refine awp_seq ?_
    refine awp_region ?_
    refine r_eqi rfl rfl trivial rfl ?_
    refine r_as rfl trivial rfl ?_
    refine reg_nil ?_
    refine awp_cond_no rfl (by omega) ?_
    refine awp_seq ?_
    refine awp_seq ?_
    refine awp_region ?_
    refine r_eqi rfl rfl trivial rfl ?_
    refine r_as rfl trivial rfl ?_
    refine reg_nil ?_
    refine awp_cond_no rfl (by omega) ?_
    refine awp_region ?_
    refine r_eqi rfl rfl trivial rfl ?_
    refine r_as rfl trivial rfl ?_
    refine reg_nil ?_
    refine awp_cond_no rfl (by omega) ?_
    refine awp_seq ?_
    refine awp_region ?_
    refine r_eqi rfl rfl trivial rfl ?_
    refine r_as rfl trivial rfl ?_
    refine reg_nil ?_
    refine awp_cond_no rfl (by omega) ?_
    refine awp_seq ?_
    refine awp_region ?_
    refine r_eqi rfl rfl trivial rfl ?_
    refine r_as rfl trivial rfl ?_
    refine reg_nil ?_
    refine awp_cond_no rfl (by omega) ?_
    refine awp_seq ?_
    refine awp_region ?_
    refine r_eqi rfl rfl trivial rfl ?_
    refine r_as rfl trivial rfl ?_
    refine reg_nil ?_
    refine awp_cond_no rfl (by omega) ?_
    refine awp_seq ?_
    refine awp_region ?_
    refine r_eqi rfl rfl trivial rfl ?_
    refine r_as rfl trivial rfl ?_
    refine reg_nil ?_
    refine awp_cond_no rfl (by omega) ?_
    refine awp_skip ?_
    refine awp_seq ?_
    refine awp_region ?_
    refine r_as rfl trivial rfl ?_
    refine r_as rfl trivial rfl ?_
    refine r_as rfl trivial rfl ?_
    refine r_as rfl trivial rfl ?_
    refine reg_nil ?_
    refine awp_ret ?_
    exact fin0' (.cons (.tmp rfl) (.cons (.tmp rfl) (.cons (.tmp rfl) (.cons (.tmp rfl) .nil)))) (.tup (.cons (by first | exact .fv | exact .frz rfl rfl trivial | exact .nil | exact .aggf' rfl | exact .aggf) (.cons (by first | exact .fv | exact .frz rfl rfl trivial | exact .nil | exact .aggf' rfl | exact .aggf) (.cons (by first | exact .fv | exact .frz rfl rfl trivial | exact .nil | exact .aggf' rfl | exact .aggf) (.cons (by first | exact .fv | exact .frz rfl rfl trivial | exact .nil | exact .aggf' rfl | exact .aggf) .nil)))))
set_option maxRecDepth 100000 in
theorem in_ok (n lo hi : Int) : Fun Tryd.prog 27 [iA n, iA lo, iA hi] [] [] (bA (decide (lo ≤ n ∧ n ≤ hi))) [] := by
  refine fun_of_awp (rl := [.tmp 6]) Tryd.func27 rfl Tryd.results27 Tryd.ntmps27 0 rfl (by simp) ?_
  intro w0 own0 ρ0 F hz
  refine awp_seq ?_
  refine awp_region ?_
  refine r_as rfl trivial rfl ?_
  refine reg_nil ?_
  refine awp_seq ?_
  refine awp_region ?_
  refine r_mv rfl trivial rfl ?_
  refine r_mv rfl trivial rfl ?_
  refine r_geq rfl rfl trivial rfl ?_
  refine r_mv rfl trivial rfl ?_
  first | refine reg_split_dec 10 rfl (fun h1 => ?_) (fun h1 => ?_) | refine reg_split 10 rfl (fun h1 => ?_) (fun h1 => ?_)
  · refine r_mv rfl ⟨_, rfl, rfl⟩ rfl ?_
    refine r_mv rfl ⟨_, rfl, rfl⟩ rfl ?_
    refine r_leq rfl rfl ⟨_, rfl, rfl⟩ rfl ?_
    refine r_pkt rfl rfl trivial rfl ?_
    refine r_as rfl trivial rfl ?_
    refine reg_nil ?_
    refine awp_ret ?_
    refine fin0 (.cons (.tmp rfl) .nil) (by first | exact .fv | exact .frz rfl rfl trivial | exact .nil | exact .aggf' rfl | exact .aggf) ?_
    (simp_all <;> omega)
  · refine r_skip ⟨_, rfl, .inl rfl⟩ rfl ?_
    refine r_skip ⟨_, rfl, .inl rfl⟩ rfl ?_
    refine r_skip ⟨_, rfl, .inl rfl⟩ rfl ?_
    refine r_pkf rfl rfl trivial rfl ?_
    refine r_as rfl trivial rfl ?_
    refine reg_nil ?_
    refine awp_ret ?_
    refine fin0 (.cons (.tmp rfl) .nil) (by first | exact .fv | exact .frz rfl rfl trivial | exact .nil | exact .aggf' rfl | exact .aggf) ?_
    (simp_all <;> omega)
set_option maxRecDepth 100000 in
theorem eventOf_1 (key : Int) : Fun Tryd.prog 28 [iA 1, .fv (.ro 1 (intsF [key]))] [] [] (.agg (fvs (encEv ⟨1, key, 0, 0, false, 0, 0, 0⟩))) [] := by
  refine fun_of_awp (rl := [.cell 4 37]) Tryd.func28 rfl Tryd.results28 Tryd.ntmps28 0 rfl (by simp) ?_
  intro w0 own0 ρ0 F hz
  refine awp_seq ?_
  refine awp_region ?_
  refine r_alloc z_37 rfl trivial rfl ?_
  refine reg_nil ?_
  refine awp_seq ?_
  refine awp_region ?_
  refine r_mv rfl trivial rfl ?_
  refine r_build pl_37 z_37 rfl rfl trivial rfl ?_
  refine r_alloc z_37 rfl trivial rfl ?_
  first | refine r_st ty_37 rfl rfl rfl rfl rfl rfl rfl trivial ?_ | refine r_sto ty_37 rfl rfl rfl rfl (by assumption) rfl rfl rfl trivial ?_
  refine reg_nil ?_
  refine awp_seq ?_
  refine awp_seq ?_
  refine awp_region ?_
  refine r_mv rfl trivial rfl ?_
  refine reg_nil ?_
  refine awp_block ?_
  refine awp_seq ?_
  refine awp_region ?_
  refine r_eqi rfl rfl trivial rfl ?_
  refine r_as rfl trivial rfl ?_
  refine reg_nil ?_
  refine awp_cond_t rfl ?_
  refine awp_region ?_
  refine r_mv rfl trivial rfl ?_
  first | refine r_ixr sl_63 ty_3 rfl rfl (by decide) rfl trivial rfl ?_ | refine r_ixw sl_63 ty_3 rfl rfl (by decide) (by omega) trivial rfl ?_
  first | refine r_ld ty_3 rfl rfl rfl trivial rfl ?_ | refine r_ldr ty_3 rfl rfl trivial rfl ?_ | refine r_ldo ty_3 rfl rfl (by assumption) rfl trivial rfl ?_
  first | refine r_fld fld_37_1 rfl trivial rfl ?_ | refine r_fldr fld_37_1 rfl trivial rfl ?_
  first | refine r_st ty_3 rfl rfl rfl rfl rfl rfl rfl trivial ?_ | refine r_sto ty_3 rfl rfl rfl rfl (by assumption) rfl rfl rfl trivial ?_
  refine reg_nil ?_
  refine awp_seq ?_
  refine awp_region ?_
  first | refine r_lda ty_37 rfl rfl rfl rfl trivial rfl ?_ | refine r_ldra ty_37 rfl rfl rfl trivial rfl ?_ | refine r_ldoa ty_37 rfl rfl (by assumption) rfl rfl trivial rfl ?_
  first | refine r_st ty_37 rfl rfl rfl rfl rfl rfl rfl trivial ?_ | refine r_sto ty_37 rfl rfl rfl rfl (by assumption) rfl rfl rfl trivial ?_
  refine reg_nil ?_
  refine awp_ret ?_
  exact fin0' (.cons (.agg rfl rfl ty_37 (Nat.le_of_ble_eq_true rfl)) .nil) (by first | exact .fv | exact .frz rfl rfl trivial | exact .nil | exact .aggf' rfl | exact .aggf)
set_option maxRecDepth 100000 in
theorem eventOf_2 (slot gen : Int) : Fun Tryd.prog 28 [iA 2, .fv (.ro 1 (intsF [slot, gen]))] [] [] (.agg (fvs (encEv ⟨2, 0, slot, gen, false, 0, 0, 0⟩))) [] := by
  refine fun_of_awp (rl := [.cell 4 37]) Tryd.func28 rfl Tryd.results28 Tryd.ntmps28 0 rfl (by simp) ?_
  intro w0 own0 ρ0 F hz
  refine awp_seq ?_
  refine awp_region ?_
  refine r_alloc z_37 rfl trivial rfl ?_
  refine reg_nil ?_
  refine awp_seq ?_
  refine awp_region ?_
  refine r_mv rfl trivial rfl ?_
  refine r_build pl_37 z_37 rfl rfl trivial rfl ?_
  refine r_alloc z_37 rfl trivial rfl ?_
  first | refine r_st ty_37 rfl rfl rfl rfl rfl rfl rfl trivial ?_ | refine r_sto ty_37 rfl rfl rfl rfl (by assumption) rfl rfl rfl trivial ?_
  refine reg_nil ?_
  refine awp_seq ?_
  refine awp_seq ?_
  refine awp_region ?_
  refine r_mv rfl trivial rfl ?_
  refine reg_nil ?_
  refine awp_block ?_
  refine awp_seq ?_
  refine awp_region ?_
  refine r_eqi rfl rfl trivial rfl ?_
  refine r_as rfl trivial rfl ?_
  refine reg_nil ?_
  refine awp_cond_f rfl ?_
  refine awp_seq ?_
  refine awp_seq ?_
  refine awp_region ?_
  refine r_eqi rfl rfl trivial rfl ?_
  refine r_as rfl trivial rfl ?_
  refine reg_nil ?_
  refine awp_cond_t rfl ?_
  refine awp_skip ?_
  refine awp_cond_t rfl ?_
  refine awp_seq ?_
  refine awp_region ?_
  refine r_mv rfl trivial rfl ?_
  first | refine r_ixr sl_63 ty_3 rfl rfl (by decide) rfl trivial rfl ?_ | refine r_ixw sl_63 ty_3 rfl rfl (by decide) (by omega) trivial rfl ?_
  first | refine r_ld ty_3 rfl rfl rfl trivial rfl ?_ | refine r_ldr ty_3 rfl rfl trivial rfl ?_ | refine r_ldo ty_3 rfl rfl (by assumption) rfl trivial rfl ?_
  first | refine r_fld fld_37_2 rfl trivial rfl ?_ | refine r_fldr fld_37_2 rfl trivial rfl ?_
  first | refine r_st ty_3 rfl rfl rfl rfl rfl rfl rfl trivial ?_ | refine r_sto ty_3 rfl rfl rfl rfl (by assumption) rfl rfl rfl trivial ?_
  refine reg_nil ?_
  refine awp_region ?_
  refine r_mv rfl trivial rfl ?_
  first | refine r_ixr sl_63 ty_3 rfl rfl (by decide) rfl trivial rfl ?_ | refine r_ixw sl_63 ty_3 rfl rfl (by decide) (by omega) trivial rfl ?_
  first | refine r_ld ty_3 rfl rfl rfl trivial rfl ?_ | refine r_ldr ty_3 rfl rfl trivial rfl ?_ | refine r_ldo ty_3 rfl rfl (by assumption) rfl trivial rfl ?_
  first | refine r_fld fld_37_3 rfl trivial rfl ?_ | refine r_fldr fld_37_3 rfl trivial rfl ?_
  first | refine r_st ty_3 rfl rfl rfl rfl rfl rfl rfl trivial ?_ | refine r_sto ty_3 rfl rfl rfl rfl (by assumption) rfl rfl rfl trivial ?_
  refine reg_nil ?_
  refine awp_seq ?_
  refine awp_region ?_
  first | refine r_lda ty_37 rfl rfl rfl rfl trivial rfl ?_ | refine r_ldra ty_37 rfl rfl rfl trivial rfl ?_ | refine r_ldoa ty_37 rfl rfl (by assumption) rfl rfl trivial rfl ?_
  first | refine r_st ty_37 rfl rfl rfl rfl rfl rfl rfl trivial ?_ | refine r_sto ty_37 rfl rfl rfl rfl (by assumption) rfl rfl rfl trivial ?_
  refine reg_nil ?_
  refine awp_ret ?_
  exact fin0' (.cons (.agg rfl rfl ty_37 (Nat.le_of_ble_eq_true rfl)) .nil) (by first | exact .fv | exact .frz rfl rfl trivial | exact .nil | exact .aggf' rfl | exact .aggf)
set_option maxRecDepth 100000 in
theorem eventOf_3 (slot gen : Int) : Fun Tryd.prog 28 [iA 3, .fv (.ro 1 (intsF [slot, gen]))] [] [] (.agg (fvs (encEv ⟨3, 0, slot, gen, false, 0, 0, 0⟩))) [] := by
  refine fun_of_awp (rl := [.cell 4 37]) Tryd.func28 rfl Tryd.results28 Tryd.ntmps28 0 rfl (by simp) ?_
  intro w0 own0 ρ0 F hz
  refine awp_seq ?_
  refine awp_region ?_
  refine r_alloc z_37 rfl trivial rfl ?_
  refine reg_nil ?_
  refine awp_seq ?_
  refine awp_region ?_
  refine r_mv rfl trivial rfl ?_
  refine r_build pl_37 z_37 rfl rfl trivial rfl ?_
  refine r_alloc z_37 rfl trivial rfl ?_
  first | refine r_st ty_37 rfl rfl rfl rfl rfl rfl rfl trivial ?_ | refine r_sto ty_37 rfl rfl rfl rfl (by assumption) rfl rfl rfl trivial ?_
  refine reg_nil ?_
  refine awp_seq ?_
  refine awp_seq ?_
  refine awp_region ?_
  refine r_mv rfl trivial rfl ?_
  refine reg_nil ?_
  refine awp_block ?_
  refine awp_seq ?_
  refine awp_region ?_
  refine r_eqi rfl rfl trivial rfl ?_
  refine r_as rfl trivial rfl ?_
  refine reg_nil ?_
  refine awp_cond_f rfl ?_
  refine awp_seq ?_
  refine awp_seq ?_
  refine awp_region ?_
  refine r_eqi rfl rfl trivial rfl ?_
  refine r_as rfl trivial rfl ?_
  refine reg_nil ?_
  refine awp_cond_f rfl ?_
  refine awp_region ?_
  refine r_eqi rfl rfl trivial rfl ?_
  refine r_as rfl trivial rfl ?_
  refine reg_nil ?_
  refine awp_cond_t rfl ?_
  refine awp_seq ?_
  refine awp_region ?_
  refine r_mv rfl trivial rfl ?_
  first | refine r_ixr sl_63 ty_3 rfl rfl (by decide) rfl trivial rfl ?_ | refine r_ixw sl_63 ty_3 rfl rfl (by decide) (by omega) trivial rfl ?_
  first | refine r_ld ty_3 rfl rfl rfl trivial rfl ?_ | refine r_ldr ty_3 rfl rfl trivial rfl ?_ | refine r_ldo ty_3 rfl rfl (by assumption) rfl trivial rfl ?_
  first | refine r_fld fld_37_2 rfl trivial rfl ?_ | refine r_fldr fld_37_2 rfl trivial rfl ?_
  first | refine r_st ty_3 rfl rfl rfl rfl rfl rfl rfl trivial ?_ | refine r_sto ty_3 rfl rfl rfl rfl (by assumption) rfl rfl rfl trivial ?_
  refine reg_nil ?_
  refine awp_region ?_
  refine r_mv rfl trivial rfl ?_
  first | refine r_ixr sl_63 ty_3 rfl rfl (by decide) rfl trivial rfl ?_ | refine r_ixw sl_63 ty_3 rfl rfl (by decide) (by omega) trivial rfl ?_
  first | refine r_ld ty_3 rfl rfl rfl trivial rfl ?_ | refine r_ldr ty_3 rfl rfl trivial rfl ?_ | refine r_ldo ty_3 rfl rfl (by assumption) rfl trivial rfl ?_
  first | refine r_fld fld_37_3 rfl trivial rfl ?_ | refine r_fldr fld_37_3 rfl trivial rfl ?_
  first | refine r_st ty_3 rfl rfl rfl rfl rfl rfl rfl trivial ?_ | refine r_sto ty_3 rfl rfl rfl rfl (by assumption) rfl rfl rfl trivial ?_
  refine reg_nil ?_
  refine awp_seq ?_
  refine awp_region ?_
  first | refine r_lda ty_37 rfl rfl rfl rfl trivial rfl ?_ | refine r_ldra ty_37 rfl rfl rfl trivial rfl ?_ | refine r_ldoa ty_37 rfl rfl (by assumption) rfl rfl trivial rfl ?_
  first | refine r_st ty_37 rfl rfl rfl rfl rfl rfl rfl trivial ?_ | refine r_sto ty_37 rfl rfl rfl rfl (by assumption) rfl rfl rfl trivial ?_
  refine reg_nil ?_
  refine awp_ret ?_
  exact fin0' (.cons (.agg rfl rfl ty_37 (Nat.le_of_ble_eq_true rfl)) .nil) (by first | exact .fv | exact .frz rfl rfl trivial | exact .nil | exact .aggf' rfl | exact .aggf)
set_option maxRecDepth 100000 in
theorem eventOf_4t (slot gen : Int) : Fun Tryd.prog 28 [iA 4, .fv (.ro 1 (intsF [slot, gen, 1]))] [] [] (.agg (fvs (encEv ⟨4, 0, slot, gen, true, 0, 0, 0⟩))) [] := by
  refine fun_of_awp (rl := [.cell 4 37]) Tryd.func28 rfl Tryd.results28 Tryd.ntmps28 0 rfl (by simp) ?_
  intro w0 own0 ρ0 F hz
  refine awp_seq ?_
  refine awp_region ?_
  refine r_alloc z_37 rfl trivial rfl ?_
  refine reg_nil ?_
  refine awp_seq ?_
  refine awp_region ?_
  refine r_mv rfl trivial rfl ?_
  refine r_build pl_37 z_37 rfl rfl trivial rfl ?_
  refine r_alloc z_37 rfl trivial rfl ?_
  first | refine r_st ty_37 rfl rfl rfl rfl rfl rfl rfl trivial ?_ | refine r_sto ty_37 rfl rfl rfl rfl (by assumption) rfl rfl rfl trivial ?_
  refine reg_nil ?_
  refine awp_seq ?_
  refine awp_seq ?_
  refine awp_region ?_
  refine r_mv rfl trivial rfl ?_
  refine reg_nil ?_
  refine awp_block ?_
  refine awp_seq ?_
  refine awp_region ?_
  refine r_eqi rfl rfl trivial rfl ?_
  refine r_as rfl trivial rfl ?_
  refine reg_nil ?_
  refine awp_cond_f rfl ?_
  refine awp_seq ?_
  refine awp_seq ?_
  refine awp_region ?_
  refine r_eqi rfl rfl trivial rfl ?_
  refine r_as rfl trivial rfl ?_
  refine reg_nil ?_
  refine awp_cond_f rfl ?_
  refine awp_region ?_
  refine r_eqi rfl rfl trivial rfl ?_
  refine r_as rfl trivial rfl ?_
  refine reg_nil ?_
  refine awp_cond_f rfl ?_
  refine awp_seq ?_
  refine awp_region ?_
  refine r_eqi rfl rfl trivial rfl ?_
  refine r_as rfl trivial rfl ?_
  refine reg_nil ?_
  refine awp_cond_t rfl ?_
  refine awp_seq ?_
  refine awp_region ?_
  refine r_mv rfl trivial rfl ?_
  first | refine r_ixr sl_63 ty_3 rfl rfl (by decide) rfl trivial rfl ?_ | refine r_ixw sl_63 ty_3 rfl rfl (by decide) (by omega) trivial rfl ?_
  first | refine r_ld ty_3 rfl rfl rfl trivial rfl ?_ | refine r_ldr ty_3 rfl rfl trivial rfl ?_ | refine r_ldo ty_3 rfl rfl (by assumption) rfl trivial rfl ?_
  first | refine r_fld fld_37_2 rfl trivial rfl ?_ | refine r_fldr fld_37_2 rfl trivial rfl ?_
  first | refine r_st ty_3 rfl rfl rfl rfl rfl rfl rfl trivial ?_ | refine r_sto ty_3 rfl rfl rfl rfl (by assumption) rfl rfl rfl trivial ?_
  refine reg_nil ?_
  refine awp_seq ?_
  refine awp_region ?_
  refine r_mv rfl trivial rfl ?_
  first | refine r_ixr sl_63 ty_3 rfl rfl (by decide) rfl trivial rfl ?_ | refine r_ixw sl_63 ty_3 rfl rfl (by decide) (by omega) trivial rfl ?_
  first | refine r_ld ty_3 rfl rfl rfl trivial rfl ?_ | refine r_ldr ty_3 rfl rfl trivial rfl ?_ | refine r_ldo ty_3 rfl rfl (by assumption) rfl trivial rfl ?_
  first | refine r_fld fld_37_3 rfl trivial rfl ?_ | refine r_fldr fld_37_3 rfl trivial rfl ?_
  first | refine r_st ty_3 rfl rfl rfl rfl rfl rfl rfl trivial ?_ | refine r_sto ty_3 rfl rfl rfl rfl (by assumption) rfl rfl rfl trivial ?_
  refine reg_nil ?_
  refine awp_region ?_
  refine r_mv rfl trivial rfl ?_
  first | refine r_ixr sl_63 ty_3 rfl rfl (by decide) rfl trivial rfl ?_ | refine r_ixw sl_63 ty_3 rfl rfl (by decide) (by omega) trivial rfl ?_
  first | refine r_ld ty_3 rfl rfl rfl trivial rfl ?_ | refine r_ldr ty_3 rfl rfl trivial rfl ?_ | refine r_ldo ty_3 rfl rfl (by assumption) rfl trivial rfl ?_
  refine r_eqi rfl rfl trivial rfl ?_
  first | refine r_fld fld_37_4 rfl trivial rfl ?_ | refine r_fldr fld_37_4 rfl trivial rfl ?_
  first | refine r_st ty_4 rfl rfl rfl rfl rfl rfl rfl trivial ?_ | refine r_sto ty_4 rfl rfl rfl rfl (by assumption) rfl rfl rfl trivial ?_
  refine reg_nil ?_
  refine awp_seq ?_
  refine awp_region ?_
  first | refine r_lda ty_37 rfl rfl rfl rfl trivial rfl ?_ | refine r_ldra ty_37 rfl rfl rfl trivial rfl ?_ | refine r_ldoa ty_37 rfl rfl (by assumption) rfl rfl trivial rfl ?_
  first | refine r_st ty_37 rfl rfl rfl rfl rfl rfl rfl trivial ?_ | refine r_sto ty_37 rfl rfl rfl rfl (by assumption) rfl rfl rfl trivial ?_
  refine reg_nil ?_
  refine awp_ret ?_
  exact fin0' (.cons (.agg rfl rfl ty_37 (Nat.le_of_ble_eq_true rfl)) .nil) (by first | exact .fv | exact .frz rfl rfl trivial | exact .nil | exact .aggf' rfl | exact .aggf)
set_option maxRecDepth 100000 in
theorem eventOf_4f (slot gen : Int) : Fun Tryd.prog 28 [iA 4, .fv (.ro 1 (intsF [slot, gen, 0]))] [] [] (.agg (fvs (encEv ⟨4, 0, slot, gen, false, 0, 0, 0⟩))) [] := by
  refine fun_of_awp (rl := [.cell 4 37]) Tryd.func28 rfl Tryd.results28 Tryd.ntmps28 0 rfl (by simp) ?_
  intro w0 own0 ρ0 F hz
  refine awp_seq ?_
  refine awp_region ?_
  refine r_alloc z_37 rfl trivial rfl ?_
  refine reg_nil ?_
  refine awp_seq ?_
  refine awp_region ?_
  refine r_mv rfl trivial rfl ?_
  refine r_build pl_37 z_37 rfl rfl trivial rfl ?_
  refine r_alloc z_37 rfl trivial rfl ?_
  first | refine r_st ty_37 rfl rfl rfl rfl rfl rfl rfl trivial ?_ | refine r_sto ty_37 rfl rfl rfl rfl (by assumption) rfl rfl rfl trivial ?_
  refine reg_nil ?_
  refine awp_seq ?_
  refine awp_seq ?_
  refine awp_region ?_
  refine r_mv rfl trivial rfl ?_
  refine reg_nil ?_
  refine awp_block ?_
  refine awp_seq ?_
  refine awp_region ?_
  refine r_eqi rfl rfl trivial rfl ?_
  refine r_as rfl trivial rfl ?_
  refine reg_nil ?_
  refine awp_cond_f rfl ?_
  refine awp_seq ?_
  refine awp_seq ?_
  refine awp_region ?_
  refine r_eqi rfl rfl trivial rfl ?_
  refine r_as rfl trivial rfl ?_
  refine reg_nil ?_
  refine awp_cond_f rfl ?_
  refine awp_region ?_
  refine r_eqi rfl rfl trivial rfl ?_
  refine r_as rfl trivial rfl ?_
  refine reg_nil ?_
  refine awp_cond_f rfl ?_
  refine awp_seq ?_
  refine awp_region ?_
  refine r_eqi rfl rfl trivial rfl ?_
  refine r_as rfl trivial rfl ?_
  refine reg_nil ?_
  refine awp_cond_t rfl ?_
  refine awp_seq ?_
  refine awp_region ?_
  refine r_mv rfl trivial rfl ?_
  first | refine r_ixr sl_63 ty_3 rfl rfl (by decide) rfl trivial rfl ?_ | refine r_ixw sl_63 ty_3 rfl rfl (by decide) (by omega) trivial rfl ?_
  first | refine r_ld ty_3 rfl rfl rfl trivial rfl ?_ | refine r_ldr ty_3 rfl rfl trivial rfl ?_ | refine r_ldo ty_3 rfl rfl (by assumption) rfl trivial rfl ?_
  first | refine r_fld fld_37_2 rfl trivial rfl ?_ | refine r_fldr fld_37_2 rfl trivial rfl ?_
  first | refine r_st ty_3 rfl rfl rfl rfl rfl rfl rfl trivial ?_ | refine r_sto ty_3 rfl rfl rfl rfl (by assumption) rfl rfl rfl trivial ?_
  refine reg_nil ?_
  refine awp_seq ?_
  refine awp_region ?_
  refine r_mv rfl trivial rfl ?_
  first | refine r_ixr sl_63 ty_3 rfl rfl (by decide) rfl trivial rfl ?_ | refine r_ixw sl_63 ty_3 rfl rfl (by decide) (by omega) trivial rfl ?_
  first | refine r_ld ty_3 rfl rfl rfl trivial rfl ?_ | refine r_ldr ty_3 rfl rfl trivial rfl ?_ | refine r_ldo ty_3 rfl rfl (by assumption) rfl trivial rfl ?_
  first | refine r_fld fld_37_3 rfl trivial rfl ?_ | refine r_fldr fld_37_3 rfl trivial rfl ?_
  first | refine r_st ty_3 rfl rfl rfl rfl rfl rfl rfl trivial ?_ | refine r_sto ty_3 rfl rfl rfl rfl (by assumption) rfl rfl rfl trivial ?_
  refine reg_nil ?_
  refine awp_region ?_
  refine r_mv rfl trivial rfl ?_
  first | refine r_ixr sl_63 ty_3 rfl rfl (by decide) rfl trivial rfl ?_ | refine r_ixw sl_63 ty_3 rfl rfl (by decide) (by omega) trivial rfl ?_
  first | refine r_ld ty_3 rfl rfl rfl trivial rfl ?_ | refine r_ldr ty_3 rfl rfl trivial rfl ?_ | refine r_ldo ty_3 rfl rfl (by assumption) rfl trivial rfl ?_
  refine r_eqi rfl rfl trivial rfl ?_
  first | refine r_fld fld_37_4 rfl trivial rfl ?_ | refine r_fldr fld_37_4 rfl trivial rfl ?_
  first | refine r_st ty_4 rfl rfl rfl rfl rfl rfl rfl trivial ?_ | refine r_sto ty_4 rfl rfl rfl rfl (by assumption) rfl rfl rfl trivial ?_
  refine reg_nil ?_
  refine awp_seq ?_
  refine awp_region ?_
  first | refine r_lda ty_37 rfl rfl rfl rfl trivial rfl ?_ | refine r_ldra ty_37 rfl rfl rfl trivial rfl ?_ | refine r_ldoa ty_37 rfl rfl (by assumption) rfl rfl trivial rfl ?_
  first | refine r_st ty_37 rfl rfl rfl rfl rfl rfl rfl trivial ?_ | refine r_sto ty_37 rfl rfl rfl rfl (by assumption) rfl rfl rfl trivial ?_
  refine reg_nil ?_
  refine awp_ret ?_
  exact fin0' (.cons (.agg rfl rfl ty_37 (Nat.le_of_ble_eq_true rfl)) .nil) (by first | exact .fv | exact .frz rfl rfl trivial | exact .nil | exact .aggf' rfl | exact .aggf)
set_option maxRecDepth 100000 in
theorem eventOf_5 (request backend weight : Int) : Fun Tryd.prog 28 [iA 5, .fv (.ro 1 (intsF [request, backend, weight]))] [] [] (.agg (fvs (encEv ⟨5, 0, 0, 0, false, request, backend, weight⟩))) [] := by
  refine fun_of_awp (rl := [.cell 4 37]) Tryd.func28 rfl Tryd.results28 Tryd.ntmps28 0 rfl (by simp) ?_
  intro w0 own0 ρ0 F hz
  refine awp_seq ?_
  refine awp_region ?_
  refine r_alloc z_37 rfl trivial rfl ?_
  refine reg_nil ?_
  refine awp_seq ?_
  refine awp_region ?_
  refine r_mv rfl trivial rfl ?_
  refine r_build pl_37 z_37 rfl rfl trivial rfl ?_
  refine r_alloc z_37 rfl trivial rfl ?_
  first | refine r_st ty_37 rfl rfl rfl rfl rfl rfl rfl trivial ?_ | refine r_sto ty_37 rfl rfl rfl rfl (by assumption) rfl rfl rfl trivial ?_
  refine reg_nil ?_
  refine awp_seq ?_
  refine awp_seq ?_
  refine awp_region ?_
  refine r_mv rfl trivial rfl ?_
  refine reg_nil ?_
  refine awp_block ?_
  refine awp_seq ?_
  refine awp_region ?_
  refine r_eqi rfl rfl trivial rfl ?_
  refine r_as rfl trivial rfl ?_
  refine reg_nil ?_
  refine awp_cond_f rfl ?_
  refine awp_seq ?_
  refine awp_seq ?_
  refine awp_region ?_
  refine r_eqi rfl rfl trivial rfl ?_
  refine r_as rfl trivial rfl ?_
  refine reg_nil ?_
  refine awp_cond_f rfl ?_
  refine awp_region ?_
  refine r_eqi rfl rfl trivial rfl ?_
  refine r_as rfl trivial rfl ?_
  refine reg_nil ?_
  refine awp_cond_f rfl ?_
  refine awp_seq ?_
  refine awp_region ?_
  refine r_eqi rfl rfl trivial rfl ?_
  refine r_as rfl trivial rfl ?_
  refine reg_nil ?_
  refine awp_cond_f rfl ?_
  refine awp_seq ?_
  refine awp_region ?_
  refine r_eqi rfl rfl trivial rfl ?_
  refine r_as rfl trivial rfl ?_
  refine reg_nil ?_
  refine awp_cond_t rfl ?_
  refine awp_seq ?_
  refine awp_region ?_
  refine r_mv rfl trivial rfl ?_
  first | refine r_ixr sl_63 ty_3 rfl rfl (by decide) rfl trivial rfl ?_ | refine r_ixw sl_63 ty_3 rfl rfl (by decide) (by omega) trivial rfl ?_
  first | refine r_ld ty_3 rfl rfl rfl trivial rfl ?_ | refine r_ldr ty_3 rfl rfl trivial rfl ?_ | refine r_ldo ty_3 rfl rfl (by assumption) rfl trivial rfl ?_
  first | refine r_fld fld_37_5 rfl trivial rfl ?_ | refine r_fldr fld_37_5 rfl trivial rfl ?_
  first | refine r_st ty_3 rfl rfl rfl rfl rfl rfl rfl trivial ?_ | refine r_sto ty_3 rfl rfl rfl rfl (by assumption) rfl rfl rfl trivial ?_
  refine reg_nil ?_
  refine awp_seq ?_
  refine awp_region ?_
  refine r_mv rfl trivial rfl ?_
  first | refine r_ixr sl_63 ty_3 rfl rfl (by decide) rfl trivial rfl ?_ | refine r_ixw sl_63 ty_3 rfl rfl (by decide) (by omega) trivial rfl ?_
  first | refine r_ld ty_3 rfl rfl rfl trivial rfl ?_ | refine r_ldr ty_3 rfl rfl trivial rfl ?_ | refine r_ldo ty_3 rfl rfl (by assumption) rfl trivial rfl ?_
  first | refine r_fld fld_37_6 rfl trivial rfl ?_ | refine r_fldr fld_37_6 rfl trivial rfl ?_
  first | refine r_st ty_3 rfl rfl rfl rfl rfl rfl rfl trivial ?_ | refine r_sto ty_3 rfl rfl rfl rfl (by assumption) rfl rfl rfl trivial ?_
  refine reg_nil ?_
  refine awp_region ?_
  refine r_mv rfl trivial rfl ?_
  first | refine r_ixr sl_63 ty_3 rfl rfl (by decide) rfl trivial rfl ?_ | refine r_ixw sl_63 ty_3 rfl rfl (by decide) (by omega) trivial rfl ?_
  first | refine r_ld ty_3 rfl rfl rfl trivial rfl ?_ | refine r_ldr ty_3 rfl rfl trivial rfl ?_ | refine r_ldo ty_3 rfl rfl (by assumption) rfl trivial rfl ?_
  first | refine r_fld fld_37_7 rfl trivial rfl ?_ | refine r_fldr fld_37_7 rfl trivial rfl ?_
  first | refine r_st ty_3 rfl rfl rfl rfl rfl rfl rfl trivial ?_ | refine r_sto ty_3 rfl rfl rfl rfl (by assumption) rfl rfl rfl trivial ?_
  refine reg_nil ?_
  refine awp_seq ?_
  refine awp_region ?_
  first | refine r_lda ty_37 rfl rfl rfl rfl trivial rfl ?_ | refine r_ldra ty_37 rfl rfl rfl trivial rfl ?_ | refine r_ldoa ty_37 rfl rfl (by assumption) rfl rfl trivial rfl ?_
  first | refine r_st ty_37 rfl rfl rfl rfl rfl rfl rfl trivial ?_ | refine r_sto ty_37 rfl rfl rfl rfl (by assumption) rfl rfl rfl trivial ?_
  refine reg_nil ?_
  refine awp_ret ?_
  exact fin0' (.cons (.agg rfl rfl ty_37 (Nat.le_of_ble_eq_true rfl)) .nil) (by first | exact .fv | exact .frz rfl rfl trivial | exact .nil | exact .aggf' rfl | exact .aggf)
set_option maxRecDepth 100000 in
theorem eventOf_6 (request backend : Int) : Fun Tryd.prog 28 [iA 6, .fv (.ro 1 (intsF [request, backend]))] [] [] (.agg (fvs (encEv ⟨6, 0, 0, 0, false, request, backend, 0⟩))) [] := by
  refine fun_of_awp (rl := [.cell 4 37]) Tryd.func28 rfl Tryd.results28 Tryd.ntmps28 0 rfl (by simp) ?_
  intro w0 own0 ρ0 F hz
  refine awp_seq ?_
  refine awp_region ?_
  refine r_alloc z_37 rfl trivial rfl ?_
  refine reg_nil ?_
  refine awp_seq ?_
  refine awp_region ?_
  refine r_mv rfl trivial rfl ?_
  refine r_build pl_37 z_37 rfl rfl trivial rfl ?_
  refine r_alloc z_37 rfl trivial rfl ?_
  first | refine r_st ty_37 rfl rfl rfl rfl rfl rfl rfl trivial ?_ | refine r_sto ty_37 rfl rfl rfl rfl (by assumption) rfl rfl rfl trivial ?_
  refine reg_nil ?_
  refine awp_seq ?_
  refine awp_seq ?_
  refine awp_region ?_
  refine r_mv rfl trivial rfl ?_
  refine reg_nil ?_
  refine awp_block ?_
  refine awp_seq ?_
  refine awp_region ?_
  refine r_eqi rfl rfl trivial rfl ?_
  refine r_as rfl trivial rfl ?_
  refine reg_nil ?_
  refine awp_cond_f rfl ?_
  refine awp_seq ?_
  refine awp_seq ?_
  refine awp_region ?_
  refine r_eqi rfl rfl trivial rfl ?_
  refine r_as rfl trivial rfl ?_
  refine reg_nil ?_
  refine awp_cond_f rfl ?_
  refine awp_region ?_
  refine r_eqi rfl rfl trivial rfl ?_
  refine r_as rfl trivial rfl ?_
  refine reg_nil ?_
  refine awp_cond_f rfl ?_
  refine awp_seq ?_
  refine awp_region ?_
  refine r_eqi rfl rfl trivial rfl ?_
  refine r_as rfl trivial rfl ?_
  refine reg_nil ?_
  refine awp_cond_f rfl ?_
  refine awp_seq ?_
  refine awp_region ?_
  refine r_eqi rfl rfl trivial rfl ?_
  refine r_as rfl trivial rfl ?_
  refine reg_nil ?_
  refine awp_cond_f rfl ?_
  refine awp_seq ?_
  refine awp_region ?_
  refine r_eqi rfl rfl trivial rfl ?_
  refine r_as rfl trivial rfl ?_
  refine reg_nil ?_
  refine awp_cond_t rfl ?_
  refine awp_seq ?_
  refine awp_region ?_
  refine r_mv rfl trivial rfl ?_
  first | refine r_ixr sl_63 ty_3 rfl rfl (by decide) rfl trivial rfl ?_ | refine r_ixw sl_63 ty_3 rfl rfl (by decide) (by omega) trivial rfl ?_
  first | refine r_ld ty_3 rfl rfl rfl trivial rfl ?_ | refine r_ldr ty_3 rfl rfl trivial rfl ?_ | refine r_ldo ty_3 rfl rfl (by assumption) rfl trivial rfl ?_
  first | refine r_fld fld_37_5 rfl trivial rfl ?_ | refine r_fldr fld_37_5 rfl trivial rfl ?_
  first | refine r_st ty_3 rfl rfl rfl rfl rfl rfl rfl trivial ?_ | refine r_sto ty_3 rfl rfl rfl rfl (by assumption) rfl rfl rfl trivial ?_
  refine reg_nil ?_
  refine awp_region ?_
  refine r_mv rfl trivial rfl ?_
  first | refine r_ixr sl_63 ty_3 rfl rfl (by decide) rfl trivial rfl ?_ | refine r_ixw sl_63 ty_3 rfl rfl (by decide) (by omega) trivial rfl ?_
  first | refine r_ld ty_3 rfl rfl rfl trivial rfl ?_ | refine r_ldr ty_3 rfl rfl trivial rfl ?_ | refine r_ldo ty_3 rfl rfl (by assumption) rfl trivial rfl ?_
  first | refine r_fld fld_37_6 rfl trivial rfl ?_ | refine r_fldr fld_37_6 rfl trivial rfl ?_
  first | refine r_st ty_3 rfl rfl rfl rfl rfl rfl rfl trivial ?_ | refine r_sto ty_3 rfl rfl rfl rfl (by assumption) rfl rfl rfl trivial ?_
  refine reg_nil ?_
  refine awp_seq ?_
  refine awp_region ?_
  first | refine r_lda ty_37 rfl rfl rfl rfl trivial rfl ?_ | refine r_ldra ty_37 rfl rfl rfl trivial rfl ?_ | refine r_ldoa ty_37 rfl rfl (by assumption) rfl rfl trivial rfl ?_
  first | refine r_st ty_37 rfl rfl rfl rfl rfl rfl rfl trivial ?_ | refine r_sto ty_37 rfl rfl rfl rfl (by assumption) rfl rfl rfl trivial ?_
  refine reg_nil ?_
  refine awp_ret ?_
  exact fin0' (.cons (.agg rfl rfl ty_37 (Nat.le_of_ble_eq_true rfl)) .nil) (by first | exact .fv | exact .frz rfl rfl trivial | exact .nil | exact .aggf' rfl | exact .aggf)
set_option maxRecDepth 100000 in
theorem eventOf_7  : Fun Tryd.prog 28 [iA 7, .fv (.ro 1 (intsF []))] [] [] (.agg (fvs (encEv ⟨7, 0, 0, 0, false, 0, 0, 0⟩))) [] := by
  refine fun_of_awp (rl := [.cell 4 37]) Tryd.func28 rfl Tryd.results28 Tryd.ntmps28 0 rfl (by simp) ?_
  intro w0 own0 ρ0 F hz
  refine awp_seq ?_
  refine awp_region ?_
  refine r_alloc z_37 rfl trivial rfl ?_
  refine reg_nil ?_
  refine awp_seq ?_
  refine awp_region ?_
  refine r_mv rfl trivial rfl ?_
  refine r_build pl_37 z_37 rfl rfl trivial rfl ?_
  refine r_alloc z_37 rfl trivial rfl ?_
  first | refine r_st ty_37 rfl rfl rfl rfl rfl rfl rfl trivial ?_ | refine r_sto ty_37 rfl rfl rfl rfl (by assumption) rfl rfl rfl trivial ?_
  refine reg_nil ?_
  refine awp_seq ?_
  refine awp_seq ?_
  refine awp_region ?_
  refine r_mv rfl trivial rfl ?_
  refine reg_nil ?_
  refine awp_block ?_
  refine awp_seq ?_
  refine awp_region ?_
  refine r_eqi rfl rfl trivial rfl ?_
  refine r_as rfl trivial rfl ?_
  refine reg_nil ?_
  refine awp_cond_f rfl ?_
  refine awp_seq ?_
  refine awp_seq ?_
  refine awp_region ?_
  refine r_eqi rfl rfl trivial rfl ?_
  refine r_as rfl trivial rfl ?_
  refine reg_nil ?_
  refine awp_cond_f rfl ?_
  refine awp_region ?_
  refine r_eqi rfl rfl trivial rfl ?_
  refine r_as rfl trivial rfl ?_
  refine reg_nil ?_
  refine awp_cond_f rfl ?_
  refine awp_seq ?_
  refine awp_region ?_
  refine r_eqi rfl rfl trivial rfl ?_
  refine r_as rfl trivial rfl ?_
  refine reg_nil ?_
  refine awp_cond_f rfl ?_
  refine awp_seq ?_
  refine awp_region ?_
  refine r_eqi rfl rfl trivial rfl ?_
  refine r_as rfl trivial rfl ?_
  refine reg_nil ?_
  refine awp_cond_f rfl ?_
  refine awp_seq ?_
  refine awp_region ?_
  refine r_eqi rfl rfl trivial rfl ?_
  refine r_as rfl trivial rfl ?_
  refine reg_nil ?_
  refine awp_cond_f rfl ?_
  refine awp_skip ?_
  refine awp_seq ?_
  refine awp_region ?_
  first | refine r_lda ty_37 rfl rfl rfl rfl trivial rfl ?_ | refine r_ldra ty_37 rfl rfl rfl trivial rfl ?_ | refine r_ldoa ty_37 rfl rfl (by assumption) rfl rfl trivial rfl ?_
  first | refine r_st ty_37 rfl rfl rfl rfl rfl rfl rfl trivial ?_ | refine r_sto ty_37 rfl rfl rfl rfl (by assumption) rfl rfl rfl trivial ?_
  refine reg_nil ?_
  refine awp_ret ?_
  exact fin0' (.cons (.agg rfl rfl ty_37 (Nat.le_of_ble_eq_true rfl)) .nil) (by first | exact .fv | exact .frz rfl rfl trivial | exact .nil | exact .aggf' rfl | exact .aggf)
set_option maxRecDepth 100000 in
theorem fault_1 (key slot gen : Int) (good : Bool) (request backend weight : Int) : Fun Tryd.prog 15 [.agg (fvs (encEv ⟨1, key, slot, gen, good, request, backend, weight⟩))] [] [] (iA (checkEv ⟨1, key, slot, gen, good, request, backend, weight⟩)) [] := by
  refine fun_of_awp (rl := [.tmp 2]) Tryd.func15 rfl Tryd.results15 Tryd.ntmps15 0 rfl (by simp) ?_
  intro w0 own0 ρ0 F hz
  refine awp_seq ?_
  refine awp_region ?_
  refine r_box rfl rfl rfl trivial rfl ?_
  refine r_as rfl trivial rfl ?_
  refine reg_nil ?_
  refine awp_seq ?_
  refine awp_region ?_
  first | refine r_lda ty_37 rfl rfl rfl rfl trivial rfl ?_ | refine r_ldra ty_37 rfl rfl rfl trivial rfl ?_ | refine r_ldoa ty_37 rfl rfl (by assumption) rfl rfl trivial rfl ?_
  refine r_call (numbers_1 key slot gen good request backend weight) cb_26 rfl rfl rfl ?_ trivial rfl ?_
  · (repeat (first | exact .nil | refine .cons .fv ?_ | refine .cons (.aggf' rfl) ?_ | refine .cons .nil ?_ | refine .cons (.ren rfl) ?_))
  refine r_mv rfl trivial rfl ?_
  refine r_ext rfl rfl trivial rfl ?_
  refine r_ext rfl rfl trivial rfl ?_
  refine r_ext rfl rfl trivial rfl ?_
  refine r_ext rfl rfl trivial rfl ?_
  refine r_as rfl trivial rfl ?_
  refine r_as rfl trivial rfl ?_
  refine r_as rfl trivial rfl ?_
  refine r_as rfl trivial rfl ?_
  refine reg_nil ?_
  refine awp_seq ?_
  refine awp_seq ?_
  refine awp_region ?_
  refine r_mv rfl trivial rfl ?_
  first | refine r_notd rfl trivial rfl ?_ | refine r_not rfl trivial rfl ?_
  refine reg_nil ?_
  refine awp_cond_f rfl ?_
  refine awp_skip ?_
  refine awp_seq ?_
  refine awp_seq ?_
  refine awp_region ?_
  refine r_as rfl trivial rfl ?_
  refine reg_nil ?_
  refine awp_block ?_
  refine awp_unroll 2 ?_
  refine unr_succ ?_
  refine awp_seq ?_
  refine awp_seq ?_
  refine awp_region ?_
  refine r_mv rfl trivial rfl ?_
  refine r_mv rfl trivial rfl ?_
  first | refine r_lenr sl_63 rfl trivial rfl ?_ | refine r_lenw sl_63 rfl trivial rfl ?_ | refine r_len0 sl_63 rfl trivial rfl ?_
  refine r_lss rfl rfl trivial rfl ?_
  refine reg_nil ?_
  refine awp_cond_t rfl ?_
  refine awp_skip ?_
  refine awp_seq ?_
  refine awp_block ?_
  refine awp_seq ?_
  refine awp_draw mix rfl ?_
  refine r_mv rfl trivial rfl ?_
  refine r_mv rfl trivial rfl ?_
  first | refine r_ixr sl_63 ty_3 rfl rfl (by decide) rfl trivial rfl ?_ | refine r_ixw sl_63 ty_3 rfl rfl (by decide) (by omega) trivial rfl ?_
  first | refine r_ld ty_3 rfl rfl rfl trivial rfl ?_ | refine r_ldr ty_3 rfl rfl trivial rfl ?_ | refine r_ldo ty_3 rfl rfl (by assumption) rfl trivial rfl ?_
  refine r_mv rfl trivial rfl ?_
  refine r_mv rfl trivial rfl ?_
  first | refine r_ixr sl_63 ty_3 rfl rfl (by decide) rfl trivial rfl ?_ | refine r_ixw sl_63 ty_3 rfl rfl (by decide) (by omega) trivial rfl ?_
  first | refine r_ld ty_3 rfl rfl rfl trivial rfl ?_ | refine r_ldr ty_3 rfl rfl trivial rfl ?_ | refine r_ldo ty_3 rfl rfl (by assumption) rfl trivial rfl ?_
  refine r_mv rfl trivial rfl ?_
  refine r_mv rfl trivial rfl ?_
  first | refine r_ixr sl_63 ty_3 rfl rfl (by decide) rfl trivial rfl ?_ | refine r_ixw sl_63 ty_3 rfl rfl (by decide) (by omega) trivial rfl ?_
  first | refine r_ld ty_3 rfl rfl rfl trivial rfl ?_ | refine r_ldr ty_3 rfl rfl trivial rfl ?_ | refine r_ldo ty_3 rfl rfl (by assumption) rfl trivial rfl ?_
  refine r_call (in_ok key 0 4294967295) cb_27 rfl rfl rfl ?_ trivial rfl ?_
  · (repeat (first | exact .nil | refine .cons .fv ?_ | refine .cons (.aggf' rfl) ?_ | refine .cons .nil ?_ | refine .cons (.ren rfl) ?_))
  first | refine r_notd rfl trivial rfl ?_ | refine r_not rfl trivial rfl ?_
  refine reg_nil ⟨rfl, ?_⟩
  first | refine awp_cond_dec rfl (fun h1 => ?_) (fun h1 => ?_) | refine awp_cond rfl (fun h1 => ?_) (fun h1 => ?_)
  · refine awp_seq ?_
    refine awp_region ?_
    refine r_as rfl trivial rfl ?_
    refine reg_nil ?_
    refine awp_ret ?_
    refine fin0 (.cons (.tmp rfl) .nil) (by first | exact .fv | exact .frz rfl rfl trivial | exact .nil | exact .aggf' rfl | exact .aggf) ?_
    first | (simp_all [checkEv, fieldsOf, restEv, zeroEv, eq_comm (a := (0:Int))]; done) | (simp_all [checkEv, fieldsOf, restEv, zeroEv, eq_comm (a := (0:Int))] <;> omega) | (simp [checkEv, fieldsOf, restEv, zeroEv] at *; grind)
  · refine awp_skip ?_
    refine awp_region ?_
    refine r_mv rfl trivial rfl ?_
    refine r_add rfl rfl (rng64 (by omega)) trivial rfl ?_
    refine r_as rfl trivial rfl ?_
    refine reg_nil ?_
    refine unr_succ ?_
    refine awp_seq ?_
    refine awp_seq ?_
    refine awp_region ?_
    refine r_mv rfl trivial rfl ?_
    refine r_mv rfl trivial rfl ?_
    first | refine r_lenr sl_63 rfl trivial rfl ?_ | refine r_lenw sl_63 rfl trivial rfl ?_ | refine r_len0 sl_63 rfl trivial rfl ?_
    refine r_lss rfl rfl trivial rfl ?_
    refine reg_nil ?_
    refine awp_cond_f rfl ?_
    refine awp_exit ?_
    refine awp_seq ?_
    refine awp_seq ?_
    refine awp_draw mix rfl ?_
    first | refine r_fld fld_37_0 rfl trivial rfl ?_ | refine r_fldr fld_37_0 rfl trivial rfl ?_
    first | refine r_ld ty_3 rfl rfl rfl trivial rfl ?_ | refine r_ldr ty_3 rfl rfl trivial rfl ?_ | refine r_ldo ty_3 rfl rfl (by assumption) rfl trivial rfl ?_
    refine r_mv rfl trivial rfl ?_
    refine r_call (eventOf_1 key) cb_28 rfl rfl rfl ?_ trivial rfl ?_
    · (repeat (first | exact .nil | refine .cons .fv ?_ | refine .cons (.aggf' rfl) ?_ | refine .cons .nil ?_ | refine .cons (.ren rfl) ?_))
    first | refine r_lda ty_37 rfl rfl rfl rfl trivial rfl ?_ | refine r_ldra ty_37 rfl rfl rfl trivial rfl ?_ | refine r_ldoa ty_37 rfl rfl (by assumption) rfl rfl trivial rfl ?_
    refine r_nes flat_37 (by decide) agg_37 eqg_37 rfl rfl rfl rfl rfl rfl (eqVs_ev ⟨1, key, 0, 0, false, 0, 0, 0⟩ ⟨1, key, slot, gen, good, request, backend, weight⟩) trivial rfl ?_
    refine reg_nil ⟨rfl, ?_⟩
    first | refine awp_cond_dec rfl (fun h2 => ?_) (fun h2 => ?_) | refine awp_cond rfl (fun h2 => ?_) (fun h2 => ?_)
    · refine awp_seq ?_
      refine awp_region ?_
      refine r_as rfl trivial rfl ?_
      refine reg_nil ?_
      refine awp_ret ?_
      refine fin0 (.cons (.tmp rfl) .nil) (by first | exact .fv | exact .frz rfl rfl trivial | exact .nil | exact .aggf' rfl | exact .aggf) ?_
      first | (simp_all [checkEv, fieldsOf, restEv, zeroEv, eq_comm (a := (0:Int))]; done) | (simp_all [checkEv, fieldsOf, restEv, zeroEv, eq_comm (a := (0:Int))] <;> omega) | (simp [checkEv, fieldsOf, restEv, zeroEv] at *; grind)
    · refine awp_skip ?_
      refine awp_seq ?_
      refine awp_region ?_
      refine r_as rfl trivial rfl ?_
      refine reg_nil ?_
      refine awp_ret ?_
      refine fin0 (.cons (.tmp rfl) .nil) (by first | exact .fv | exact .frz rfl rfl trivial | exact .nil | exact .aggf' rfl | exact .aggf) ?_
      first | (simp_all [checkEv, fieldsOf, restEv, zeroEv, eq_comm (a := (0:Int))]; done) | (simp_all [checkEv, fieldsOf, restEv, zeroEv, eq_comm (a := (0:Int))] <;> omega) | (simp [checkEv, fieldsOf, restEv, zeroEv] at *; grind)
set_option maxRecDepth 100000 in
theorem fault_2 (key slot gen : Int) (good : Bool) (request backend weight : Int) : Fun Tryd.prog 15 [.agg (fvs (encEv ⟨2, key, slot, gen, good, request, backend, weight⟩))] [] [] (iA (checkEv ⟨2, key, slot, gen, good, request, backend, weight⟩)) [] := by
  refine fun_of_awp (rl := [.tmp 2]) Tryd.func15 rfl Tryd.results15 Tryd.ntmps15 0 rfl (by simp) ?_
  intro w0 own0 ρ0 F hz
  refine awp_seq ?_
  refine awp_region ?_
  refine r_box rfl rfl rfl trivial rfl ?_
  refine r_as rfl trivial rfl ?_
  refine reg_nil ?_
  refine awp_seq ?_
  refine awp_region ?_
  first | refine r_lda ty_37 rfl rfl rfl rfl trivial rfl ?_ | refine r_ldra ty_37 rfl rfl rfl trivial rfl ?_ | refine r_ldoa ty_37 rfl rfl (by assumption) rfl rfl trivial rfl ?_
  refine r_call (numbers_2 key slot gen good request backend weight) cb_26 rfl rfl rfl ?_ trivial rfl ?_
  · (repeat (first | exact .nil | refine .cons .fv ?_ | refine .cons (.aggf' rfl) ?_ | refine .cons .nil ?_ | refine .cons (.ren rfl) ?_))
  refine r_mv rfl trivial rfl ?_
  refine r_ext rfl rfl trivial rfl ?_
  refine r_ext rfl rfl trivial rfl ?_
  refine r_ext rfl rfl trivial rfl ?_
  refine r_ext rfl rfl trivial rfl ?_
  refine r_as rfl trivial rfl ?_
  refine r_as rfl trivial rfl ?_
  refine r_as rfl trivial rfl ?_
  refine r_as rfl trivial rfl ?_
  refine reg_nil ?_
  refine awp_seq ?_
  refine awp_seq ?_
  refine awp_region ?_
  refine r_mv rfl trivial rfl ?_
  first | refine r_notd rfl trivial rfl ?_ | refine r_not rfl trivial rfl ?_
  refine reg_nil ?_
  refine awp_cond_f rfl ?_
  refine awp_skip ?_
  refine awp_seq ?_
  refine awp_seq ?_
  refine awp_region ?_
  refine r_as rfl trivial rfl ?_
  refine reg_nil ?_
  refine awp_block ?_
  refine awp_unroll 3 ?_
  refine unr_succ ?_
  refine awp_seq ?_
  refine awp_seq ?_
  refine awp_region ?_
  refine r_mv rfl trivial rfl ?_
  refine r_mv rfl trivial rfl ?_
  first | refine r_lenr sl_63 rfl trivial rfl ?_ | refine r_lenw sl_63 rfl trivial rfl ?_ | refine r_len0 sl_63 rfl trivial rfl ?_
  refine r_lss rfl rfl trivial rfl ?_
  refine reg_nil ?_
  refine awp_cond_t rfl ?_
  refine awp_skip ?_
  refine awp_seq ?_
  refine awp_block ?_
  refine awp_seq ?_
  refine awp_draw mix rfl ?_
  refine r_mv rfl trivial rfl ?_
  refine r_mv rfl trivial rfl ?_
  first | refine r_ixr sl_63 ty_3 rfl rfl (by decide) rfl trivial rfl ?_ | refine r_ixw sl_63 ty_3 rfl rfl (by decide) (by omega) trivial rfl ?_
  first | refine r_ld ty_3 rfl rfl rfl trivial rfl ?_ | refine r_ldr ty_3 rfl rfl trivial rfl ?_ | refine r_ldo ty_3 rfl rfl (by assumption) rfl trivial rfl ?_
  refine r_mv rfl trivial rfl ?_
  refine r_mv rfl trivial rfl ?_
  first | refine r_ixr sl_63 ty_3 rfl rfl (by decide) rfl trivial rfl ?_ | refine r_ixw sl_63 ty_3 rfl rfl (by decide) (by omega) trivial rfl ?_
  first | refine r_ld ty_3 rfl rfl rfl trivial rfl ?_ | refine r_ldr ty_3 rfl rfl trivial rfl ?_ | refine r_ldo ty_3 rfl rfl (by assumption) rfl trivial rfl ?_
  refine r_mv rfl trivial rfl ?_
  refine r_mv rfl trivial rfl ?_
  first | refine r_ixr sl_63 ty_3 rfl rfl (by decide) rfl trivial rfl ?_ | refine r_ixw sl_63 ty_3 rfl rfl (by decide) (by omega) trivial rfl ?_
  first | refine r_ld ty_3 rfl rfl rfl trivial rfl ?_ | refine r_ldr ty_3 rfl rfl trivial rfl ?_ | refine r_ldo ty_3 rfl rfl (by assumption) rfl trivial rfl ?_
  refine r_call (in_ok slot 0 39) cb_27 rfl rfl rfl ?_ trivial rfl ?_
  · (repeat (first | exact .nil | refine .cons .fv ?_ | refine .cons (.aggf' rfl) ?_ | refine .cons .nil ?_ | refine .cons (.ren rfl) ?_))
  first | refine r_notd rfl trivial rfl ?_ | refine r_not rfl trivial rfl ?_
  refine reg_nil ⟨rfl, ?_⟩
  first | refine awp_cond_dec rfl (fun h1 => ?_) (fun h1 => ?_) | refine awp_cond rfl (fun h1 => ?_) (fun h1 => ?_)
  · refine awp_seq ?_
    refine awp_region ?_
    refine r_as rfl trivial rfl ?_
    refine reg_nil ?_
    refine awp_ret ?_
    refine fin0 (.cons (.tmp rfl) .nil) (by first | exact .fv | exact .frz rfl rfl trivial | exact .nil | exact .aggf' rfl | exact .aggf) ?_
    first | (simp_all [checkEv, fieldsOf, restEv, zeroEv, eq_comm (a := (0:Int))]; done) | (simp_all [checkEv, fieldsOf, restEv, zeroEv, eq_comm (a := (0:Int))] <;> omega) | (simp [checkEv, fieldsOf, restEv, zeroEv] at *; grind)
  · refine awp_skip ?_
    refine awp_region ?_
    refine r_mv rfl trivial rfl ?_
    refine r_add rfl rfl (rng64 (by omega)) trivial rfl ?_
    refine r_as rfl trivial rfl ?_
    refine reg_nil ?_
    refine unr_succ ?_
    refine awp_seq ?_
    refine awp_seq ?_
    refine awp_region ?_
    refine r_mv rfl trivial rfl ?_
    refine r_mv rfl trivial rfl ?_
    first | refine r_lenr sl_63 rfl trivial rfl ?_ | refine r_lenw sl_63 rfl trivial rfl ?_ | refine r_len0 sl_63 rfl trivial rfl ?_
    refine r_lss rfl rfl trivial rfl ?_
    refine reg_nil ?_
    refine awp_cond_t rfl ?_
    refine awp_skip ?_
    refine awp_seq ?_
    refine awp_block ?_
    refine awp_seq ?_
    refine awp_draw mix rfl ?_
    refine r_mv rfl trivial rfl ?_
    refine r_mv rfl trivial rfl ?_
    first | refine r_ixr sl_63 ty_3 rfl rfl (by decide) rfl trivial rfl ?_ | refine r_ixw sl_63 ty_3 rfl rfl (by decide) (by omega) trivial rfl ?_
    first | refine r_ld ty_3 rfl rfl rfl trivial rfl ?_ | refine r_ldr ty_3 rfl rfl trivial rfl ?_ | refine r_ldo ty_3 rfl rfl (by assumption) rfl trivial rfl ?_
    refine r_mv rfl trivial rfl ?_
    refine r_mv rfl trivial rfl ?_
    first | refine r_ixr sl_63 ty_3 rfl rfl (by decide) rfl trivial rfl ?_ | refine r_ixw sl_63 ty_3 rfl rfl (by decide) (by omega) trivial rfl ?_
    first | refine r_ld ty_3 rfl rfl rfl trivial rfl ?_ | refine r_ldr ty_3 rfl rfl trivial rfl ?_ | refine r_ldo ty_3 rfl rfl (by assumption) rfl trivial rfl ?_
    refine r_mv rfl trivial rfl ?_
    refine r_mv rfl trivial rfl ?_
    first | refine r_ixr sl_63 ty_3 rfl rfl (by decide) rfl trivial rfl ?_ | refine r_ixw sl_63 ty_3 rfl rfl (by decide) (by omega) trivial rfl ?_
    first | refine r_ld ty_3 rfl rfl rfl trivial rfl ?_ | refine r_ldr ty_3 rfl rfl trivial rfl ?_ | refine r_ldo ty_3 rfl rfl (by assumption) rfl trivial rfl ?_
    refine r_call (in_ok gen 0 1048576) cb_27 rfl rfl rfl ?_ trivial rfl ?_
    · (repeat (first | exact .nil | refine .cons .fv ?_ | refine .cons (.aggf' rfl) ?_ | refine .cons .nil ?_ | refine .cons (.ren rfl) ?_))
    first | refine r_notd rfl trivial rfl ?_ | refine r_not rfl trivial rfl ?_
    refine reg_nil ⟨rfl, ?_⟩
    first | refine awp_cond_dec rfl (fun h2 => ?_) (fun h2 => ?_) | refine awp_cond rfl (fun h2 => ?_) (fun h2 => ?_)
    · refine awp_seq ?_
      refine awp_region ?_
      refine r_as rfl trivial rfl ?_
      refine reg_nil ?_
      refine awp_ret ?_
      refine fin0 (.cons (.tmp rfl) .nil) (by first | exact .fv | exact .frz rfl rfl trivial | exact .nil | exact .aggf' rfl | exact .aggf) ?_
      first | (simp_all [checkEv, fieldsOf, restEv, zeroEv, eq_comm (a := (0:Int))]; done) | (simp_all [checkEv, fieldsOf, restEv, zeroEv, eq_comm (a := (0:Int))] <;> omega) | (simp [checkEv, fieldsOf, restEv, zeroEv] at *; grind)
    · refine awp_skip ?_
      refine awp_region ?_
      refine r_mv rfl trivial rfl ?_
      refine r_add rfl rfl (rng64 (by omega)) trivial rfl ?_
      refine r_as rfl trivial rfl ?_
      refine reg_nil ?_
      refine unr_succ ?_
      refine awp_seq ?_
      refine awp_seq ?_
      refine awp_region ?_
      refine r_mv rfl trivial rfl ?_
      refine r_mv rfl trivial rfl ?_
      first | refine r_lenr sl_63 rfl trivial rfl ?_ | refine r_lenw sl_63 rfl trivial rfl ?_ | refine r_len0 sl_63 rfl trivial rfl ?_
      refine r_lss rfl rfl trivial rfl ?_
      refine reg_nil ?_
      refine awp_cond_f rfl ?_
      refine awp_exit ?_
      refine awp_seq ?_
      refine awp_seq ?_
      refine awp_draw mix rfl ?_
      first | refine r_fld fld_37_0 rfl trivial rfl ?_ | refine r_fldr fld_37_0 rfl trivial rfl ?_
      first | refine r_ld ty_3 rfl rfl rfl trivial rfl ?_ | refine r_ldr ty_3 rfl rfl trivial rfl ?_ | refine r_ldo ty_3 rfl rfl (by assumption) rfl trivial rfl ?_
      refine r_mv rfl trivial rfl ?_
      refine r_call (eventOf_2 slot gen) cb_28 rfl rfl rfl ?_ trivial rfl ?_
      · (repeat (first | exact .nil | refine .cons .fv ?_ | refine .cons (.aggf' rfl) ?_ | refine .cons .nil ?_ | refine .cons (.ren rfl) ?_))
      first | refine r_lda ty_37 rfl rfl rfl rfl trivial rfl ?_ | refine r_ldra ty_37 rfl rfl rfl trivial rfl ?_ | refine r_ldoa ty_37 rfl rfl (by assumption) rfl rfl trivial rfl ?_
      refine r_nes flat_37 (by decide) agg_37 eqg_37 rfl rfl rfl rfl rfl rfl (eqVs_ev ⟨2, 0, slot, gen, false, 0, 0, 0⟩ ⟨2, key, slot, gen, good, request, backend, weight⟩) trivial rfl ?_
      refine reg_nil ⟨rfl, ?_⟩
      first | refine awp_cond_dec rfl (fun h3 => ?_) (fun h3 => ?_) | refine awp_cond rfl (fun h3 => ?_) (fun h3 => ?_)
      · refine awp_seq ?_
        refine awp_region ?_
        refine r_as rfl trivial rfl ?_
        refine reg_nil ?_
        refine awp_ret ?_
        refine fin0 (.cons (.tmp rfl) .nil) (by first | exact .fv | exact .frz rfl rfl trivial | exact .nil | exact .aggf' rfl | exact .aggf) ?_
        first | (simp_all [checkEv, fieldsOf, restEv, zeroEv, eq_comm (a := (0:Int))]; done) | (simp_all [checkEv, fieldsOf, restEv, zeroEv, eq_comm (a := (0:Int))] <;> omega) | (simp [checkEv, fieldsOf, restEv, zeroEv] at *; grind)
      · refine awp_skip ?_
        refine awp_seq ?_
        refine awp_region ?_
        refine r_as rfl trivial rfl ?_
        refine reg_nil ?_
        refine awp_ret ?_
        refine fin0 (.cons (.tmp rfl) .nil) (by first | exact .fv | exact .frz rfl rfl trivial | exact .nil | exact .aggf' rfl | exact .aggf) ?_
        first | (simp_all [checkEv, fieldsOf, restEv, zeroEv, eq_comm (a := (0:Int))]; done) | (simp_all [checkEv, fieldsOf, restEv, zeroEv, eq_comm (a := (0:Int))] <;> omega) | (simp [checkEv, fieldsOf, restEv, zeroEv] at *; grind)
set_option maxRecDepth 100000 in
theorem fault_3 (key slot gen : Int) (good : Bool) (request backend weight : Int) : Fun Tryd.prog 15 [.agg (fvs (encEv ⟨3, key, slot, gen, good, request, backend, weight⟩))] [] [] (iA (checkEv ⟨3, key, slot, gen, good, request, backend, weight⟩)) [] := by
  refine fun_of_awp (rl := [.tmp 2]) Tryd.func15 rfl Tryd.results15 Tryd.ntmps15 0 rfl (by simp) ?_
  intro w0 own0 ρ0 F hz
  refine awp_seq ?_
  refine awp_region ?_
  refine r_box rfl rfl rfl trivial rfl ?_
  refine r_as rfl trivial rfl ?_
  refine reg_nil ?_
  refine awp_seq ?_
  refine awp_region ?_
  first | refine r_lda ty_37 rfl rfl rfl rfl trivial rfl ?_ | refine r_ldra ty_37 rfl rfl rfl trivial rfl ?_ | refine r_ldoa ty_37 rfl rfl (by assumption) rfl rfl trivial rfl ?_
  refine r_call (numbers_3 key slot gen good request backend weight) cb_26 rfl rfl rfl ?_ trivial rfl ?_
  · (repeat (first | exact .nil | refine .cons .fv ?_ | refine .cons (.aggf' rfl) ?_ | refine .cons .nil ?_ | refine .cons (.ren rfl) ?_))
  refine r_mv rfl trivial rfl ?_
  refine r_ext rfl rfl trivial rfl ?_
  refine r_ext rfl rfl trivial rfl ?_
  refine r_ext rfl rfl trivial rfl ?_
  refine r_ext rfl rfl trivial rfl ?_
  refine r_as rfl trivial rfl ?_
  refine r_as rfl trivial rfl ?_
  refine r_as rfl trivial rfl ?_
  refine r_as rfl trivial rfl ?_
  refine reg_nil ?_
  refine awp_seq ?_
  refine awp_seq ?_
  refine awp_region ?_
  refine r_mv rfl trivial rfl ?_
  first | refine r_notd rfl trivial rfl ?_ | refine r_not rfl trivial rfl ?_
  refine reg_nil ?_
  refine awp_cond_f rfl ?_
  refine awp_skip ?_
  refine awp_seq ?_
  refine awp_seq ?_
  refine awp_region ?_
  refine r_as rfl trivial rfl ?_
  refine reg_nil ?_
  refine awp_block ?_
  refine awp_unroll 3 ?_
  refine unr_succ ?_
  refine awp_seq ?_
  refine awp_seq ?_
  refine awp_region ?_
  refine r_mv rfl trivial rfl ?_
  refine r_mv rfl trivial rfl ?_
  first | refine r_lenr sl_63 rfl trivial rfl ?_ | refine r_lenw sl_63 rfl trivial rfl ?_ | refine r_len0 sl_63 rfl trivial rfl ?_
  refine r_lss rfl rfl trivial rfl ?_
  refine reg_nil ?_
  refine awp_cond_t rfl ?_
  refine awp_skip ?_
  refine awp_seq ?_
  refine awp_block ?_
  refine awp_seq ?_
  refine awp_draw mix rfl ?_
  refine r_mv rfl trivial rfl ?_
  refine r_mv rfl trivial rfl ?_
  first | refine r_ixr sl_63 ty_3 rfl rfl (by decide) rfl trivial rfl ?_ | refine r_ixw sl_63 ty_3 rfl rfl (by decide) (by omega) trivial rfl ?_
  first | refine r_ld ty_3 rfl rfl rfl trivial rfl ?_ | refine r_ldr ty_3 rfl rfl trivial rfl ?_ | refine r_ldo ty_3 rfl rfl (by assumption) rfl trivial rfl ?_
  refine r_mv rfl trivial rfl ?_
  refine r_mv rfl trivial rfl ?_
  first | refine r_ixr sl_63 ty_3 rfl rfl (by decide) rfl trivial rfl ?_ | refine r_ixw sl_63 ty_3 rfl rfl (by decide) (by omega) trivial rfl ?_
  first | refine r_ld ty_3 rfl rfl rfl trivial rfl ?_ | refine r_ldr ty_3 rfl rfl trivial rfl ?_ | refine r_ldo ty_3 rfl rfl (by assumption) rfl trivial rfl ?_
  refine r_mv rfl trivial rfl ?_
  refine r_mv rfl trivial rfl ?_
  first | refine r_ixr sl_63 ty_3 rfl rfl (by decide) rfl trivial rfl ?_ | refine r_ixw sl_63 ty_3 rfl rfl (by decide) (by omega) trivial rfl ?_
  first | refine r_ld ty_3 rfl rfl rfl trivial rfl ?_ | refine r_ldr ty_3 rfl rfl trivial rfl ?_ | refine r_ldo ty_3 rfl rfl (by assumption) rfl trivial rfl ?_
  refine r_call (in_ok slot 0 39) cb_27 rfl rfl rfl ?_ trivial rfl ?_
  · (repeat (first | exact .nil | refine .cons .fv ?_ | refine .cons (.aggf' rfl) ?_ | refine .cons .nil ?_ | refine .cons (.ren rfl) ?_))
  first | refine r_notd rfl trivial rfl ?_ | refine r_not rfl trivial rfl ?_
  refine reg_nil ⟨rfl, ?_⟩
  first | refine awp_cond_dec rfl (fun h1 => ?_) (fun h1 => ?_) | refine awp_cond rfl (fun h1 => ?_) (fun h1 => ?_)
  · refine awp_seq ?_
    refine awp_region ?_
    refine r_as rfl trivial rfl ?_
    refine reg_nil ?_
    refine awp_ret ?_
    refine fin0 (.cons (.tmp rfl) .nil) (by first | exact .fv | exact .frz rfl rfl trivial | exact .nil | exact .aggf' rfl | exact .aggf) ?_
    first | (simp_all [checkEv, fieldsOf, restEv, zeroEv, eq_comm (a := (0:Int))]; done) | (simp_all [checkEv, fieldsOf, restEv, zeroEv, eq_comm (a := (0:Int))] <;> omega) | (simp [checkEv, fieldsOf, restEv, zeroEv] at *; grind)
  · refine awp_skip ?_
    refine awp_region ?_
    refine r_mv rfl trivial rfl ?_
    refine r_add rfl rfl (rng64 (by omega)) trivial rfl ?_
    refine r_as rfl trivial rfl ?_
    refine reg_nil ?_
    refine unr_succ ?_
    refine awp_seq ?_
    refine awp_seq ?_
    refine awp_region ?_
    refine r_mv rfl trivial rfl ?_
    refine r_mv rfl trivial rfl ?_
    first | refine r_lenr sl_63 rfl trivial rfl ?_ | refine r_lenw sl_63 rfl trivial rfl ?_ | refine r_len0 sl_63 rfl trivial rfl ?_
    refine r_lss rfl rfl trivial rfl ?_
    refine reg_nil ?_
    refine awp_cond_t rfl ?_
    refine awp_skip ?_
    refine awp_seq ?_
    refine awp_block ?_
    refine awp_seq ?_
    refine awp_draw mix rfl ?_
    refine r_mv rfl trivial rfl ?_
    refine r_mv rfl trivial rfl ?_
    first | refine r_ixr sl_63 ty_3 rfl rfl (by decide) rfl trivial rfl ?_ | refine r_ixw sl_63 ty_3 rfl rfl (by decide) (by omega) trivial rfl ?_
    first | refine r_ld ty_3 rfl rfl rfl trivial rfl ?_ | refine r_ldr ty_3 rfl rfl trivial rfl ?_ | refine r_ldo ty_3 rfl rfl (by assumption) rfl trivial rfl ?_
    refine r_mv rfl trivial rfl ?_
    refine r_mv rfl trivial rfl ?_
    first | refine r_ixr sl_63 ty_3 rfl rfl (by decide) rfl trivial rfl ?_ | refine r_ixw sl_63 ty_3 rfl rfl (by decide) (by omega) trivial rfl ?_
    first | refine r_ld ty_3 rfl rfl rfl trivial rfl ?_ | refine r_ldr ty_3 rfl rfl trivial rfl ?_ | refine r_ldo ty_3 rfl rfl (by assumption) rfl trivial rfl ?_
    refine r_mv rfl trivial rfl ?_
    refine r_mv rfl trivial rfl ?_
    first | refine r_ixr sl_63 ty_3 rfl rfl (by decide) rfl trivial rfl ?_ | refine r_ixw sl_63 ty_3 rfl rfl (by decide) (by omega) trivial rfl ?_
    first | refine r_ld ty_3 rfl rfl rfl trivial rfl ?_ | refine r_ldr ty_3 rfl rfl trivial rfl ?_ | refine r_ldo ty_3 rfl rfl (by assumption) rfl trivial rfl ?_
    refine r_call (in_ok gen 0 1048576) cb_27 rfl rfl rfl ?_ trivial rfl ?_
    · (repeat (first | exact .nil | refine .cons .fv ?_ | refine .cons (.aggf' rfl) ?_ | refine .cons .nil ?_ | refine .cons (.ren rfl) ?_))
    first | refine r_notd rfl trivial rfl ?_ | refine r_not rfl trivial rfl ?_
    refine reg_nil ⟨rfl, ?_⟩
    first | refine awp_cond_dec rfl (fun h2 => ?_) (fun h2 => ?_) | refine awp_cond rfl (fun h2 => ?_) (fun h2 => ?_)
    · refine awp_seq ?_
      refine awp_region ?_
      refine r_as rfl trivial rfl ?_
      refine reg_nil ?_
      refine awp_ret ?_
      refine fin0 (.cons (.tmp rfl) .nil) (by first | exact .fv | exact .frz rfl rfl trivial | exact .nil | exact .aggf' rfl | exact .aggf) ?_
      first | (simp_all [checkEv, fieldsOf, restEv, zeroEv, eq_comm (a := (0:Int))]; done) | (simp_all [checkEv, fieldsOf, restEv, zeroEv, eq_comm (a := (0:Int))] <;> omega) | (simp [checkEv, fieldsOf, restEv, zeroEv] at *; grind)
    · refine awp_skip ?_
      refine awp_region ?_
      refine r_mv rfl trivial rfl ?_
      refine r_add rfl rfl (rng64 (by omega)) trivial rfl ?_
      refine r_as rfl trivial rfl ?_
      refine reg_nil ?_
      refine unr_succ ?_
      refine awp_seq ?_
      refine awp_seq ?_
      refine awp_region ?_
      refine r_mv rfl trivial rfl ?_
      refine r_mv rfl trivial rfl ?_
      first | refine r_lenr sl_63 rfl trivial rfl ?_ | refine r_lenw sl_63 rfl trivial rfl ?_ | refine r_len0 sl_63 rfl trivial rfl ?_
      refine r_lss rfl rfl trivial rfl ?_
      refine reg_nil ?_
      refine awp_cond_f rfl ?_
      refine awp_exit ?_
      refine awp_seq ?_
      refine awp_seq ?_
      refine awp_draw mix rfl ?_
      first | refine r_fld fld_37_0 rfl trivial rfl ?_ | refine r_fldr fld_37_0 rfl trivial rfl ?_
      first | refine r_ld ty_3 rfl rfl rfl trivial rfl ?_ | refine r_ldr ty_3 rfl rfl trivial rfl ?_ | refine r_ldo ty_3 rfl rfl (by assumption) rfl trivial rfl ?_
      refine r_mv rfl trivial rfl ?_
      refine r_call (eventOf_3 slot gen) cb_28 rfl rfl rfl ?_ trivial rfl ?_
      · (repeat (first | exact .nil | refine .cons .fv ?_ | refine .cons (.aggf' rfl) ?_ | refine .cons .nil ?_ | refine .cons (.ren rfl) ?_))
      first | refine r_lda ty_37 rfl rfl rfl rfl trivial rfl ?_ | refine r_ldra ty_37 rfl rfl rfl trivial rfl ?_ | refine r_ldoa ty_37 rfl rfl (by assumption) rfl rfl trivial rfl ?_
      refine r_nes flat_37 (by decide) agg_37 eqg_37 rfl rfl rfl rfl rfl rfl (eqVs_ev ⟨3, 0, slot, gen, false, 0, 0, 0⟩ ⟨3, key, slot, gen, good, request, backend, weight⟩) trivial rfl ?_
      refine reg_nil ⟨rfl, ?_⟩
      first | refine awp_cond_dec rfl (fun h3 => ?_) (fun h3 => ?_) | refine awp_cond rfl (fun h3 => ?_) (fun h3 => ?_)
      · refine awp_seq ?_
        refine awp_region ?_
        refine r_as rfl trivial rfl ?_
        refine reg_nil ?_
        refine awp_ret ?_
        refine fin0 (.cons (.tmp rfl) .nil) (by first | exact .fv | exact .frz rfl rfl trivial | exact .nil | exact .aggf' rfl | exact .aggf) ?_
        first | (simp_all [checkEv, fieldsOf, restEv, zeroEv, eq_comm (a := (0:Int))]; done) | (simp_all [checkEv, fieldsOf, restEv, zeroEv, eq_comm (a := (0:Int))] <;> omega) | (simp [checkEv, fieldsOf, restEv, zeroEv] at *; grind)
      · refine awp_skip ?_
        refine awp_seq ?_
        refine awp_region ?_
        refine r_as rfl trivial rfl ?_
        refine reg_nil ?_
        refine awp_ret ?_
        refine fin0 (.cons (.tmp rfl) .nil) (by first | exact .fv | exact .frz rfl rfl trivial | exact .nil | exact .aggf' rfl | exact .aggf) ?_
        first | (simp_all [checkEv, fieldsOf, restEv, zeroEv, eq_comm (a := (0:Int))]; done) | (simp_all [checkEv, fieldsOf, restEv, zeroEv, eq_comm (a := (0:Int))] <;> omega) | (simp [checkEv, fieldsOf, restEv, zeroEv] at *; grind)
set_option maxRecDepth 100000 in
theorem fault_4t (key slot gen : Int) (request backend weight : Int) : Fun Tryd.prog 15 [.agg (fvs (encEv ⟨4, key, slot, gen, true, request, backend, weight⟩))] [] [] (iA (checkEv ⟨4, key, slot, gen, true, request, backend, weight⟩)) [] := by
  refine fun_of_awp (rl := [.tmp 2]) Tryd.func15 rfl Tryd.results15 Tryd.ntmps15 0 rfl (by simp) ?_
  intro w0 own0 ρ0 F hz
  refine awp_seq ?_
  refine awp_region ?_
  refine r_box rfl rfl rfl trivial rfl ?_
  refine r_as rfl trivial rfl ?_
  refine reg_nil ?_
  refine awp_seq ?_
  refine awp_region ?_
  first | refine r_lda ty_37 rfl rfl rfl rfl trivial rfl ?_ | refine r_ldra ty_37 rfl rfl rfl trivial rfl ?_ | refine r_ldoa ty_37 rfl rfl (by assumption) rfl rfl trivial rfl ?_
  refine r_call (numbers_4t key slot gen request backend weight) cb_26 rfl rfl rfl ?_ trivial rfl ?_
  · (repeat (first | exact .nil | refine .cons .fv ?_ | refine .cons (.aggf' rfl) ?_ | refine .cons .nil ?_ | refine .cons (.ren rfl) ?_))
  refine r_mv rfl trivial rfl ?_
  refine r_ext rfl rfl trivial rfl ?_
  refine r_ext rfl rfl trivial rfl ?_
  refine r_ext rfl rfl trivial rfl ?_
  refine r_ext rfl rfl trivial rfl ?_
  refine r_as rfl trivial rfl ?_
  refine r_as rfl trivial rfl ?_
  refine r_as rfl trivial rfl ?_
  refine r_as rfl trivial rfl ?_
  refine reg_nil ?_
  refine awp_seq ?_
  refine awp_seq ?_
  refine awp_region ?_
  refine r_mv rfl trivial rfl ?_
  first | refine r_notd rfl trivial rfl ?_ | refine r_not rfl trivial rfl ?_
  refine reg_nil ?_
  refine awp_cond_f rfl ?_
  refine awp_skip ?_
  refine awp_seq ?_
  refine awp_seq ?_
  refine awp_region ?_
  refine r_as rfl trivial rfl ?_
  refine reg_nil ?_
  refine awp_block ?_
  refine awp_unroll 4 ?_
  refine unr_succ ?_
  refine awp_seq ?_
  refine awp_seq ?_
  refine awp_region ?_
  refine r_mv rfl trivial rfl ?_
  refine r_mv rfl trivial rfl ?_
  first | refine r_lenr sl_63 rfl trivial rfl ?_ | refine r_lenw sl_63 rfl trivial rfl ?_ | refine r_len0 sl_63 rfl trivial rfl ?_
  refine r_lss rfl rfl trivial rfl ?_
  refine reg_nil ?_
  refine awp_cond_t rfl ?_
  refine awp_skip ?_
  refine awp_seq ?_
  refine awp_block ?_
  refine awp_seq ?_
  refine awp_draw mix rfl ?_
  refine r_mv rfl trivial rfl ?_
  refine r_mv rfl trivial rfl ?_
  first | refine r_ixr sl_63 ty_3 rfl rfl (by decide) rfl trivial rfl ?_ | refine r_ixw sl_63 ty_3 rfl rfl (by decide) (by omega) trivial rfl ?_
  first | refine r_ld ty_3 rfl rfl rfl trivial rfl ?_ | refine r_ldr ty_3 rfl rfl trivial rfl ?_ | refine r_ldo ty_3 rfl rfl (by assumption) rfl trivial rfl ?_
  refine r_mv rfl trivial rfl ?_
  refine r_mv rfl trivial rfl ?_
  first | refine r_ixr sl_63 ty_3 rfl rfl (by decide) rfl trivial rfl ?_ | refine r_ixw sl_63 ty_3 rfl rfl (by decide) (by omega) trivial rfl ?_
  first | refine r_ld ty_3 rfl rfl rfl trivial rfl ?_ | refine r_ldr ty_3 rfl rfl trivial rfl ?_ | refine r_ldo ty_3 rfl rfl (by assumption) rfl trivial rfl ?_
  refine r_mv rfl trivial rfl ?_
  refine r_mv rfl trivial rfl ?_
  first | refine r_ixr sl_63 ty_3 rfl rfl (by decide) rfl trivial rfl ?_ | refine r_ixw sl_63 ty_3 rfl rfl (by decide) (by omega) trivial rfl ?_
  first | refine r_ld ty_3 rfl rfl rfl trivial rfl ?_ | refine r_ldr ty_3 rfl rfl trivial rfl ?_ | refine r_ldo ty_3 rfl rfl (by assumption) rfl trivial rfl ?_
  refine r_call (in_ok slot 0 39) cb_27 rfl rfl rfl ?_ trivial rfl ?_
  · (repeat (first | exact .nil | refine .cons .fv ?_ | refine .cons (.aggf' rfl) ?_ | refine .cons .nil ?_ | refine .cons (.ren rfl) ?_))
  first | refine r_notd rfl trivial rfl ?_ | refine r_not rfl trivial rfl ?_
  refine reg_nil ⟨rfl, ?_⟩
  first | refine awp_cond_dec rfl (fun h1 => ?_) (fun h1 => ?_) | refine awp_cond rfl (fun h1 => ?_) (fun h1 => ?_)
  · refine awp_seq ?_
    refine awp_region ?_
    refine r_as rfl trivial rfl ?_
    refine reg_nil ?_
    refine awp_ret ?_
    refine fin0 (.cons (.tmp rfl) .nil) (by first | exact .fv | exact .frz rfl rfl trivial | exact .nil | exact .aggf' rfl | exact .aggf) ?_
    first | (simp_all [checkEv, fieldsOf, restEv, zeroEv, eq_comm (a := (0:Int))]; done) | (simp_all [checkEv, fieldsOf, restEv, zeroEv, eq_comm (a := (0:Int))] <;> omega) | (simp [checkEv, fieldsOf, restEv, zeroEv] at *; grind)
  · refine awp_skip ?_
    refine awp_region ?_
    refine r_mv rfl trivial rfl ?_
    refine r_add rfl rfl (rng64 (by omega)) trivial rfl ?_
    refine r_as rfl trivial rfl ?_
    refine reg_nil ?_
    refine unr_succ ?_
    refine awp_seq ?_
    refine awp_seq ?_
    refine awp_region ?_
    refine r_mv rfl trivial rfl ?_
    refine r_mv rfl trivial rfl ?_
    first | refine r_lenr sl_63 rfl trivial rfl ?_ | refine r_lenw sl_63 rfl trivial rfl ?_ | refine r_len0 sl_63 rfl trivial rfl ?_
    refine r_lss rfl rfl trivial rfl ?_
    refine reg_nil ?_
    refine awp_cond_t rfl ?_
    refine awp_skip ?_
    refine awp_seq ?_
    refine awp_block ?_
    refine awp_seq ?_
    refine awp_draw mix rfl ?_
    refine r_mv rfl trivial rfl ?_
    refine r_mv rfl trivial rfl ?_
    first | refine r_ixr sl_63 ty_3 rfl rfl (by decide) rfl trivial rfl ?_ | refine r_ixw sl_63 ty_3 rfl rfl (by decide) (by omega) trivial rfl ?_
    first | refine r_ld ty_3 rfl rfl rfl trivial rfl ?_ | refine r_ldr ty_3 rfl rfl trivial rfl ?_ | refine r_ldo ty_3 rfl rfl (by assumption) rfl trivial rfl ?_
    refine r_mv rfl trivial rfl ?_
    refine r_mv rfl trivial rfl ?_
    first | refine r_ixr sl_63 ty_3 rfl rfl (by decide) rfl trivial rfl ?_ | refine r_ixw sl_63 ty_3 rfl rfl (by decide) (by omega) trivial rfl ?_
    first | refine r_ld ty_3 rfl rfl rfl trivial rfl ?_ | refine r_ldr ty_3 rfl rfl trivial rfl ?_ | refine r_ldo ty_3 rfl rfl (by assumption) rfl trivial rfl ?_
    refine r_mv rfl trivial rfl ?_
    refine r_mv rfl trivial rfl ?_
    first | refine r_ixr sl_63 ty_3 rfl rfl (by decide) rfl trivial rfl ?_ | refine r_ixw sl_63 ty_3 rfl rfl (by decide) (by omega) trivial rfl ?_
    first | refine r_ld ty_3 rfl rfl rfl trivial rfl ?_ | refine r_ldr ty_3 rfl rfl trivial rfl ?_ | refine r_ldo ty_3 rfl rfl (by assumption) rfl trivial rfl ?_
    refine r_call (in_ok gen 0 1048576) cb_27 rfl rfl rfl ?_ trivial rfl ?_
    · (repeat (first | exact .nil | refine .cons .fv ?_ | refine .cons (.aggf' rfl) ?_ | refine .cons .nil ?_ | refine .cons (.ren rfl) ?_))
    first | refine r_notd rfl trivial rfl ?_ | refine r_not rfl trivial rfl ?_
    refine reg_nil ⟨rfl, ?_⟩
    first | refine awp_cond_dec rfl (fun h2 => ?_) (fun h2 => ?_) | refine awp_cond rfl (fun h2 => ?_) (fun h2 => ?_)
    · refine awp_seq ?_
      refine awp_region ?_
      refine r_as rfl trivial rfl ?_
      refine reg_nil ?_
      refine awp_ret ?_
      refine fin0 (.cons (.tmp rfl) .nil) (by first | exact .fv | exact .frz rfl rfl trivial | exact .nil | exact .aggf' rfl | exact .aggf) ?_
      first | (simp_all [checkEv, fieldsOf, restEv, zeroEv, eq_comm (a := (0:Int))]; done) | (simp_all [checkEv, fieldsOf, restEv, zeroEv, eq_comm (a := (0:Int))] <;> omega) | (simp [checkEv, fieldsOf, restEv, zeroEv] at *; grind)
    · refine awp_skip ?_
      refine awp_region ?_
      refine r_mv rfl trivial rfl ?_
      refine r_add rfl rfl (rng64 (by omega)) trivial rfl ?_
      refine r_as rfl trivial rfl ?_
      refine reg_nil ?_
      refine unr_succ ?_
      refine awp_seq ?_
      refine awp_seq ?_
      refine awp_region ?_
      refine r_mv rfl trivial rfl ?_
      refine r_mv rfl trivial rfl ?_
      first | refine r_lenr sl_63 rfl trivial rfl ?_ | refine r_lenw sl_63 rfl trivial rfl ?_ | refine r_len0 sl_63 rfl trivial rfl ?_
      refine r_lss rfl rfl trivial rfl ?_
      refine reg_nil ?_
      refine awp_cond_t rfl ?_
      refine awp_skip ?_
      refine awp_seq ?_
      refine awp_block ?_
      refine awp_seq ?_
      refine awp_draw mix rfl ?_
      refine r_mv rfl trivial rfl ?_
      refine r_mv rfl trivial rfl ?_
      first | refine r_ixr sl_63 ty_3 rfl rfl (by decide) rfl trivial rfl ?_ | refine r_ixw sl_63 ty_3 rfl rfl (by decide) (by omega) trivial rfl ?_
      first | refine r_ld ty_3 rfl rfl rfl trivial rfl ?_ | refine r_ldr ty_3 rfl rfl trivial rfl ?_ | refine r_ldo ty_3 rfl rfl (by assumption) rfl trivial rfl ?_
      refine r_mv rfl trivial rfl ?_
      refine r_mv rfl trivial rfl ?_
      first | refine r_ixr sl_63 ty_3 rfl rfl (by decide) rfl trivial rfl ?_ | refine r_ixw sl_63 ty_3 rfl rfl (by decide) (by omega) trivial rfl ?_
      first | refine r_ld ty_3 rfl rfl rfl trivial rfl ?_ | refine r_ldr ty_3 rfl rfl trivial rfl ?_ | refine r_ldo ty_3 rfl rfl (by assumption) rfl trivial rfl ?_
      refine r_mv rfl trivial rfl ?_
      refine r_mv rfl trivial rfl ?_
      first | refine r_ixr sl_63 ty_3 rfl rfl (by decide) rfl trivial rfl ?_ | refine r_ixw sl_63 ty_3 rfl rfl (by decide) (by omega) trivial rfl ?_
      first | refine r_ld ty_3 rfl rfl rfl trivial rfl ?_ | refine r_ldr ty_3 rfl rfl trivial rfl ?_ | refine r_ldo ty_3 rfl rfl (by assumption) rfl trivial rfl ?_
      refine r_call (in_ok 1 0 1) cb_27 rfl rfl rfl ?_ trivial rfl ?_
      · (repeat (first | exact .nil | refine .cons .fv ?_ | refine .cons (.aggf' rfl) ?_ | refine .cons .nil ?_ | refine .cons (.ren rfl) ?_))
      first | refine r_notd rfl trivial rfl ?_ | refine r_not rfl trivial rfl ?_
      refine reg_nil ⟨rfl, ?_⟩
      first | refine awp_cond_dec rfl (fun h3 => ?_) (fun h3 => ?_) | refine awp_cond rfl (fun h3 => ?_) (fun h3 => ?_)
      · refine awp_seq ?_
        refine awp_region ?_
        refine r_as rfl trivial rfl ?_
        refine reg_nil ?_
        refine awp_ret ?_
        refine fin0 (.cons (.tmp rfl) .nil) (by first | exact .fv | exact .frz rfl rfl trivial | exact .nil | exact .aggf' rfl | exact .aggf) ?_
        first | (simp_all [checkEv, fieldsOf, restEv, zeroEv, eq_comm (a := (0:Int))]; done) | (simp_all [checkEv, fieldsOf, restEv, zeroEv, eq_comm (a := (0:Int))] <;> omega) | (simp [checkEv, fieldsOf, restEv, zeroEv] at *; grind)
      · refine awp_skip ?_
        refine awp_region ?_
        refine r_mv rfl trivial rfl ?_
        refine r_add rfl rfl (rng64 (by omega)) trivial rfl ?_
        refine r_as rfl trivial rfl ?_
        refine reg_nil ?_
        refine unr_succ ?_
        refine awp_seq ?_
        refine awp_seq ?_
        refine awp_region ?_
        refine r_mv rfl trivial rfl ?_
        refine r_mv rfl trivial rfl ?_
        first | refine r_lenr sl_63 rfl trivial rfl ?_ | refine r_lenw sl_63 rfl trivial rfl ?_ | refine r_len0 sl_63 rfl trivial rfl ?_
        refine r_lss rfl rfl trivial rfl ?_
        refine reg_nil ?_
        refine awp_cond_f rfl ?_
        refine awp_exit ?_
        refine awp_seq ?_
        refine awp_seq ?_
        refine awp_draw mix rfl ?_
        first | refine r_fld fld_37_0 rfl trivial rfl ?_ | refine r_fldr fld_37_0 rfl trivial rfl ?_
        first | refine r_ld ty_3 rfl rfl rfl trivial rfl ?_ | refine r_ldr ty_3 rfl rfl trivial rfl ?_ | refine r_ldo ty_3 rfl rfl (by assumption) rfl trivial rfl ?_
        refine r_mv rfl trivial rfl ?_
        refine r_call (eventOf_4t slot gen) cb_28 rfl rfl rfl ?_ trivial rfl ?_
        · (repeat (first | exact .nil | refine .cons .fv ?_ | refine .cons (.aggf' rfl) ?_ | refine .cons .nil ?_ | refine .cons (.ren rfl) ?_))
        first | refine r_lda ty_37 rfl rfl rfl rfl trivial rfl ?_ | refine r_ldra ty_37 rfl rfl rfl trivial rfl ?_ | refine r_ldoa ty_37 rfl rfl (by assumption) rfl rfl trivial rfl ?_
        refine r_nes flat_37 (by decide) agg_37 eqg_37 rfl rfl rfl rfl rfl rfl (eqVs_ev ⟨4, 0, slot, gen, true, 0, 0, 0⟩ ⟨4, key, slot, gen, true, request, backend, weight⟩) trivial rfl ?_
        refine reg_nil ⟨rfl, ?_⟩
        first | refine awp_cond_dec rfl (fun h4 => ?_) (fun h4 => ?_) | refine awp_cond rfl (fun h4 => ?_) (fun h4 => ?_)
        · refine awp_seq ?_
          refine awp_region ?_
          refine r_as rfl trivial rfl ?_
          refine reg_nil ?_
          refine awp_ret ?_
          refine fin0 (.cons (.tmp rfl) .nil) (by first | exact .fv | exact .frz rfl rfl trivial | exact .nil | exact .aggf' rfl | exact .aggf) ?_
          first | (simp_all [checkEv, fieldsOf, restEv, zeroEv, eq_comm (a := (0:Int))]; done) | (simp_all [checkEv, fieldsOf, restEv, zeroEv, eq_comm (a := (0:Int))] <;> omega) | (simp [checkEv, fieldsOf, restEv, zeroEv] at *; grind)
        · refine awp_skip ?_
          refine awp_seq ?_
          refine awp_region ?_
          refine r_as rfl trivial rfl ?_
          refine reg_nil ?_
          refine awp_ret ?_
          refine fin0 (.cons (.tmp rfl) .nil) (by first | exact .fv | exact .frz rfl rfl trivial | exact .nil | exact .aggf' rfl | exact .aggf) ?_
          first | (simp_all [checkEv, fieldsOf, restEv, zeroEv, eq_comm (a := (0:Int))]; done) | (simp_all [checkEv, fieldsOf, restEv, zeroEv, eq_comm (a := (0:Int))] <;> omega) | (simp [checkEv, fieldsOf, restEv, zeroEv] at *; grind)
set_option maxRecDepth 100000 in
theorem fault_4f (key slot gen : Int) (request backend weight : Int) : Fun Tryd.prog 15 [.agg (fvs (encEv ⟨4, key, slot, gen, false, request, backend, weight⟩))] [] [] (iA (checkEv ⟨4, key, slot, gen, false, request, backend, weight⟩)) [] := by
  refine fun_of_awp (rl := [.tmp 2]) Tryd.func15 rfl Tryd.results15 Tryd.ntmps15 0 rfl (by simp) ?_
  intro w0 own0 ρ0 F hz
  refine awp_seq ?_
  refine awp_region ?_
  refine r_box rfl rfl rfl trivial rfl ?_
  refine r_as rfl trivial rfl ?_
  refine reg_nil ?_
  refine awp_seq ?_
  refine awp_region ?_
  first | refine r_lda ty_37 rfl rfl rfl rfl trivial rfl ?_ | refine r_ldra ty_37 rfl rfl rfl trivial rfl ?_ | refine r_ldoa ty_37 rfl rfl (by assumption) rfl rfl trivial rfl ?_
  refine r_call (numbers_4f key slot gen request backend weight) cb_26 rfl rfl rfl ?_ trivial rfl ?_
  · (repeat (first | exact .nil | refine .cons .fv ?_ | refine .cons (.aggf' rfl) ?_ | refine .cons .nil ?_ | refine .cons (.ren rfl) ?_))
  refine r_mv rfl trivial rfl ?_
  refine r_ext rfl rfl trivial rfl ?_
  refine r_ext rfl rfl trivial rfl ?_
  refine r_ext rfl rfl trivial rfl ?_
  refine r_ext rfl rfl trivial rfl ?_
  refine r_as rfl trivial rfl ?_
  refine r_as rfl trivial rfl ?_
  refine r_as rfl trivial rfl ?_
  refine r_as rfl trivial rfl ?_
  refine reg_nil ?_
  refine awp_seq ?_
  refine awp_seq ?_
  refine awp_region ?_
  refine r_mv rfl trivial rfl ?_
  first | refine r_notd rfl trivial rfl ?_ | refine r_not rfl trivial rfl ?_
  refine reg_nil ?_
  refine awp_cond_f rfl ?_
  refine awp_skip ?_
  refine awp_seq ?_
  refine awp_seq ?_
  refine awp_region ?_
  refine r_as rfl trivial rfl ?_
  refine reg_nil ?_
  refine awp_block ?_
  refine awp_unroll 4 ?_
  refine unr_succ ?_
  refine awp_seq ?_
  refine awp_seq ?_
  refine awp_region ?_
  refine r_mv rfl trivial rfl ?_
  refine r_mv rfl trivial rfl ?_
  first | refine r_lenr sl_63 rfl trivial rfl ?_ | refine r_lenw sl_63 rfl trivial rfl ?_ | refine r_len0 sl_63 rfl trivial rfl ?_
  refine r_lss rfl rfl trivial rfl ?_
  refine reg_nil ?_
  refine awp_cond_t rfl ?_
  refine awp_skip ?_
  refine awp_seq ?_
  refine awp_block ?_
  refine awp_seq ?_
  refine awp_draw mix rfl ?_
  refine r_mv rfl trivial rfl ?_
  refine r_mv rfl trivial rfl ?_
  first | refine r_ixr sl_63 ty_3 rfl rfl (by decide) rfl trivial rfl ?_ | refine r_ixw sl_63 ty_3 rfl rfl (by decide) (by omega) trivial rfl ?_
  first | refine r_ld ty_3 rfl rfl rfl trivial rfl ?_ | refine r_ldr ty_3 rfl rfl trivial rfl ?_ | refine r_ldo ty_3 rfl rfl (by assumption) rfl trivial rfl ?_
  refine r_mv rfl trivial rfl ?_
  refine r_mv rfl trivial rfl ?_
  first | refine r_ixr sl_63 ty_3 rfl rfl (by decide) rfl trivial rfl ?_ | refine r_ixw sl_63 ty_3 rfl rfl (by decide) (by omega) trivial rfl ?_
  first | refine r_ld ty_3 rfl rfl rfl trivial rfl ?_ | refine r_ldr ty_3 rfl rfl trivial rfl ?_ | refine r_ldo ty_3 rfl rfl (by assumption) rfl trivial rfl ?_
  refine r_mv rfl trivial rfl ?_
  refine r_mv rfl trivial rfl ?_
  first | refine r_ixr sl_63 ty_3 rfl rfl (by decide) rfl trivial rfl ?_ | refine r_ixw sl_63 ty_3 rfl rfl (by decide) (by omega) trivial rfl ?_
  first | refine r_ld ty_3 rfl rfl rfl trivial rfl ?_ | refine r_ldr ty_3 rfl rfl trivial rfl ?_ | refine r_ldo ty_3 rfl rfl (by assumption) rfl trivial rfl ?_
  refine r_call (in_ok slot 0 39) cb_27 rfl rfl rfl ?_ trivial rfl ?_
  · (repeat (first | exact .nil | refine .cons .fv ?_ | refine .cons (.aggf' rfl) ?_ | refine .cons .nil ?_ | refine .cons (.ren rfl) ?_))
  first | refine r_notd rfl trivial rfl ?_ | refine r_not rfl trivial rfl ?_
  refine reg_nil ⟨rfl, ?_⟩
  first | refine awp_cond_dec rfl (fun h1 => ?_) (fun h1 => ?_) | refine awp_cond rfl (fun h1 => ?_) (fun h1 => ?_)
  · refine awp_seq ?_
    refine awp_region ?_
    refine r_as rfl trivial rfl ?_
    refine reg_nil ?_
    refine awp_ret ?_
    refine fin0 (.cons (.tmp rfl) .nil) (by first | exact .fv | exact .frz rfl rfl trivial | exact .nil | exact .aggf' rfl | exact .aggf) ?_
    first | (simp_all [checkEv, fieldsOf, restEv, zeroEv, eq_comm (a := (0:Int))]; done) | (simp_all [checkEv, fieldsOf, restEv, zeroEv, eq_comm (a := (0:Int))] <;> omega) | (simp [checkEv, fieldsOf, restEv, zeroEv] at *; grind)
  · refine awp_skip ?_
    refine awp_region ?_
    refine r_mv rfl trivial rfl ?_
    refine r_add rfl rfl (rng64 (by omega)) trivial rfl ?_
    refine r_as rfl trivial rfl ?_
    refine reg_nil ?_
    refine unr_succ ?_
    refine awp_seq ?_
    refine awp_seq ?_
    refine awp_region ?_
    refine r_mv rfl trivial rfl ?_
    refine r_mv rfl trivial rfl ?_
    first | refine r_lenr sl_63 rfl trivial rfl ?_ | refine r_lenw sl_63 rfl trivial rfl ?_ | refine r_len0 sl_63 rfl trivial rfl ?_
    refine r_lss rfl rfl trivial rfl ?_
    refine reg_nil ?_
    refine awp_cond_t rfl ?_
    refine awp_skip ?_
    refine awp_seq ?_
    refine awp_block ?_
    refine awp_seq ?_
    refine awp_draw mix rfl ?_
    refine r_mv rfl trivial rfl ?_
    refine r_mv rfl trivial rfl ?_
    first | refine r_ixr sl_63 ty_3 rfl rfl (by decide) rfl trivial rfl ?_ | refine r_ixw sl_63 ty_3 rfl rfl (by decide) (by omega) trivial rfl ?_
    first | refine r_ld ty_3 rfl rfl rfl trivial rfl ?_ | refine r_ldr ty_3 rfl rfl trivial rfl ?_ | refine r_ldo ty_3 rfl rfl (by assumption) rfl trivial rfl ?_
    refine r_mv rfl trivial rfl ?_
    refine r_mv rfl trivial rfl ?_
    first | refine r_ixr sl_63 ty_3 rfl rfl (by decide) rfl trivial rfl ?_ | refine r_ixw sl_63 ty_3 rfl rfl (by decide) (by omega) trivial rfl ?_
    first | refine r_ld ty_3 rfl rfl rfl trivial rfl ?_ | refine r_ldr ty_3 rfl rfl trivial rfl ?_ | refine r_ldo ty_3 rfl rfl (by assumption) rfl trivial rfl ?_
    refine r_mv rfl trivial rfl ?_
    refine r_mv rfl trivial rfl ?_
    first | refine r_ixr sl_63 ty_3 rfl rfl (by decide) rfl trivial rfl ?_ | refine r_ixw sl_63 ty_3 rfl rfl (by decide) (by omega) trivial rfl ?_
    first | refine r_ld ty_3 rfl rfl rfl trivial rfl ?_ | refine r_ldr ty_3 rfl rfl trivial rfl ?_ | refine r_ldo ty_3 rfl rfl (by assumption) rfl trivial rfl ?_
    refine r_call (in_ok gen 0 1048576) cb_27 rfl rfl rfl ?_ trivial rfl ?_
    · (repeat (first | exact .nil | refine .cons .fv ?_ | refine .cons (.aggf' rfl) ?_ | refine .cons .nil ?_ | refine .cons (.ren rfl) ?_))
    first | refine r_notd rfl trivial rfl ?_ | refine r_not rfl trivial rfl ?_
    refine reg_nil ⟨rfl, ?_⟩
    first | refine awp_cond_dec rfl (fun h2 => ?_) (fun h2 => ?_) | refine awp_cond rfl (fun h2 => ?_) (fun h2 => ?_)
    · refine awp_seq ?_
      refine awp_region ?_
      refine r_as rfl trivial rfl ?_
      refine reg_nil ?_
      refine awp_ret ?_
      refine fin0 (.cons (.tmp rfl) .nil) (by first | exact .fv | exact .frz rfl rfl trivial | exact .nil | exact .aggf' rfl | exact .aggf) ?_
      first | (simp_all [checkEv, fieldsOf, restEv, zeroEv, eq_comm (a := (0:Int))]; done) | (simp_all [checkEv, fieldsOf, restEv, zeroEv, eq_comm (a := (0:Int))] <;> omega) | (simp [checkEv, fieldsOf, restEv, zeroEv] at *; grind)
    · refine awp_skip ?_
      refine awp_region ?_
      refine r_mv rfl trivial rfl ?_
      refine r_add rfl rfl (rng64 (by omega)) trivial rfl ?_
      refine r_as rfl trivial rfl ?_
      refine reg_nil ?_
      refine unr_succ ?_
      refine awp_seq ?_
      refine awp_seq ?_
      refine awp_region ?_
      refine r_mv rfl trivial rfl ?_
      refine r_mv rfl trivial rfl ?_
      first | refine r_lenr sl_63 rfl trivial rfl ?_ | refine r_lenw sl_63 rfl trivial rfl ?_ | refine r_len0 sl_63 rfl trivial rfl ?_
      refine r_lss rfl rfl trivial rfl ?_
      refine reg_nil ?_
      refine awp_cond_t rfl ?_
      refine awp_skip ?_
      refine awp_seq ?_
      refine awp_block ?_
      refine awp_seq ?_
      refine awp_draw mix rfl ?_
      refine r_mv rfl trivial rfl ?_
      refine r_mv rfl trivial rfl ?_
      first | refine r_ixr sl_63 ty_3 rfl rfl (by decide) rfl trivial rfl ?_ | refine r_ixw sl_63 ty_3 rfl rfl (by decide) (by omega) trivial rfl ?_
      first | refine r_ld ty_3 rfl rfl rfl trivial rfl ?_ | refine r_ldr ty_3 rfl rfl trivial rfl ?_ | refine r_ldo ty_3 rfl rfl (by assumption) rfl trivial rfl ?_
      refine r_mv rfl trivial rfl ?_
      refine r_mv rfl trivial rfl ?_
      first | refine r_ixr sl_63 ty_3 rfl rfl (by decide) rfl trivial rfl ?_ | refine r_ixw sl_63 ty_3 rfl rfl (by decide) (by omega) trivial rfl ?_
      first | refine r_ld ty_3 rfl rfl rfl trivial rfl ?_ | refine r_ldr ty_3 rfl rfl trivial rfl ?_ | refine r_ldo ty_3 rfl rfl (by assumption) rfl trivial rfl ?_
      refine r_mv rfl trivial rfl ?_
      refine r_mv rfl trivial rfl ?_
      first | refine r_ixr sl_63 ty_3 rfl rfl (by decide) rfl trivial rfl ?_ | refine r_ixw sl_63 ty_3 rfl rfl (by decide) (by omega) trivial rfl ?_
      first | refine r_ld ty_3 rfl rfl rfl trivial rfl ?_ | refine r_ldr ty_3 rfl rfl trivial rfl ?_ | refine r_ldo ty_3 rfl rfl (by assumption) rfl trivial rfl ?_
      refine r_call (in_ok 0 0 1) cb_27 rfl rfl rfl ?_ trivial rfl ?_
      · (repeat (first | exact .nil | refine .cons .fv ?_ | refine .cons (.aggf' rfl) ?_ | refine .cons .nil ?_ | refine .cons (.ren rfl) ?_))
      first | refine r_notd rfl trivial rfl ?_ | refine r_not rfl trivial rfl ?_
      refine reg_nil ⟨rfl, ?_⟩
      first | refine awp_cond_dec rfl (fun h3 => ?_) (fun h3 => ?_) | refine awp_cond rfl (fun h3 => ?_) (fun h3 => ?_)
      · refine awp_seq ?_
        refine awp_region ?_
        refine r_as rfl trivial rfl ?_
        refine reg_nil ?_
        refine awp_ret ?_
        refine fin0 (.cons (.tmp rfl) .nil) (by first | exact .fv | exact .frz rfl rfl trivial | exact .nil | exact .aggf' rfl | exact .aggf) ?_
        first | (simp_all [checkEv, fieldsOf, restEv, zeroEv, eq_comm (a := (0:Int))]; done) | (simp_all [checkEv, fieldsOf, restEv, zeroEv, eq_comm (a := (0:Int))] <;> omega) | (simp [checkEv, fieldsOf, restEv, zeroEv] at *; grind)
      · refine awp_skip ?_
        refine awp_region ?_
        refine r_mv rfl trivial rfl ?_
        refine r_add rfl rfl (rng64 (by omega)) trivial rfl ?_
        refine r_as rfl trivial rfl ?_
        refine reg_nil ?_
        refine unr_succ ?_
        refine awp_seq ?_
        refine awp_seq ?_
        refine awp_region ?_
        refine r_mv rfl trivial rfl ?_
        refine r_mv rfl trivial rfl ?_
        first | refine r_lenr sl_63 rfl trivial rfl ?_ | refine r_lenw sl_63 rfl trivial rfl ?_ | refine r_len0 sl_63 rfl trivial rfl ?_
        refine r_lss rfl rfl trivial rfl ?_
        refine reg_nil ?_
        refine awp_cond_f rfl ?_
        refine awp_exit ?_
        refine awp_seq ?_
        refine awp_seq ?_
        refine awp_draw mix rfl ?_
        first | refine r_fld fld_37_0 rfl trivial rfl ?_ | refine r_fldr fld_37_0 rfl trivial rfl ?_
        first | refine r_ld ty_3 rfl rfl rfl trivial rfl ?_ | refine r_ldr ty_3 rfl rfl trivial rfl ?_ | refine r_ldo ty_3 rfl rfl (by assumption) rfl trivial rfl ?_
        refine r_mv rfl trivial rfl ?_
        refine r_call (eventOf_4f slot gen) cb_28 rfl rfl rfl ?_ trivial rfl ?_
        · (repeat (first | exact .nil | refine .cons .fv ?_ | refine .cons (.aggf' rfl) ?_ | refine .cons .nil ?_ | refine .cons (.ren rfl) ?_))
        first | refine r_lda ty_37 rfl rfl rfl rfl trivial rfl ?_ | refine r_ldra ty_37 rfl rfl rfl trivial rfl ?_ | refine r_ldoa ty_37 rfl rfl (by assumption) rfl rfl trivial rfl ?_
        refine r_nes flat_37 (by decide) agg_37 eqg_37 rfl rfl rfl rfl rfl rfl (eqVs_ev ⟨4, 0, slot, gen, false, 0, 0, 0⟩ ⟨4, key, slot, gen, false, request, backend, weight⟩) trivial rfl ?_
        refine reg_nil ⟨rfl, ?_⟩
        first | refine awp_cond_dec rfl (fun h4 => ?_) (fun h4 => ?_) | refine awp_cond rfl (fun h4 => ?_) (fun h4 => ?_)
        · refine awp_seq ?_
          refine awp_region ?_
          refine r_as rfl trivial rfl ?_
          refine reg_nil ?_
          refine awp_ret ?_
          refine fin0 (.cons (.tmp rfl) .nil) (by first | exact .fv | exact .frz rfl rfl trivial | exact .nil | exact .aggf' rfl | exact .aggf) ?_
          first | (simp_all [checkEv, fieldsOf, restEv, zeroEv, eq_comm (a := (0:Int))]; done) | (simp_all [checkEv, fieldsOf, restEv, zeroEv, eq_comm (a := (0:Int))] <;> omega) | (simp [checkEv, fieldsOf, restEv, zeroEv] at *; grind)
        · refine awp_skip ?_
          refine awp_seq ?_
          refine awp_region ?_
          refine r_as rfl trivial rfl ?_
          refine reg_nil ?_
          refine awp_ret ?_
          refine fin0 (.cons (.tmp rfl) .nil) (by first | exact .fv | exact .frz rfl rfl trivial | exact .nil | exact .aggf' rfl | exact .aggf) ?_
          first | (simp_all [checkEv, fieldsOf, restEv, zeroEv, eq_comm (a := (0:Int))]; done) | (simp_all [checkEv, fieldsOf, restEv, zeroEv, eq_comm (a := (0:Int))] <;> omega) | (simp [checkEv, fieldsOf, restEv, zeroEv] at *; grind)
set_option maxRecDepth 100000 in
theorem fault_5 (key slot gen : Int) (good : Bool) (request backend weight : Int) : Fun Tryd.prog 15 [.agg (fvs (encEv ⟨5, key, slot, gen, good, request, backend, weight⟩))] [] [] (iA (checkEv ⟨5, key, slot, gen, good, request, backend, weight⟩)) [] := by
  refine fun_of_awp (rl := [.tmp 2]) Tryd.func15 rfl Tryd.results15 Tryd.ntmps15 0 rfl (by simp) ?_
  intro w0 own0 ρ0 F hz
  refine awp_seq ?_
  refine awp_region ?_
  refine r_box rfl rfl rfl trivial rfl ?_
  refine r_as rfl trivial rfl ?_
  refine reg_nil ?_
  refine awp_seq ?_
  refine awp_region ?_
  first | refine r_lda ty_37 rfl rfl rfl rfl trivial rfl ?_ | refine r_ldra ty_37 rfl rfl rfl trivial rfl ?_ | refine r_ldoa ty_37 rfl rfl (by assumption) rfl rfl trivial rfl ?_
  refine r_call (numbers_5 key slot gen good request backend weight) cb_26 rfl rfl rfl ?_ trivial rfl ?_
  · (repeat (first | exact .nil | refine .cons .fv ?_ | refine .cons (.aggf' rfl) ?_ | refine .cons .nil ?_ | refine .cons (.ren rfl) ?_))
  refine r_mv rfl trivial rfl ?_
  refine r_ext rfl rfl trivial rfl ?_
  refine r_ext rfl rfl trivial rfl ?_
  refine r_ext rfl rfl trivial rfl ?_
  refine r_ext rfl rfl trivial rfl ?_
  refine r_as rfl trivial rfl ?_
  refine r_as rfl trivial rfl ?_
  refine r_as rfl trivial rfl ?_
  refine r_as rfl trivial rfl ?_
  refine reg_nil ?_
  refine awp_seq ?_
  refine awp_seq ?_
  refine awp_region ?_
  refine r_mv rfl trivial rfl ?_
  first | refine r_notd rfl trivial rfl ?_ | refine r_not rfl trivial rfl ?_
  refine reg_nil ?_
  refine awp_cond_f rfl ?_
  refine awp_skip ?_
  refine awp_seq ?_
  refine awp_seq ?_
  refine awp_region ?_
  refine r_as rfl trivial rfl ?_
  refine reg_nil ?_
  refine awp_block ?_
  refine awp_unroll 4 ?_
  refine unr_succ ?_
  refine awp_seq ?_
  refine awp_seq ?_
  refine awp_region ?_
  refine r_mv rfl trivial rfl ?_
  refine r_mv rfl trivial rfl ?_
  first | refine r_lenr sl_63 rfl trivial rfl ?_ | refine r_lenw sl_63 rfl trivial rfl ?_ | refine r_len0 sl_63 rfl trivial rfl ?_
  refine r_lss rfl rfl trivial rfl ?_
  refine reg_nil ?_
  refine awp_cond_t rfl ?_
  refine awp_skip ?_
  refine awp_seq ?_
  refine awp_block ?_
  refine awp_seq ?_
  refine awp_draw mix rfl ?_
  refine r_mv rfl trivial rfl ?_
  refine r_mv rfl trivial rfl ?_
  first | refine r_ixr sl_63 ty_3 rfl rfl (by decide) rfl trivial rfl ?_ | refine r_ixw sl_63 ty_3 rfl rfl (by decide) (by omega) trivial rfl ?_
  first | refine r_ld ty_3 rfl rfl rfl trivial rfl ?_ | refine r_ldr ty_3 rfl rfl trivial rfl ?_ | refine r_ldo ty_3 rfl rfl (by assumption) rfl trivial rfl ?_
  refine r_mv rfl trivial rfl ?_
  refine r_mv rfl trivial rfl ?_
  first | refine r_ixr sl_63 ty_3 rfl rfl (by decide) rfl trivial rfl ?_ | refine r_ixw sl_63 ty_3 rfl rfl (by decide) (by omega) trivial rfl ?_
  first | refine r_ld ty_3 rfl rfl rfl trivial rfl ?_ | refine r_ldr ty_3 rfl rfl trivial rfl ?_ | refine r_ldo ty_3 rfl rfl (by assumption) rfl trivial rfl ?_
  refine r_mv rfl trivial rfl ?_
  refine r_mv rfl trivial rfl ?_
  first | refine r_ixr sl_63 ty_3 rfl rfl (by decide) rfl trivial rfl ?_ | refine r_ixw sl_63 ty_3 rfl rfl (by decide) (by omega) trivial rfl ?_
  first | refine r_ld ty_3 rfl rfl rfl trivial rfl ?_ | refine r_ldr ty_3 rfl rfl trivial rfl ?_ | refine r_ldo ty_3 rfl rfl (by assumption) rfl trivial rfl ?_
  refine r_call (in_ok request 0 1048576) cb_27 rfl rfl rfl ?_ trivial rfl ?_
  · (repeat (first | exact .nil | refine .cons .fv ?_ | refine .cons (.aggf' rfl) ?_ | refine .cons .nil ?_ | refine .cons (.ren rfl) ?_))
  first | refine r_notd rfl trivial rfl ?_ | refine r_not rfl trivial rfl ?_
  refine reg_nil ⟨rfl, ?_⟩
  first | refine awp_cond_dec rfl (fun h1 => ?_) (fun h1 => ?_) | refine awp_cond rfl (fun h1 => ?_) (fun h1 => ?_)
  · refine awp_seq ?_
    refine awp_region ?_
    refine r_as rfl trivial rfl ?_
    refine reg_nil ?_
    refine awp_ret ?_
    refine fin0 (.cons (.tmp rfl) .nil) (by first | exact .fv | exact .frz rfl rfl trivial | exact .nil | exact .aggf' rfl | exact .aggf) ?_
    first | (simp_all [checkEv, fieldsOf, restEv, zeroEv, eq_comm (a := (0:Int))]; done) | (simp_all [checkEv, fieldsOf, restEv, zeroEv, eq_comm (a := (0:Int))] <;> omega) | (simp [checkEv, fieldsOf, restEv, zeroEv] at *; grind)
  · refine awp_skip ?_
    refine awp_region ?_
    refine r_mv rfl trivial rfl ?_
    refine r_add rfl rfl (rng64 (by omega)) trivial rfl ?_
    refine r_as rfl trivial rfl ?_
    refine reg_nil ?_
    refine unr_succ ?_
    refine awp_seq ?_
    refine awp_seq ?_
    refine awp_region ?_
    refine r_mv rfl trivial rfl ?_
    refine r_mv rfl trivial rfl ?_
    first | refine r_lenr sl_63 rfl trivial rfl ?_ | refine r_lenw sl_63 rfl trivial rfl ?_ | refine r_len0 sl_63 rfl trivial rfl ?_
    refine r_lss rfl rfl trivial rfl ?_
    refine reg_nil ?_
    refine awp_cond_t rfl ?_
    refine awp_skip ?_
    refine awp_seq ?_
    refine awp_block ?_
    refine awp_seq ?_
    refine awp_draw mix rfl ?_
    refine r_mv rfl trivial rfl ?_
    refine r_mv rfl trivial rfl ?_
    first | refine r_ixr sl_63 ty_3 rfl rfl (by decide) rfl trivial rfl ?_ | refine r_ixw sl_63 ty_3 rfl rfl (by decide) (by omega) trivial rfl ?_
    first | refine r_ld ty_3 rfl rfl rfl trivial rfl ?_ | refine r_ldr ty_3 rfl rfl trivial rfl ?_ | refine r_ldo ty_3 rfl rfl (by assumption) rfl trivial rfl ?_
    refine r_mv rfl trivial rfl ?_
    refine r_mv rfl trivial rfl ?_
    first | refine r_ixr sl_63 ty_3 rfl rfl (by decide) rfl trivial rfl ?_ | refine r_ixw sl_63 ty_3 rfl rfl (by decide) (by omega) trivial rfl ?_
    first | refine r_ld ty_3 rfl rfl rfl trivial rfl ?_ | refine r_ldr ty_3 rfl rfl trivial rfl ?_ | refine r_ldo ty_3 rfl rfl (by assumption) rfl trivial rfl ?_
    refine r_mv rfl trivial rfl ?_
    refine r_mv rfl trivial rfl ?_
    first | refine r_ixr sl_63 ty_3 rfl rfl (by decide) rfl trivial rfl ?_ | refine r_ixw sl_63 ty_3 rfl rfl (by decide) (by omega) trivial rfl ?_
    first | refine r_ld ty_3 rfl rfl rfl trivial rfl ?_ | refine r_ldr ty_3 rfl rfl trivial rfl ?_ | refine r_ldo ty_3 rfl rfl (by assumption) rfl trivial rfl ?_
    refine r_call (in_ok backend 0 11) cb_27 rfl rfl rfl ?_ trivial rfl ?_
    · (repeat (first | exact .nil | refine .cons .fv ?_ | refine .cons (.aggf' rfl) ?_ | refine .cons .nil ?_ | refine .cons (.ren rfl) ?_))
    first | refine r_notd rfl trivial rfl ?_ | refine r_not rfl trivial rfl ?_
    refine reg_nil ⟨rfl, ?_⟩
    first | refine awp_cond_dec rfl (fun h2 => ?_) (fun h2 => ?_) | refine awp_cond rfl (fun h2 => ?_) (fun h2 => ?_)
    · refine awp_seq ?_
      refine awp_region ?_
      refine r_as rfl trivial rfl ?_
      refine reg_nil ?_
      refine awp_ret ?_
      refine fin0 (.cons (.tmp rfl) .nil) (by first | exact .fv | exact .frz rfl rfl trivial | exact .nil | exact .aggf' rfl | exact .aggf) ?_
      first | (simp_all [checkEv, fieldsOf, restEv, zeroEv, eq_comm (a := (0:Int))]; done) | (simp_all [checkEv, fieldsOf, restEv, zeroEv, eq_comm (a := (0:Int))] <;> omega) | (simp [checkEv, fieldsOf, restEv, zeroEv] at *; grind)
    · refine awp_skip ?_
      refine awp_region ?_
      refine r_mv rfl trivial rfl ?_
      refine r_add rfl rfl (rng64 (by omega)) trivial rfl ?_
      refine r_as rfl trivial rfl ?_
      refine reg_nil ?_
      refine unr_succ ?_
      refine awp_seq ?_
      refine awp_seq ?_
      refine awp_region ?_
      refine r_mv rfl trivial rfl ?_
      refine r_mv rfl trivial rfl ?_
      first | refine r_lenr sl_63 rfl trivial rfl ?_ | refine r_lenw sl_63 rfl trivial rfl ?_ | refine r_len0 sl_63 rfl trivial rfl ?_
      refine r_lss rfl rfl trivial rfl ?_
      refine reg_nil ?_
      refine awp_cond_t rfl ?_
      refine awp_skip ?_
      refine awp_seq ?_
      refine awp_block ?_
      refine awp_seq ?_
      refine awp_draw mix rfl ?_
      refine r_mv rfl trivial rfl ?_
      refine r_mv rfl trivial rfl ?_
      first | refine r_ixr sl_63 ty_3 rfl rfl (by decide) rfl trivial rfl ?_ | refine r_ixw sl_63 ty_3 rfl rfl (by decide) (by omega) trivial rfl ?_
      first | refine r_ld ty_3 rfl rfl rfl trivial rfl ?_ | refine r_ldr ty_3 rfl rfl trivial rfl ?_ | refine r_ldo ty_3 rfl rfl (by assumption) rfl trivial rfl ?_
      refine r_mv rfl trivial rfl ?_
      refine r_mv rfl trivial rfl ?_
      first | refine r_ixr sl_63 ty_3 rfl rfl (by decide) rfl trivial rfl ?_ | refine r_ixw sl_63 ty_3 rfl rfl (by decide) (by omega) trivial rfl ?_
      first | refine r_ld ty_3 rfl rfl rfl trivial rfl ?_ | refine r_ldr ty_3 rfl rfl trivial rfl ?_ | refine r_ldo ty_3 rfl rfl (by assumption) rfl trivial rfl ?_
      refine r_mv rfl trivial rfl ?_
      refine r_mv rfl trivial rfl ?_
      first | refine r_ixr sl_63 ty_3 rfl rfl (by decide) rfl trivial rfl ?_ | refine r_ixw sl_63 ty_3 rfl rfl (by decide) (by omega) trivial rfl ?_
      first | refine r_ld ty_3 rfl rfl rfl trivial rfl ?_ | refine r_ldr ty_3 rfl rfl trivial rfl ?_ | refine r_ldo ty_3 rfl rfl (by assumption) rfl trivial rfl ?_
      refine r_call (in_ok weight 1 8) cb_27 rfl rfl rfl ?_ trivial rfl ?_
      · (repeat (first | exact .nil | refine .cons .fv ?_ | refine .cons (.aggf' rfl) ?_ | refine .cons .nil ?_ | refine .cons (.ren rfl) ?_))
      first | refine r_notd rfl trivial rfl ?_ | refine r_not rfl trivial rfl ?_
      refine reg_nil ⟨rfl, ?_⟩
      first | refine awp_cond_dec rfl (fun h3 => ?_) (fun h3 => ?_) | refine awp_cond rfl (fun h3 => ?_) (fun h3 => ?_)
      · refine awp_seq ?_
        refine awp_region ?_
        refine r_as rfl trivial rfl ?_
        refine reg_nil ?_
        refine awp_ret ?_
        refine fin0 (.cons (.tmp rfl) .nil) (by first | exact .fv | exact .frz rfl rfl trivial | exact .nil | exact .aggf' rfl | exact .aggf) ?_
        first | (simp_all [checkEv, fieldsOf, restEv, zeroEv, eq_comm (a := (0:Int))]; done) | (simp_all [checkEv, fieldsOf, restEv, zeroEv, eq_comm (a := (0:Int))] <;> omega) | (simp [checkEv, fieldsOf, restEv, zeroEv] at *; grind)
      · refine awp_skip ?_
        refine awp_region ?_
        refine r_mv rfl trivial rfl ?_
        refine r_add rfl rfl (rng64 (by omega)) trivial rfl ?_
        refine r_as rfl trivial rfl ?_
        refine reg_nil ?_
        refine unr_succ ?_
        refine awp_seq ?_
        refine awp_seq ?_
        refine awp_region ?_
        refine r_mv rfl trivial rfl ?_
        refine r_mv rfl trivial rfl ?_
        first | refine r_lenr sl_63 rfl trivial rfl ?_ | refine r_lenw sl_63 rfl trivial rfl ?_ | refine r_len0 sl_63 rfl trivial rfl ?_
        refine r_lss rfl rfl trivial rfl ?_
        refine reg_nil ?_
        refine awp_cond_f rfl ?_
        refine awp_exit ?_
        refine awp_seq ?_
        refine awp_seq ?_
        refine awp_draw mix rfl ?_
        first | refine r_fld fld_37_0 rfl trivial rfl ?_ | refine r_fldr fld_37_0 rfl trivial rfl ?_
        first | refine r_ld ty_3 rfl rfl rfl trivial rfl ?_ | refine r_ldr ty_3 rfl rfl trivial rfl ?_ | refine r_ldo ty_3 rfl rfl (by assumption) rfl trivial rfl ?_
        refine r_mv rfl trivial rfl ?_
        refine r_call (eventOf_5 request backend weight) cb_28 rfl rfl rfl ?_ trivial rfl ?_
        · (repeat (first | exact .nil | refine .cons .fv ?_ | refine .cons (.aggf' rfl) ?_ | refine .cons .nil ?_ | refine .cons (.ren rfl) ?_))
        first | refine r_lda ty_37 rfl rfl rfl rfl trivial rfl ?_ | refine r_ldra ty_37 rfl rfl rfl trivial rfl ?_ | refine r_ldoa ty_37 rfl rfl (by assumption) rfl rfl trivial rfl ?_
        refine r_nes flat_37 (by decide) agg_37 eqg_37 rfl rfl rfl rfl rfl rfl (eqVs_ev ⟨5, 0, 0, 0, false, request, backend, weight⟩ ⟨5, key, slot, gen, good, request, backend, weight⟩) trivial rfl ?_
        refine reg_nil ⟨rfl, ?_⟩
        first | refine awp_cond_dec rfl (fun h4 => ?_) (fun h4 => ?_) | refine awp_cond rfl (fun h4 => ?_) (fun h4 => ?_)
        · refine awp_seq ?_
          refine awp_region ?_
          refine r_as rfl trivial rfl ?_
          refine reg_nil ?_
          refine awp_ret ?_
          refine fin0 (.cons (.tmp rfl) .nil) (by first | exact .fv | exact .frz rfl rfl trivial | exact .nil | exact .aggf' rfl | exact .aggf) ?_
          first | (simp_all [checkEv, fieldsOf, restEv, zeroEv, eq_comm (a := (0:Int))]; done) | (simp_all [checkEv, fieldsOf, restEv, zeroEv, eq_comm (a := (0:Int))] <;> omega) | (simp [checkEv, fieldsOf, restEv, zeroEv] at *; grind)
        · refine awp_skip ?_
          refine awp_seq ?_
          refine awp_region ?_
          refine r_as rfl trivial rfl ?_
          refine reg_nil ?_
          refine awp_ret ?_
          refine fin0 (.cons (.tmp rfl) .nil) (by first | exact .fv | exact .frz rfl rfl trivial | exact .nil | exact .aggf' rfl | exact .aggf) ?_
          first | (simp_all [checkEv, fieldsOf, restEv, zeroEv, eq_comm (a := (0:Int))]; done) | (simp_all [checkEv, fieldsOf, restEv, zeroEv, eq_comm (a := (0:Int))] <;> omega) | (simp [checkEv, fieldsOf, restEv, zeroEv] at *; grind)
set_option maxRecDepth 100000 in
theorem fault_6 (key slot gen : Int) (good : Bool) (request backend weight : Int) : Fun Tryd.prog 15 [.agg (fvs (encEv ⟨6, key, slot, gen, good, request, backend, weight⟩))] [] [] (iA (checkEv ⟨6, key, slot, gen, good, request, backend, weight⟩)) [] := by
  refine fun_of_awp (rl := [.tmp 2]) Tryd.func15 rfl Tryd.results15 Tryd.ntmps15 0 rfl (by simp) ?_
  intro w0 own0 ρ0 F hz
  refine awp_seq ?_
  refine awp_region ?_
  refine r_box rfl rfl rfl trivial rfl ?_
  refine r_as rfl trivial rfl ?_
  refine reg_nil ?_
  refine awp_seq ?_
  refine awp_region ?_
  first | refine r_lda ty_37 rfl rfl rfl rfl trivial rfl ?_ | refine r_ldra ty_37 rfl rfl rfl trivial rfl ?_ | refine r_ldoa ty_37 rfl rfl (by assumption) rfl rfl trivial rfl ?_
  refine r_call (numbers_6 key slot gen good request backend weight) cb_26 rfl rfl rfl ?_ trivial rfl ?_
  · (repeat (first | exact .nil | refine .cons .fv ?_ | refine .cons (.aggf' rfl) ?_ | refine .cons .nil ?_ | refine .cons (.ren rfl) ?_))
  refine r_mv rfl trivial rfl ?_
  refine r_ext rfl rfl trivial rfl ?_
  refine r_ext rfl rfl trivial rfl ?_
  refine r_ext rfl rfl trivial rfl ?_
  refine r_ext rfl rfl trivial rfl ?_
  refine r_as rfl trivial rfl ?_
  refine r_as rfl trivial rfl ?_
  refine r_as rfl trivial rfl ?_
  refine r_as rfl trivial rfl ?_
  refine reg_nil ?_
  refine awp_seq ?_
  refine awp_seq ?_
  refine awp_region ?_
  refine r_mv rfl trivial rfl ?_
  first | refine r_notd rfl trivial rfl ?_ | refine r_not rfl trivial rfl ?_
  refine reg_nil ?_
  refine awp_cond_f rfl ?_
  refine awp_skip ?_
  refine awp_seq ?_
  refine awp_seq ?_
  refine awp_region ?_
  refine r_as rfl trivial rfl ?_
  refine reg_nil ?_
  refine awp_block ?_
  refine awp_unroll 3 ?_
  refine unr_succ ?_
  refine awp_seq ?_
  refine awp_seq ?_
  refine awp_region ?_
  refine r_mv rfl trivial rfl ?_
  refine r_mv rfl trivial rfl ?_
  first | refine r_lenr sl_63 rfl trivial rfl ?_ | refine r_lenw sl_63 rfl trivial rfl ?_ | refine r_len0 sl_63 rfl trivial rfl ?_
  refine r_lss rfl rfl trivial rfl ?_
  refine reg_nil ?_
  refine awp_cond_t rfl ?_
  refine awp_skip ?_
  refine awp_seq ?_
  refine awp_block ?_
  refine awp_seq ?_
  refine awp_draw mix rfl ?_
  refine r_mv rfl trivial rfl ?_
  refine r_mv rfl trivial rfl ?_
  first | refine r_ixr sl_63 ty_3 rfl rfl (by decide) rfl trivial rfl ?_ | refine r_ixw sl_63 ty_3 rfl rfl (by decide) (by omega) trivial rfl ?_
  first | refine r_ld ty_3 rfl rfl rfl trivial rfl ?_ | refine r_ldr ty_3 rfl rfl trivial rfl ?_ | refine r_ldo ty_3 rfl rfl (by assumption) rfl trivial rfl ?_
  refine r_mv rfl trivial rfl ?_
  refine r_mv rfl trivial rfl ?_
  first | refine r_ixr sl_63 ty_3 rfl rfl (by decide) rfl trivial rfl ?_ | refine r_ixw sl_63 ty_3 rfl rfl (by decide) (by omega) trivial rfl ?_
  first | refine r_ld ty_3 rfl rfl rfl trivial rfl ?_ | refine r_ldr ty_3 rfl rfl trivial rfl ?_ | refine r_ldo ty_3 rfl rfl (by assumption) rfl trivial rfl ?_
  refine r_mv rfl trivial rfl ?_
  refine r_mv rfl trivial rfl ?_
  first | refine r_ixr sl_63 ty_3 rfl rfl (by decide) rfl trivial rfl ?_ | refine r_ixw sl_63 ty_3 rfl rfl (by decide) (by omega) trivial rfl ?_
  first | refine r_ld ty_3 rfl rfl rfl trivial rfl ?_ | refine r_ldr ty_3 rfl rfl trivial rfl ?_ | refine r_ldo ty_3 rfl rfl (by assumption) rfl trivial rfl ?_
  refine r_call (in_ok request 0 1048576) cb_27 rfl rfl rfl ?_ trivial rfl ?_
  · (repeat (first | exact .nil | refine .cons .fv ?_ | refine .cons (.aggf' rfl) ?_ | refine .cons .nil ?_ | refine .cons (.ren rfl) ?_))
  first | refine r_notd rfl trivial rfl ?_ | refine r_not rfl trivial rfl ?_
  refine reg_nil ⟨rfl, ?_⟩
  first | refine awp_cond_dec rfl (fun h1 => ?_) (fun h1 => ?_) | refine awp_cond rfl (fun h1 => ?_) (fun h1 => ?_)
  · refine awp_seq ?_
    refine awp_region ?_
    refine r_as rfl trivial rfl ?_
    refine reg_nil ?_
    refine awp_ret ?_
    refine fin0 (.cons (.tmp rfl) .nil) (by first | exact .fv | exact .frz rfl rfl trivial | exact .nil | exact .aggf' rfl | exact .aggf) ?_
    first | (simp_all [checkEv, fieldsOf, restEv, zeroEv, eq_comm (a := (0:Int))]; done) | (simp_all [checkEv, fieldsOf, restEv, zeroEv, eq_comm (a := (0:Int))] <;> omega) | (simp [checkEv, fieldsOf, restEv, zeroEv] at *; grind)
  · refine awp_skip ?_
    refine awp_region ?_
    refine r_mv rfl trivial rfl ?_
    refine r_add rfl rfl (rng64 (by omega)) trivial rfl ?_
    refine r_as rfl trivial rfl ?_
    refine reg_nil ?_
    refine unr_succ ?_
    refine awp_seq ?_
    refine awp_seq ?_
    refine awp_region ?_
    refine r_mv rfl trivial rfl ?_
    refine r_mv rfl trivial rfl ?_
    first | refine r_lenr sl_63 rfl trivial rfl ?_ | refine r_lenw sl_63 rfl trivial rfl ?_ | refine r_len0 sl_63 rfl trivial rfl ?_
    refine r_lss rfl rfl trivial rfl ?_
    refine reg_nil ?_
    refine awp_cond_t rfl ?_
    refine awp_skip ?_
    refine awp_seq ?_
    refine awp_block ?_
    refine awp_seq ?_
    refine awp_draw mix rfl ?_
    refine r_mv rfl trivial rfl ?_
    refine r_mv rfl trivial rfl ?_
    first | refine r_ixr sl_63 ty_3 rfl rfl (by decide) rfl trivial rfl ?_ | refine r_ixw sl_63 ty_3 rfl rfl (by decide) (by omega) trivial rfl ?_
    first | refine r_ld ty_3 rfl rfl rfl trivial rfl ?_ | refine r_ldr ty_3 rfl rfl trivial rfl ?_ | refine r_ldo ty_3 rfl rfl (by assumption) rfl trivial rfl ?_
    refine r_mv rfl trivial rfl ?_
    refine r_mv rfl trivial rfl ?_
    first | refine r_ixr sl_63 ty_3 rfl rfl (by decide) rfl trivial rfl ?_ | refine r_ixw sl_63 ty_3 rfl rfl (by decide) (by omega) trivial rfl ?_
    first | refine r_ld ty_3 rfl rfl rfl trivial rfl ?_ | refine r_ldr ty_3 rfl rfl trivial rfl ?_ | refine r_ldo ty_3 rfl rfl (by assumption) rfl trivial rfl ?_
    refine r_mv rfl trivial rfl ?_
    refine r_mv rfl trivial rfl ?_
    first | refine r_ixr sl_63 ty_3 rfl rfl (by decide) rfl trivial rfl ?_ | refine r_ixw sl_63 ty_3 rfl rfl (by decide) (by omega) trivial rfl ?_
    first | refine r_ld ty_3 rfl rfl rfl trivial rfl ?_ | refine r_ldr ty_3 rfl rfl trivial rfl ?_ | refine r_ldo ty_3 rfl rfl (by assumption) rfl trivial rfl ?_
    refine r_call (in_ok backend 0 11) cb_27 rfl rfl rfl ?_ trivial rfl ?_
    · (repeat (first | exact .nil | refine .cons .fv ?_ | refine .cons (.aggf' rfl) ?_ | refine .cons .nil ?_ | refine .cons (.ren rfl) ?_))
    first | refine r_notd rfl trivial rfl ?_ | refine r_not rfl trivial rfl ?_
    refine reg_nil ⟨rfl, ?_⟩
    first | refine awp_cond_dec rfl (fun h2 => ?_) (fun h2 => ?_) | refine awp_cond rfl (fun h2 => ?_) (fun h2 => ?_)
    · refine awp_seq ?_
      refine awp_region ?_
      refine r_as rfl trivial rfl ?_
      refine reg_nil ?_
      refine awp_ret ?_
      refine fin0 (.cons (.tmp rfl) .nil) (by first | exact .fv | exact .frz rfl rfl trivial | exact .nil | exact .aggf' rfl | exact .aggf) ?_
      first | (simp_all [checkEv, fieldsOf, restEv, zeroEv, eq_comm (a := (0:Int))]; done) | (simp_all [checkEv, fieldsOf, restEv, zeroEv, eq_comm (a := (0:Int))] <;> omega) | (simp [checkEv, fieldsOf, restEv, zeroEv] at *; grind)
    · refine awp_skip ?_
      refine awp_region ?_
      refine r_mv rfl trivial rfl ?_
      refine r_add rfl rfl (rng64 (by omega)) trivial rfl ?_
      refine r_as rfl trivial rfl ?_
      refine reg_nil ?_
      refine unr_succ ?_
      refine awp_seq ?_
      refine awp_seq ?_
      refine awp_region ?_
      refine r_mv rfl trivial rfl ?_
      refine r_mv rfl trivial rfl ?_
      first | refine r_lenr sl_63 rfl trivial rfl ?_ | refine r_lenw sl_63 rfl trivial rfl ?_ | refine r_len0 sl_63 rfl trivial rfl ?_
      refine r_lss rfl rfl trivial rfl ?_
      refine reg_nil ?_
      refine awp_cond_f rfl ?_
      refine awp_exit ?_
      refine awp_seq ?_
      refine awp_seq ?_
      refine awp_draw mix rfl ?_
      first | refine r_fld fld_37_0 rfl trivial rfl ?_ | refine r_fldr fld_37_0 rfl trivial rfl ?_
      first | refine r_ld ty_3 rfl rfl rfl trivial rfl ?_ | refine r_ldr ty_3 rfl rfl trivial rfl ?_ | refine r_ldo ty_3 rfl rfl (by assumption) rfl trivial rfl ?_
      refine r_mv rfl trivial rfl ?_
      refine r_call (eventOf_6 request backend) cb_28 rfl rfl rfl ?_ trivial rfl ?_
      · (repeat (first | exact .nil | refine .cons .fv ?_ | refine .cons (.aggf' rfl) ?_ | refine .cons .nil ?_ | refine .cons (.ren rfl) ?_))
      first | refine r_lda ty_37 rfl rfl rfl rfl trivial rfl ?_ | refine r_ldra ty_37 rfl rfl rfl trivial rfl ?_ | refine r_ldoa ty_37 rfl rfl (by assumption) rfl rfl trivial rfl ?_
      refine r_nes flat_37 (by decide) agg_37 eqg_37 rfl rfl rfl rfl rfl rfl (eqVs_ev ⟨6, 0, 0, 0, false, request, backend, 0⟩ ⟨6, key, slot, gen, good, request, backend, weight⟩) trivial rfl ?_
      refine reg_nil ⟨rfl, ?_⟩
      first | refine awp_cond_dec rfl (fun h3 => ?_) (fun h3 => ?_) | refine awp_cond rfl (fun h3 => ?_) (fun h3 => ?_)
      · refine awp_seq ?_
        refine awp_region ?_
        refine r_as rfl trivial rfl ?_
        refine reg_nil ?_
        refine awp_ret ?_
        refine fin0 (.cons (.tmp rfl) .nil) (by first | exact .fv | exact .frz rfl rfl trivial | exact .nil | exact .aggf' rfl | exact .aggf) ?_
        first | (simp_all [checkEv, fieldsOf, restEv, zeroEv, eq_comm (a := (0:Int))]; done) | (simp_all [checkEv, fieldsOf, restEv, zeroEv, eq_comm (a := (0:Int))] <;> omega) | (simp [checkEv, fieldsOf, restEv, zeroEv] at *; grind)
      · refine awp_skip ?_
        refine awp_seq ?_
        refine awp_region ?_
        refine r_as rfl trivial rfl ?_
        refine reg_nil ?_
        refine awp_ret ?_
        refine fin0 (.cons (.tmp rfl) .nil) (by first | exact .fv | exact .frz rfl rfl trivial | exact .nil | exact .aggf' rfl | exact .aggf) ?_
        first | (simp_all [checkEv, fieldsOf, restEv, zeroEv, eq_comm (a := (0:Int))]; done) | (simp_all [checkEv, fieldsOf, restEv, zeroEv, eq_comm (a := (0:Int))] <;> omega) | (simp [checkEv, fieldsOf, restEv, zeroEv] at *; grind)
set_option maxRecDepth 100000 in
theorem fault_7 (key slot gen : Int) (good : Bool) (request backend weight : Int) : Fun Tryd.prog 15 [.agg (fvs (encEv ⟨7, key, slot, gen, good, request, backend, weight⟩))] [] [] (iA (checkEv ⟨7, key, slot, gen, good, request, backend, weight⟩)) [] := by
  refine fun_of_awp (rl := [.tmp 2]) Tryd.func15 rfl Tryd.results15 Tryd.ntmps15 0 rfl (by simp) ?_
  intro w0 own0 ρ0 F hz
  refine awp_seq ?_
  refine awp_region ?_
  refine r_box rfl rfl rfl trivial rfl ?_
  refine r_as rfl trivial rfl ?_
  refine reg_nil ?_
  refine awp_seq ?_
  refine awp_region ?_
  first | refine r_lda ty_37 rfl rfl rfl rfl trivial rfl ?_ | refine r_ldra ty_37 rfl rfl rfl trivial rfl ?_ | refine r_ldoa ty_37 rfl rfl (by assumption) rfl rfl trivial rfl ?_
  refine r_call (numbers_7 key slot gen good request backend weight) cb_26 rfl rfl rfl ?_ trivial rfl ?_
  · (repeat (first | exact .nil | refine .cons .fv ?_ | refine .cons (.aggf' rfl) ?_ | refine .cons .nil ?_ | refine .cons (.ren rfl) ?_))
  refine r_mv rfl trivial rfl ?_
  refine r_ext rfl rfl trivial rfl ?_
  refine r_ext rfl rfl trivial rfl ?_
  refine r_ext rfl rfl trivial rfl ?_
  refine r_ext rfl rfl trivial rfl ?_
  refine r_as rfl trivial rfl ?_
  refine r_as rfl trivial rfl ?_
  refine r_as rfl trivial rfl ?_
  refine r_as rfl trivial rfl ?_
  refine reg_nil ?_
  refine awp_seq ?_
  refine awp_seq ?_
  refine awp_region ?_
  refine r_mv rfl trivial rfl ?_
  first | refine r_notd rfl trivial rfl ?_ | refine r_not rfl trivial rfl ?_
  refine reg_nil ?_
  refine awp_cond_f rfl ?_
  refine awp_skip ?_
  refine awp_seq ?_
  refine awp_seq ?_
  refine awp_region ?_
  refine r_as rfl trivial rfl ?_
  refine reg_nil ?_
  refine awp_block ?_
  refine awp_unroll 1 ?_
  refine unr_succ ?_
  refine awp_seq ?_
  refine awp_seq ?_
  refine awp_region ?_
  refine r_mv rfl trivial rfl ?_
  refine r_mv rfl trivial rfl ?_
  first | refine r_lenr sl_63 rfl trivial rfl ?_ | refine r_lenw sl_63 rfl trivial rfl ?_ | refine r_len0 sl_63 rfl trivial rfl ?_
  refine r_lss rfl rfl trivial rfl ?_
  refine reg_nil ?_
  refine awp_cond_f rfl ?_
  refine awp_exit ?_
  refine awp_seq ?_
  refine awp_seq ?_
  refine awp_draw mix rfl ?_
  first | refine r_fld fld_37_0 rfl trivial rfl ?_ | refine r_fldr fld_37_0 rfl trivial rfl ?_
  first | refine r_ld ty_3 rfl rfl rfl trivial rfl ?_ | refine r_ldr ty_3 rfl rfl trivial rfl ?_ | refine r_ldo ty_3 rfl rfl (by assumption) rfl trivial rfl ?_
  refine r_mv rfl trivial rfl ?_
  refine r_call (eventOf_7 ) cb_28 rfl rfl rfl ?_ trivial rfl ?_
  · (repeat (first | exact .nil | refine .cons .fv ?_ | refine .cons (.aggf' rfl) ?_ | refine .cons .nil ?_ | refine .cons (.ren rfl) ?_))
  first | refine r_lda ty_37 rfl rfl rfl rfl trivial rfl ?_ | refine r_ldra ty_37 rfl rfl rfl trivial rfl ?_ | refine r_ldoa ty_37 rfl rfl (by assumption) rfl rfl trivial rfl ?_
  refine r_nes flat_37 (by decide) agg_37 eqg_37 rfl rfl rfl rfl rfl rfl (eqVs_ev ⟨7, 0, 0, 0, false, 0, 0, 0⟩ ⟨7, key, slot, gen, good, request, backend, weight⟩) trivial rfl ?_
  refine reg_nil ⟨rfl, ?_⟩
  first | refine awp_cond_dec rfl (fun h1 => ?_) (fun h1 => ?_) | refine awp_cond rfl (fun h1 => ?_) (fun h1 => ?_)
  · refine awp_seq ?_
    refine awp_region ?_
    refine r_as rfl trivial rfl ?_
    refine reg_nil ?_
    refine awp_ret ?_
    refine fin0 (.cons (.tmp rfl) .nil) (by first | exact .fv | exact .frz rfl rfl trivial | exact .nil | exact .aggf' rfl | exact .aggf) ?_
    first | (simp_all [checkEv, fieldsOf, restEv, zeroEv, eq_comm (a := (0:Int))]; done) | (simp_all [checkEv, fieldsOf, restEv, zeroEv, eq_comm (a := (0:Int))] <;> omega) | (simp [checkEv, fieldsOf, restEv, zeroEv] at *; grind)
  · refine awp_skip ?_
    refine awp_seq ?_
    refine awp_region ?_
    refine r_as rfl trivial rfl ?_
    refine reg_nil ?_
    refine awp_ret ?_
    refine fin0 (.cons (.tmp rfl) .nil) (by first | exact .fv | exact .frz rfl rfl trivial | exact .nil | exact .aggf' rfl | exact .aggf) ?_
    first | (simp_all [checkEv, fieldsOf, restEv, zeroEv, eq_comm (a := (0:Int))]; done) | (simp_all [checkEv, fieldsOf, restEv, zeroEv, eq_comm (a := (0:Int))] <;> omega) | (simp [checkEv, fieldsOf, restEv, zeroEv] at *; grind)
set_option maxRecDepth 100000 in
theorem fault_0 (e : Ev) (hk : e.kind < 1 ∨ 7 < e.kind) : Fun Tryd.prog 15 [.agg (fvs (encEv e))] [] [] (iA (checkEv e)) [] := by
  refine fun_of_awp (rl := [.tmp 2]) Tryd.func15 rfl Tryd.results15 Tryd.ntmps15 0 rfl (by simp) ?_
  intro w0 own0 ρ0 F hz
  refine awp_seq ?_
  refine awp_region ?_
  refine r_box rfl rfl rfl trivial rfl ?_
  refine r_as rfl trivial rfl ?_
  refine reg_nil ?_
  refine awp_seq ?_
  refine awp_region ?_
  first | refine r_lda ty_37 rfl rfl rfl rfl trivial rfl ?_ | refine r_ldra ty_37 rfl rfl rfl trivial rfl ?_ | refine r_ldoa ty_37 rfl rfl (by assumption) rfl rfl trivial rfl ?_
  refine r_call (numbers_0 e hk) cb_26 rfl rfl rfl ?_ trivial rfl ?_
  · (repeat (first | exact .nil | refine .cons .fv ?_ | refine .cons (.aggf' rfl) ?_ | refine .cons .nil ?_ | refine .cons (.ren rfl) ?_))
  refine r_mv rfl trivial rfl ?_
  refine r_ext rfl rfl trivial rfl ?_
  refine r_ext rfl rfl trivial rfl ?_
  refine r_ext rfl rfl trivial rfl ?_
  refine r_ext rfl rfl trivial rfl ?_
  refine r_as rfl trivial rfl ?_
  refine r_as rfl trivial rfl ?_
  refine r_as rfl trivial rfl ?_
  refine r_as rfl trivial rfl ?_
  refine reg_nil ?_
  refine awp_seq ?_
  refine awp_seq ?_
  refine awp_region ?_
  refine r_mv rfl trivial rfl ?_
  first | refine r_notd rfl trivial rfl ?_ | refine r_not rfl trivial rfl ?_
  refine reg_nil ?_
  refine awp_cond_t rfl ?_
  refine awp_seq ?_
  refine awp_region ?_
  refine r_as rfl trivial rfl ?_
  refine reg_nil ?_
  refine awp_ret ?_
  refine fin0 (.cons (.tmp rfl) .nil) (by first | exact .fv | exact .frz rfl rfl trivial | exact .nil | exact .aggf' rfl | exact .aggf) ?_
  simp [checkEv, hk]
theorem fault_ok (e : Ev) : Fun Tryd.prog 15 [.agg (fvs (encEv e))] [] [] (iA (checkEv e)) [] := by
  by_cases hk : e.kind < 1 ∨ 7 < e.kind
  · exact fault_0 e hk
  obtain ⟨kind, key, slot, gen, good, request, backend, weight⟩ := e
  simp only at hk
  have : kind = 1 ∨ kind = 2 ∨ kind = 3 ∨ kind = 4 ∨ kind = 5 ∨ kind = 6 ∨ kind = 7 := by omega
  rcases this with rfl | rfl | rfl | rfl | rfl | rfl | rfl
  · exact fault_1 key slot gen good request backend weight
  · exact fault_2 key slot gen good request backend weight
  · exact fault_3 key slot gen good request backend weight
  · cases good
    · exact fault_4f key slot gen request backend weight
    · exact fault_4t key slot gen request backend weight
  · exact fault_5 key slot gen good request backend weight
  · exact fault_6 key slot gen good request backend weight
  · exact fault_7 key slot gen good request backend weight
end Go.Uw.D
