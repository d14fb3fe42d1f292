/- A helper text of this claim: lemmas of an abstract machine over the model, or walks in it. Own work of an AI agent. -/
import Derived.Test.YtkcjomglcjhkgaaDoorD1
set_option linter.unusedVariables false
set_option linter.unusedSimpArgs false
namespace Go.Uw.D
open Go Go.Uw Go.Proofs

set_option maxRecDepth 100000 in
theorem rest_1 (key slot gen : Int) (good : Bool) (request backend weight : Int) : Fun Tryd.prog 21 [.agg (fvs (encEv ⟨1, key, slot, gen, good, request, backend, weight⟩))] [] [] (.agg (fvs (encEv ⟨0, 0, slot, gen, good, request, backend, weight⟩))) [] := by
  refine fun_of_awp (rl := [.cell 2 37]) Tryd.func21 rfl Tryd.results21 Tryd.ntmps21 0 rfl (by simp) ?_
  intro w0 own0 ρ0 F hz
  refine awp_seq ?_
  refine awp_region ?_
  refine r_box rfl rfl rfl trivial rfl ?_
  refine r_alloc z_37 rfl trivial rfl ?_
  refine reg_nil ?_
  refine awp_seq ?_
  refine awp_region ?_
  refine r_alloc z_3 rfl trivial rfl ?_
  first | refine r_st ty_3 rfl rfl rfl rfl rfl rfl rfl trivial ?_ | refine r_sto ty_3 rfl rfl rfl rfl (by assumption) rfl rfl rfl trivial ?_
  refine reg_nil ?_
  refine awp_seq ?_
  refine awp_region ?_
  refine r_callh [(0, 0), (1, 2), (2, 3)] 4 3 (fields_1 key slot gen good request backend weight 0) cb_20 rfl rfl rfl ?_ (.cons rfl (.cons rfl .nil)) rfl rfl rfl rfl trivial rfl ?_
  · (repeat (first | exact .nil | refine .cons .fv ?_ | refine .cons (.aggf' rfl) ?_ | refine .cons .nil ?_ | refine .cons (.ren rfl) ?_))
  refine r_mv rfl trivial rfl ?_
  refine r_ext rfl rfl trivial rfl ?_
  refine r_ext rfl rfl trivial rfl ?_
  refine r_as rfl trivial rfl ?_
  refine r_as rfl trivial rfl ?_
  refine reg_nil ?_
  refine awp_seq ?_
  refine awp_seq ?_
  refine awp_region ?_
  first | refine r_fld fld_37_0 rfl trivial rfl ?_ | refine r_fldr fld_37_0 rfl trivial rfl ?_
  first | refine r_ld ty_3 rfl rfl rfl trivial rfl ?_ | refine r_ldr ty_3 rfl rfl trivial rfl ?_ | refine r_ldo ty_3 rfl rfl (by assumption) rfl trivial rfl ?_
  refine r_eqi rfl rfl trivial rfl ?_
  refine reg_nil ?_
  refine awp_cond_f rfl ?_
  refine awp_skip ?_
  refine awp_seq ?_
  refine awp_seq ?_
  refine awp_region ?_
  refine r_mv rfl trivial rfl ?_
  first | refine r_lenr sl_49 rfl trivial rfl ?_ | refine r_lenw sl_49 rfl trivial rfl ?_ | refine r_len0 sl_49 rfl trivial rfl ?_
  refine r_mv rfl trivial rfl ?_
  refine reg_nil ?_
  refine awp_block ?_
  refine awp_unroll 2 ?_
  refine unr_succ ?_
  refine awp_seq ?_
  refine awp_region ?_
  refine r_lss rfl rfl trivial rfl ?_
  refine reg_nil ?_
  refine awp_seq ?_
  refine awp_cond_t rfl ?_
  refine awp_skip ?_
  refine awp_seq ?_
  refine awp_block ?_
  refine awp_seq ?_
  refine awp_region ?_
  first | refine r_ixr sl_49 ty_55 rfl rfl (by omega) (by first | exact map_get (by omega) | exact map_geti (by omega)) trivial rfl ?_ | refine r_ixw sl_49 ty_55 rfl rfl (by omega) (by omega) trivial rfl ?_
  first | refine r_lda ty_55 rfl rfl rfl rfl trivial rfl ?_ | refine r_ldra ty_55 rfl rfl rfl trivial rfl ?_ | refine r_ldoa ty_55 rfl rfl (by assumption) rfl rfl trivial rfl ?_
  refine r_alloc z_55 rfl trivial rfl ?_
  first | refine r_st ty_55 rfl rfl rfl rfl rfl rfl rfl trivial ?_ | refine r_sto ty_55 rfl rfl rfl rfl (by assumption) rfl rfl rfl trivial ?_
  refine reg_nil ?_
  refine awp_region ?_
  first | refine r_fld fld_55_0 rfl trivial rfl ?_ | refine r_fldr fld_55_0 rfl trivial rfl ?_
  first | refine r_ld ty_53 rfl rfl rfl trivial rfl ?_ | refine r_ldr ty_53 rfl rfl trivial rfl ?_ | refine r_ldo ty_53 rfl rfl (by assumption) rfl trivial rfl ?_
  first | refine r_nilck rfl trivial rfl ?_ | refine r_nilckr rfl trivial rfl ?_ | refine r_nilckf rfl trivial rfl ?_
  first | refine r_st ty_3 rfl rfl rfl rfl rfl rfl rfl trivial ?_ | refine r_sto ty_3 rfl rfl rfl rfl (by assumption) rfl rfl rfl trivial ?_
  refine reg_nil ?_
  refine awp_region ?_
  refine r_add rfl rfl (rng64 (by omega)) trivial rfl ?_
  refine r_mv rfl trivial rfl ?_
  refine reg_nil ?_
  refine unr_succ ?_
  refine awp_seq ?_
  refine awp_region ?_
  refine r_lss rfl rfl trivial rfl ?_
  refine reg_nil ?_
  refine awp_seq ?_
  refine awp_cond_f rfl ?_
  refine awp_exit ?_
  refine awp_seq ?_
  refine awp_region ?_
  first | refine r_fld fld_37_0 rfl trivial rfl ?_ | refine r_fldr fld_37_0 rfl trivial rfl ?_
  first | refine r_st ty_3 rfl rfl rfl rfl rfl rfl rfl trivial ?_ | refine r_sto ty_3 rfl rfl rfl rfl (by assumption) rfl rfl rfl trivial ?_
  refine reg_nil ?_
  refine awp_seq ?_
  refine awp_region ?_
  first | refine r_lda ty_37 rfl rfl rfl rfl trivial rfl ?_ | refine r_ldra ty_37 rfl rfl rfl trivial rfl ?_ | refine r_ldoa ty_37 rfl rfl (by assumption) rfl rfl trivial rfl ?_
  first | refine r_st ty_37 rfl rfl rfl rfl rfl rfl rfl trivial ?_ | refine r_sto ty_37 rfl rfl rfl rfl (by assumption) rfl rfl rfl trivial ?_
  refine reg_nil ?_
  refine awp_ret ?_
  exact fin0' (.cons (.agg rfl rfl ty_37 (Nat.le_of_ble_eq_true rfl)) .nil) (by first | exact .fv | exact .frz rfl rfl trivial | exact .nil | exact .aggf' rfl | exact .aggf)
set_option maxRecDepth 100000 in
theorem rest_2 (key slot gen : Int) (good : Bool) (request backend weight : Int) : Fun Tryd.prog 21 [.agg (fvs (encEv ⟨2, key, slot, gen, good, request, backend, weight⟩))] [] [] (.agg (fvs (encEv ⟨0, key, 0, 0, good, request, backend, weight⟩))) [] := by
  refine fun_of_awp (rl := [.cell 2 37]) Tryd.func21 rfl Tryd.results21 Tryd.ntmps21 0 rfl (by simp) ?_
  intro w0 own0 ρ0 F hz
  refine awp_seq ?_
  refine awp_region ?_
  refine r_box rfl rfl rfl trivial rfl ?_
  refine r_alloc z_37 rfl trivial rfl ?_
  refine reg_nil ?_
  refine awp_seq ?_
  refine awp_region ?_
  refine r_alloc z_3 rfl trivial rfl ?_
  first | refine r_st ty_3 rfl rfl rfl rfl rfl rfl rfl trivial ?_ | refine r_sto ty_3 rfl rfl rfl rfl (by assumption) rfl rfl rfl trivial ?_
  refine reg_nil ?_
  refine awp_seq ?_
  refine awp_region ?_
  refine r_callh [(0, 0), (1, 2), (2, 3)] 4 3 (fields_2 key slot gen good request backend weight 0) cb_20 rfl rfl rfl ?_ (.cons rfl (.cons rfl .nil)) rfl rfl rfl rfl trivial rfl ?_
  · (repeat (first | exact .nil | refine .cons .fv ?_ | refine .cons (.aggf' rfl) ?_ | refine .cons .nil ?_ | refine .cons (.ren rfl) ?_))
  refine r_mv rfl trivial rfl ?_
  refine r_ext rfl rfl trivial rfl ?_
  refine r_ext rfl rfl trivial rfl ?_
  refine r_as rfl trivial rfl ?_
  refine r_as rfl trivial rfl ?_
  refine reg_nil ?_
  refine awp_seq ?_
  refine awp_seq ?_
  refine awp_region ?_
  first | refine r_fld fld_37_0 rfl trivial rfl ?_ | refine r_fldr fld_37_0 rfl trivial rfl ?_
  first | refine r_ld ty_3 rfl rfl rfl trivial rfl ?_ | refine r_ldr ty_3 rfl rfl trivial rfl ?_ | refine r_ldo ty_3 rfl rfl (by assumption) rfl trivial rfl ?_
  refine r_eqi rfl rfl trivial rfl ?_
  refine reg_nil ?_
  refine awp_cond_f rfl ?_
  refine awp_skip ?_
  refine awp_seq ?_
  refine awp_seq ?_
  refine awp_region ?_
  refine r_mv rfl trivial rfl ?_
  first | refine r_lenr sl_49 rfl trivial rfl ?_ | refine r_lenw sl_49 rfl trivial rfl ?_ | refine r_len0 sl_49 rfl trivial rfl ?_
  refine r_mv rfl trivial rfl ?_
  refine reg_nil ?_
  refine awp_block ?_
  refine awp_unroll 3 ?_
  refine unr_succ ?_
  refine awp_seq ?_
  refine awp_region ?_
  refine r_lss rfl rfl trivial rfl ?_
  refine reg_nil ?_
  refine awp_seq ?_
  refine awp_cond_t rfl ?_
  refine awp_skip ?_
  refine awp_seq ?_
  refine awp_block ?_
  refine awp_seq ?_
  refine awp_region ?_
  first | refine r_ixr sl_49 ty_55 rfl rfl (by omega) (by first | exact map_get (by omega) | exact map_geti (by omega)) trivial rfl ?_ | refine r_ixw sl_49 ty_55 rfl rfl (by omega) (by omega) trivial rfl ?_
  first | refine r_lda ty_55 rfl rfl rfl rfl trivial rfl ?_ | refine r_ldra ty_55 rfl rfl rfl trivial rfl ?_ | refine r_ldoa ty_55 rfl rfl (by assumption) rfl rfl trivial rfl ?_
  refine r_alloc z_55 rfl trivial rfl ?_
  first | refine r_st ty_55 rfl rfl rfl rfl rfl rfl rfl trivial ?_ | refine r_sto ty_55 rfl rfl rfl rfl (by assumption) rfl rfl rfl trivial ?_
  refine reg_nil ?_
  refine awp_region ?_
  first | refine r_fld fld_55_0 rfl trivial rfl ?_ | refine r_fldr fld_55_0 rfl trivial rfl ?_
  first | refine r_ld ty_53 rfl rfl rfl trivial rfl ?_ | refine r_ldr ty_53 rfl rfl trivial rfl ?_ | refine r_ldo ty_53 rfl rfl (by assumption) rfl trivial rfl ?_
  first | refine r_nilck rfl trivial rfl ?_ | refine r_nilckr rfl trivial rfl ?_ | refine r_nilckf rfl trivial rfl ?_
  first | refine r_st ty_3 rfl rfl rfl rfl rfl rfl rfl trivial ?_ | refine r_sto ty_3 rfl rfl rfl rfl (by assumption) rfl rfl rfl trivial ?_
  refine reg_nil ?_
  refine awp_region ?_
  refine r_add rfl rfl (rng64 (by omega)) trivial rfl ?_
  refine r_mv rfl trivial rfl ?_
  refine reg_nil ?_
  refine unr_succ ?_
  refine awp_seq ?_
  refine awp_region ?_
  refine r_lss rfl rfl trivial rfl ?_
  refine reg_nil ?_
  refine awp_seq ?_
  refine awp_cond_t rfl ?_
  refine awp_skip ?_
  refine awp_seq ?_
  refine awp_block ?_
  refine awp_seq ?_
  refine awp_region ?_
  first | refine r_ixr sl_49 ty_55 rfl rfl (by omega) (by first | exact map_get (by omega) | exact map_geti (by omega)) trivial rfl ?_ | refine r_ixw sl_49 ty_55 rfl rfl (by omega) (by omega) trivial rfl ?_
  first | refine r_lda ty_55 rfl rfl rfl rfl trivial rfl ?_ | refine r_ldra ty_55 rfl rfl rfl trivial rfl ?_ | refine r_ldoa ty_55 rfl rfl (by assumption) rfl rfl trivial rfl ?_
  refine r_alloc z_55 rfl trivial rfl ?_
  first | refine r_st ty_55 rfl rfl rfl rfl rfl rfl rfl trivial ?_ | refine r_sto ty_55 rfl rfl rfl rfl (by assumption) rfl rfl rfl trivial ?_
  refine reg_nil ?_
  refine awp_region ?_
  first | refine r_fld fld_55_0 rfl trivial rfl ?_ | refine r_fldr fld_55_0 rfl trivial rfl ?_
  first | refine r_ld ty_53 rfl rfl rfl trivial rfl ?_ | refine r_ldr ty_53 rfl rfl trivial rfl ?_ | refine r_ldo ty_53 rfl rfl (by assumption) rfl trivial rfl ?_
  first | refine r_nilck rfl trivial rfl ?_ | refine r_nilckr rfl trivial rfl ?_ | refine r_nilckf rfl trivial rfl ?_
  first | refine r_st ty_3 rfl rfl rfl rfl rfl rfl rfl trivial ?_ | refine r_sto ty_3 rfl rfl rfl rfl (by assumption) rfl rfl rfl trivial ?_
  refine reg_nil ?_
  refine awp_region ?_
  refine r_add rfl rfl (rng64 (by omega)) trivial rfl ?_
  refine r_mv rfl trivial rfl ?_
  refine reg_nil ?_
  refine unr_succ ?_
  refine awp_seq ?_
  refine awp_region ?_
  refine r_lss rfl rfl trivial rfl ?_
  refine reg_nil ?_
  refine awp_seq ?_
  refine awp_cond_f rfl ?_
  refine awp_exit ?_
  refine awp_seq ?_
  refine awp_region ?_
  first | refine r_fld fld_37_0 rfl trivial rfl ?_ | refine r_fldr fld_37_0 rfl trivial rfl ?_
  first | refine r_st ty_3 rfl rfl rfl rfl rfl rfl rfl trivial ?_ | refine r_sto ty_3 rfl rfl rfl rfl (by assumption) rfl rfl rfl trivial ?_
  refine reg_nil ?_
  refine awp_seq ?_
  refine awp_region ?_
  first | refine r_lda ty_37 rfl rfl rfl rfl trivial rfl ?_ | refine r_ldra ty_37 rfl rfl rfl trivial rfl ?_ | refine r_ldoa ty_37 rfl rfl (by assumption) rfl rfl trivial rfl ?_
  first | refine r_st ty_37 rfl rfl rfl rfl rfl rfl rfl trivial ?_ | refine r_sto ty_37 rfl rfl rfl rfl (by assumption) rfl rfl rfl trivial ?_
  refine reg_nil ?_
  refine awp_ret ?_
  exact fin0' (.cons (.agg rfl rfl ty_37 (Nat.le_of_ble_eq_true rfl)) .nil) (by first | exact .fv | exact .frz rfl rfl trivial | exact .nil | exact .aggf' rfl | exact .aggf)
set_option maxRecDepth 100000 in
theorem rest_3 (key slot gen : Int) (good : Bool) (request backend weight : Int) : Fun Tryd.prog 21 [.agg (fvs (encEv ⟨3, key, slot, gen, good, request, backend, weight⟩))] [] [] (.agg (fvs (encEv ⟨0, key, 0, 0, good, request, backend, weight⟩))) [] := by
  refine fun_of_awp (rl := [.cell 2 37]) Tryd.func21 rfl Tryd.results21 Tryd.ntmps21 0 rfl (by simp) ?_
  intro w0 own0 ρ0 F hz
  refine awp_seq ?_
  refine awp_region ?_
  refine r_box rfl rfl rfl trivial rfl ?_
  refine r_alloc z_37 rfl trivial rfl ?_
  refine reg_nil ?_
  refine awp_seq ?_
  refine awp_region ?_
  refine r_alloc z_3 rfl trivial rfl ?_
  first | refine r_st ty_3 rfl rfl rfl rfl rfl rfl rfl trivial ?_ | refine r_sto ty_3 rfl rfl rfl rfl (by assumption) rfl rfl rfl trivial ?_
  refine reg_nil ?_
  refine awp_seq ?_
  refine awp_region ?_
  refine r_callh [(0, 0), (1, 2), (2, 3)] 4 3 (fields_3 key slot gen good request backend weight 0) cb_20 rfl rfl rfl ?_ (.cons rfl (.cons rfl .nil)) rfl rfl rfl rfl trivial rfl ?_
  · (repeat (first | exact .nil | refine .cons .fv ?_ | refine .cons (.aggf' rfl) ?_ | refine .cons .nil ?_ | refine .cons (.ren rfl) ?_))
  refine r_mv rfl trivial rfl ?_
  refine r_ext rfl rfl trivial rfl ?_
  refine r_ext rfl rfl trivial rfl ?_
  refine r_as rfl trivial rfl ?_
  refine r_as rfl trivial rfl ?_
  refine reg_nil ?_
  refine awp_seq ?_
  refine awp_seq ?_
  refine awp_region ?_
  first | refine r_fld fld_37_0 rfl trivial rfl ?_ | refine r_fldr fld_37_0 rfl trivial rfl ?_
  first | refine r_ld ty_3 rfl rfl rfl trivial rfl ?_ | refine r_ldr ty_3 rfl rfl trivial rfl ?_ | refine r_ldo ty_3 rfl rfl (by assumption) rfl trivial rfl ?_
  refine r_eqi rfl rfl trivial rfl ?_
  refine reg_nil ?_
  refine awp_cond_f rfl ?_
  refine awp_skip ?_
  refine awp_seq ?_
  refine awp_seq ?_
  refine awp_region ?_
  refine r_mv rfl trivial rfl ?_
  first | refine r_lenr sl_49 rfl trivial rfl ?_ | refine r_lenw sl_49 rfl trivial rfl ?_ | refine r_len0 sl_49 rfl trivial rfl ?_
  refine r_mv rfl trivial rfl ?_
  refine reg_nil ?_
  refine awp_block ?_
  refine awp_unroll 3 ?_
  refine unr_succ ?_
  refine awp_seq ?_
  refine awp_region ?_
  refine r_lss rfl rfl trivial rfl ?_
  refine reg_nil ?_
  refine awp_seq ?_
  refine awp_cond_t rfl ?_
  refine awp_skip ?_
  refine awp_seq ?_
  refine awp_block ?_
  refine awp_seq ?_
  refine awp_region ?_
  first | refine r_ixr sl_49 ty_55 rfl rfl (by omega) (by first | exact map_get (by omega) | exact map_geti (by omega)) trivial rfl ?_ | refine r_ixw sl_49 ty_55 rfl rfl (by omega) (by omega) trivial rfl ?_
  first | refine r_lda ty_55 rfl rfl rfl rfl trivial rfl ?_ | refine r_ldra ty_55 rfl rfl rfl trivial rfl ?_ | refine r_ldoa ty_55 rfl rfl (by assumption) rfl rfl trivial rfl ?_
  refine r_alloc z_55 rfl trivial rfl ?_
  first | refine r_st ty_55 rfl rfl rfl rfl rfl rfl rfl trivial ?_ | refine r_sto ty_55 rfl rfl rfl rfl (by assumption) rfl rfl rfl trivial ?_
  refine reg_nil ?_
  refine awp_region ?_
  first | refine r_fld fld_55_0 rfl trivial rfl ?_ | refine r_fldr fld_55_0 rfl trivial rfl ?_
  first | refine r_ld ty_53 rfl rfl rfl trivial rfl ?_ | refine r_ldr ty_53 rfl rfl trivial rfl ?_ | refine r_ldo ty_53 rfl rfl (by assumption) rfl trivial rfl ?_
  first | refine r_nilck rfl trivial rfl ?_ | refine r_nilckr rfl trivial rfl ?_ | refine r_nilckf rfl trivial rfl ?_
  first | refine r_st ty_3 rfl rfl rfl rfl rfl rfl rfl trivial ?_ | refine r_sto ty_3 rfl rfl rfl rfl (by assumption) rfl rfl rfl trivial ?_
  refine reg_nil ?_
  refine awp_region ?_
  refine r_add rfl rfl (rng64 (by omega)) trivial rfl ?_
  refine r_mv rfl trivial rfl ?_
  refine reg_nil ?_
  refine unr_succ ?_
  refine awp_seq ?_
  refine awp_region ?_
  refine r_lss rfl rfl trivial rfl ?_
  refine reg_nil ?_
  refine awp_seq ?_
  refine awp_cond_t rfl ?_
  refine awp_skip ?_
  refine awp_seq ?_
  refine awp_block ?_
  refine awp_seq ?_
  refine awp_region ?_
  first | refine r_ixr sl_49 ty_55 rfl rfl (by omega) (by first | exact map_get (by omega) | exact map_geti (by omega)) trivial rfl ?_ | refine r_ixw sl_49 ty_55 rfl rfl (by omega) (by omega) trivial rfl ?_
  first | refine r_lda ty_55 rfl rfl rfl rfl trivial rfl ?_ | refine r_ldra ty_55 rfl rfl rfl trivial rfl ?_ | refine r_ldoa ty_55 rfl rfl (by assumption) rfl rfl trivial rfl ?_
  refine r_alloc z_55 rfl trivial rfl ?_
  first | refine r_st ty_55 rfl rfl rfl rfl rfl rfl rfl trivial ?_ | refine r_sto ty_55 rfl rfl rfl rfl (by assumption) rfl rfl rfl trivial ?_
  refine reg_nil ?_
  refine awp_region ?_
  first | refine r_fld fld_55_0 rfl trivial rfl ?_ | refine r_fldr fld_55_0 rfl trivial rfl ?_
  first | refine r_ld ty_53 rfl rfl rfl trivial rfl ?_ | refine r_ldr ty_53 rfl rfl trivial rfl ?_ | refine r_ldo ty_53 rfl rfl (by assumption) rfl trivial rfl ?_
  first | refine r_nilck rfl trivial rfl ?_ | refine r_nilckr rfl trivial rfl ?_ | refine r_nilckf rfl trivial rfl ?_
  first | refine r_st ty_3 rfl rfl rfl rfl rfl rfl rfl trivial ?_ | refine r_sto ty_3 rfl rfl rfl rfl (by assumption) rfl rfl rfl trivial ?_
  refine reg_nil ?_
  refine awp_region ?_
  refine r_add rfl rfl (rng64 (by omega)) trivial rfl ?_
  refine r_mv rfl trivial rfl ?_
  refine reg_nil ?_
  refine unr_succ ?_
  refine awp_seq ?_
  refine awp_region ?_
  refine r_lss rfl rfl trivial rfl ?_
  refine reg_nil ?_
  refine awp_seq ?_
  refine awp_cond_f rfl ?_
  refine awp_exit ?_
  refine awp_seq ?_
  refine awp_region ?_
  first | refine r_fld fld_37_0 rfl trivial rfl ?_ | refine r_fldr fld_37_0 rfl trivial rfl ?_
  first | refine r_st ty_3 rfl rfl rfl rfl rfl rfl rfl trivial ?_ | refine r_sto ty_3 rfl rfl rfl rfl (by assumption) rfl rfl rfl trivial ?_
  refine reg_nil ?_
  refine awp_seq ?_
  refine awp_region ?_
  first | refine r_lda ty_37 rfl rfl rfl rfl trivial rfl ?_ | refine r_ldra ty_37 rfl rfl rfl trivial rfl ?_ | refine r_ldoa ty_37 rfl rfl (by assumption) rfl rfl trivial rfl ?_
  first | refine r_st ty_37 rfl rfl rfl rfl rfl rfl rfl trivial ?_ | refine r_sto ty_37 rfl rfl rfl rfl (by assumption) rfl rfl rfl trivial ?_
  refine reg_nil ?_
  refine awp_ret ?_
  exact fin0' (.cons (.agg rfl rfl ty_37 (Nat.le_of_ble_eq_true rfl)) .nil) (by first | exact .fv | exact .frz rfl rfl trivial | exact .nil | exact .aggf' rfl | exact .aggf)
set_option maxRecDepth 100000 in
theorem rest_4 (key slot gen : Int) (good : Bool) (request backend weight : Int) : Fun Tryd.prog 21 [.agg (fvs (encEv ⟨4, key, slot, gen, good, request, backend, weight⟩))] [] [] (.agg (fvs (encEv ⟨0, key, 0, 0, false, request, backend, weight⟩))) [] := by
  refine fun_of_awp (rl := [.cell 2 37]) Tryd.func21 rfl Tryd.results21 Tryd.ntmps21 0 rfl (by simp) ?_
  intro w0 own0 ρ0 F hz
  refine awp_seq ?_
  refine awp_region ?_
  refine r_box rfl rfl rfl trivial rfl ?_
  refine r_alloc z_37 rfl trivial rfl ?_
  refine reg_nil ?_
  refine awp_seq ?_
  refine awp_region ?_
  refine r_alloc z_3 rfl trivial rfl ?_
  first | refine r_st ty_3 rfl rfl rfl rfl rfl rfl rfl trivial ?_ | refine r_sto ty_3 rfl rfl rfl rfl (by assumption) rfl rfl rfl trivial ?_
  refine reg_nil ?_
  refine awp_seq ?_
  refine awp_region ?_
  refine r_callh [(0, 0), (1, 2), (2, 3)] 4 3 (fields_4 key slot gen good request backend weight 0) cb_20 rfl rfl rfl ?_ (.cons rfl (.cons rfl .nil)) rfl rfl rfl rfl trivial rfl ?_
  · (repeat (first | exact .nil | refine .cons .fv ?_ | refine .cons (.aggf' rfl) ?_ | refine .cons .nil ?_ | refine .cons (.ren rfl) ?_))
  refine r_mv rfl trivial rfl ?_
  refine r_ext rfl rfl trivial rfl ?_
  refine r_ext rfl rfl trivial rfl ?_
  refine r_as rfl trivial rfl ?_
  refine r_as rfl trivial rfl ?_
  refine reg_nil ?_
  refine awp_seq ?_
  refine awp_seq ?_
  refine awp_region ?_
  first | refine r_fld fld_37_0 rfl trivial rfl ?_ | refine r_fldr fld_37_0 rfl trivial rfl ?_
  first | refine r_ld ty_3 rfl rfl rfl trivial rfl ?_ | refine r_ldr ty_3 rfl rfl trivial rfl ?_ | refine r_ldo ty_3 rfl rfl (by assumption) rfl trivial rfl ?_
  refine r_eqi rfl rfl trivial rfl ?_
  refine reg_nil ?_
  refine awp_cond_t rfl ?_
  refine awp_region ?_
  first | refine r_fld fld_37_4 rfl trivial rfl ?_ | refine r_fldr fld_37_4 rfl trivial rfl ?_
  first | refine r_st ty_4 rfl rfl rfl rfl rfl rfl rfl trivial ?_ | refine r_sto ty_4 rfl rfl rfl rfl (by assumption) rfl rfl rfl trivial ?_
  refine reg_nil ?_
  refine awp_seq ?_
  refine awp_seq ?_
  refine awp_region ?_
  refine r_mv rfl trivial rfl ?_
  first | refine r_lenr sl_49 rfl trivial rfl ?_ | refine r_lenw sl_49 rfl trivial rfl ?_ | refine r_len0 sl_49 rfl trivial rfl ?_
  refine r_mv rfl trivial rfl ?_
  refine reg_nil ?_
  refine awp_block ?_
  refine awp_unroll 4 ?_
  refine unr_succ ?_
  refine awp_seq ?_
  refine awp_region ?_
  refine r_lss rfl rfl trivial rfl ?_
  refine reg_nil ?_
  refine awp_seq ?_
  refine awp_cond_t rfl ?_
  refine awp_skip ?_
  refine awp_seq ?_
  refine awp_block ?_
  refine awp_seq ?_
  refine awp_region ?_
  first | refine r_ixr sl_49 ty_55 rfl rfl (by omega) (by first | exact map_get (by omega) | exact map_geti (by omega)) trivial rfl ?_ | refine r_ixw sl_49 ty_55 rfl rfl (by omega) (by omega) trivial rfl ?_
  first | refine r_lda ty_55 rfl rfl rfl rfl trivial rfl ?_ | refine r_ldra ty_55 rfl rfl rfl trivial rfl ?_ | refine r_ldoa ty_55 rfl rfl (by assumption) rfl rfl trivial rfl ?_
  refine r_alloc z_55 rfl trivial rfl ?_
  first | refine r_st ty_55 rfl rfl rfl rfl rfl rfl rfl trivial ?_ | refine r_sto ty_55 rfl rfl rfl rfl (by assumption) rfl rfl rfl trivial ?_
  refine reg_nil ?_
  refine awp_region ?_
  first | refine r_fld fld_55_0 rfl trivial rfl ?_ | refine r_fldr fld_55_0 rfl trivial rfl ?_
  first | refine r_ld ty_53 rfl rfl rfl trivial rfl ?_ | refine r_ldr ty_53 rfl rfl trivial rfl ?_ | refine r_ldo ty_53 rfl rfl (by assumption) rfl trivial rfl ?_
  first | refine r_nilck rfl trivial rfl ?_ | refine r_nilckr rfl trivial rfl ?_ | refine r_nilckf rfl trivial rfl ?_
  first | refine r_st ty_3 rfl rfl rfl rfl rfl rfl rfl trivial ?_ | refine r_sto ty_3 rfl rfl rfl rfl (by assumption) rfl rfl rfl trivial ?_
  refine reg_nil ?_
  refine awp_region ?_
  refine r_add rfl rfl (rng64 (by omega)) trivial rfl ?_
  refine r_mv rfl trivial rfl ?_
  refine reg_nil ?_
  refine unr_succ ?_
  refine awp_seq ?_
  refine awp_region ?_
  refine r_lss rfl rfl trivial rfl ?_
  refine reg_nil ?_
  refine awp_seq ?_
  refine awp_cond_t rfl ?_
  refine awp_skip ?_
  refine awp_seq ?_
  refine awp_block ?_
  refine awp_seq ?_
  refine awp_region ?_
  first | refine r_ixr sl_49 ty_55 rfl rfl (by omega) (by first | exact map_get (by omega) | exact map_geti (by omega)) trivial rfl ?_ | refine r_ixw sl_49 ty_55 rfl rfl (by omega) (by omega) trivial rfl ?_
  first | refine r_lda ty_55 rfl rfl rfl rfl trivial rfl ?_ | refine r_ldra ty_55 rfl rfl rfl trivial rfl ?_ | refine r_ldoa ty_55 rfl rfl (by assumption) rfl rfl trivial rfl ?_
  refine r_alloc z_55 rfl trivial rfl ?_
  first | refine r_st ty_55 rfl rfl rfl rfl rfl rfl rfl trivial ?_ | refine r_sto ty_55 rfl rfl rfl rfl (by assumption) rfl rfl rfl trivial ?_
  refine reg_nil ?_
  refine awp_region ?_
  first | refine r_fld fld_55_0 rfl trivial rfl ?_ | refine r_fldr fld_55_0 rfl trivial rfl ?_
  first | refine r_ld ty_53 rfl rfl rfl trivial rfl ?_ | refine r_ldr ty_53 rfl rfl trivial rfl ?_ | refine r_ldo ty_53 rfl rfl (by assumption) rfl trivial rfl ?_
  first | refine r_nilck rfl trivial rfl ?_ | refine r_nilckr rfl trivial rfl ?_ | refine r_nilckf rfl trivial rfl ?_
  first | refine r_st ty_3 rfl rfl rfl rfl rfl rfl rfl trivial ?_ | refine r_sto ty_3 rfl rfl rfl rfl (by assumption) rfl rfl rfl trivial ?_
  refine reg_nil ?_
  refine awp_region ?_
  refine r_add rfl rfl (rng64 (by omega)) trivial rfl ?_
  refine r_mv rfl trivial rfl ?_
  refine reg_nil ?_
  refine unr_succ ?_
  refine awp_seq ?_
  refine awp_region ?_
  refine r_lss rfl rfl trivial rfl ?_
  refine reg_nil ?_
  refine awp_seq ?_
  refine awp_cond_t rfl ?_
  refine awp_skip ?_
  refine awp_seq ?_
  refine awp_block ?_
  refine awp_seq ?_
  refine awp_region ?_
  first | refine r_ixr sl_49 ty_55 rfl rfl (by omega) (by first | exact map_get (by omega) | exact map_geti (by omega)) trivial rfl ?_ | refine r_ixw sl_49 ty_55 rfl rfl (by omega) (by omega) trivial rfl ?_
  first | refine r_lda ty_55 rfl rfl rfl rfl trivial rfl ?_ | refine r_ldra ty_55 rfl rfl rfl trivial rfl ?_ | refine r_ldoa ty_55 rfl rfl (by assumption) rfl rfl trivial rfl ?_
  refine r_alloc z_55 rfl trivial rfl ?_
  first | refine r_st ty_55 rfl rfl rfl rfl rfl rfl rfl trivial ?_ | refine r_sto ty_55 rfl rfl rfl rfl (by assumption) rfl rfl rfl trivial ?_
  refine reg_nil ?_
  refine awp_region ?_
  first | refine r_fld fld_55_0 rfl trivial rfl ?_ | refine r_fldr fld_55_0 rfl trivial rfl ?_
  first | refine r_ld ty_53 rfl rfl rfl trivial rfl ?_ | refine r_ldr ty_53 rfl rfl trivial rfl ?_ | refine r_ldo ty_53 rfl rfl (by assumption) rfl trivial rfl ?_
  first | refine r_nilck rfl trivial rfl ?_ | refine r_nilckr rfl trivial rfl ?_ | refine r_nilckf rfl trivial rfl ?_
  first | refine r_st ty_3 rfl rfl rfl rfl rfl rfl rfl trivial ?_ | refine r_sto ty_3 rfl rfl rfl rfl (by assumption) rfl rfl rfl trivial ?_
  refine reg_nil ?_
  refine awp_region ?_
  refine r_add rfl rfl (rng64 (by omega)) trivial rfl ?_
  refine r_mv rfl trivial rfl ?_
  refine reg_nil ?_
  refine unr_succ ?_
  refine awp_seq ?_
  refine awp_region ?_
  refine r_lss rfl rfl trivial rfl ?_
  refine reg_nil ?_
  refine awp_seq ?_
  refine awp_cond_f rfl ?_
  refine awp_exit ?_
  refine awp_seq ?_
  refine awp_region ?_
  first | refine r_fld fld_37_0 rfl trivial rfl ?_ | refine r_fldr fld_37_0 rfl trivial rfl ?_
  first | refine r_st ty_3 rfl rfl rfl rfl rfl rfl rfl trivial ?_ | refine r_sto ty_3 rfl rfl rfl rfl (by assumption) rfl rfl rfl trivial ?_
  refine reg_nil ?_
  refine awp_seq ?_
  refine awp_region ?_
  first | refine r_lda ty_37 rfl rfl rfl rfl trivial rfl ?_ | refine r_ldra ty_37 rfl rfl rfl trivial rfl ?_ | refine r_ldoa ty_37 rfl rfl (by assumption) rfl rfl trivial rfl ?_
  first | refine r_st ty_37 rfl rfl rfl rfl rfl rfl rfl trivial ?_ | refine r_sto ty_37 rfl rfl rfl rfl (by assumption) rfl rfl rfl trivial ?_
  refine reg_nil ?_
  refine awp_ret ?_
  exact fin0' (.cons (.agg rfl rfl ty_37 (Nat.le_of_ble_eq_true rfl)) .nil) (by first | exact .fv | exact .frz rfl rfl trivial | exact .nil | exact .aggf' rfl | exact .aggf)
set_option maxRecDepth 100000 in
theorem rest_5 (key slot gen : Int) (good : Bool) (request backend weight : Int) : Fun Tryd.prog 21 [.agg (fvs (encEv ⟨5, key, slot, gen, good, request, backend, weight⟩))] [] [] (.agg (fvs (encEv ⟨0, key, slot, gen, good, 0, 0, 0⟩))) [] := by
  refine fun_of_awp (rl := [.cell 2 37]) Tryd.func21 rfl Tryd.results21 Tryd.ntmps21 0 rfl (by simp) ?_
  intro w0 own0 ρ0 F hz
  refine awp_seq ?_
  refine awp_region ?_
  refine r_box rfl rfl rfl trivial rfl ?_
  refine r_alloc z_37 rfl trivial rfl ?_
  refine reg_nil ?_
  refine awp_seq ?_
  refine awp_region ?_
  refine r_alloc z_3 rfl trivial rfl ?_
  first | refine r_st ty_3 rfl rfl rfl rfl rfl rfl rfl trivial ?_ | refine r_sto ty_3 rfl rfl rfl rfl (by assumption) rfl rfl rfl trivial ?_
  refine reg_nil ?_
  refine awp_seq ?_
  refine awp_region ?_
  refine r_callh [(0, 0), (1, 2), (2, 3)] 4 3 (fields_5 key slot gen good request backend weight 0) cb_20 rfl rfl rfl ?_ (.cons rfl (.cons rfl .nil)) rfl rfl rfl rfl trivial rfl ?_
  · (repeat (first | exact .nil | refine .cons .fv ?_ | refine .cons (.aggf' rfl) ?_ | refine .cons .nil ?_ | refine .cons (.ren rfl) ?_))
  refine r_mv rfl trivial rfl ?_
  refine r_ext rfl rfl trivial rfl ?_
  refine r_ext rfl rfl trivial rfl ?_
  refine r_as rfl trivial rfl ?_
  refine r_as rfl trivial rfl ?_
  refine reg_nil ?_
  refine awp_seq ?_
  refine awp_seq ?_
  refine awp_region ?_
  first | refine r_fld fld_37_0 rfl trivial rfl ?_ | refine r_fldr fld_37_0 rfl trivial rfl ?_
  first | refine r_ld ty_3 rfl rfl rfl trivial rfl ?_ | refine r_ldr ty_3 rfl rfl trivial rfl ?_ | refine r_ldo ty_3 rfl rfl (by assumption) rfl trivial rfl ?_
  refine r_eqi rfl rfl trivial rfl ?_
  refine reg_nil ?_
  refine awp_cond_f rfl ?_
  refine awp_skip ?_
  refine awp_seq ?_
  refine awp_seq ?_
  refine awp_region ?_
  refine r_mv rfl trivial rfl ?_
  first | refine r_lenr sl_49 rfl trivial rfl ?_ | refine r_lenw sl_49 rfl trivial rfl ?_ | refine r_len0 sl_49 rfl trivial rfl ?_
  refine r_mv rfl trivial rfl ?_
  refine reg_nil ?_
  refine awp_block ?_
  refine awp_unroll 4 ?_
  refine unr_succ ?_
  refine awp_seq ?_
  refine awp_region ?_
  refine r_lss rfl rfl trivial rfl ?_
  refine reg_nil ?_
  refine awp_seq ?_
  refine awp_cond_t rfl ?_
  refine awp_skip ?_
  refine awp_seq ?_
  refine awp_block ?_
  refine awp_seq ?_
  refine awp_region ?_
  first | refine r_ixr sl_49 ty_55 rfl rfl (by omega) (by first | exact map_get (by omega) | exact map_geti (by omega)) trivial rfl ?_ | refine r_ixw sl_49 ty_55 rfl rfl (by omega) (by omega) trivial rfl ?_
  first | refine r_lda ty_55 rfl rfl rfl rfl trivial rfl ?_ | refine r_ldra ty_55 rfl rfl rfl trivial rfl ?_ | refine r_ldoa ty_55 rfl rfl (by assumption) rfl rfl trivial rfl ?_
  refine r_alloc z_55 rfl trivial rfl ?_
  first | refine r_st ty_55 rfl rfl rfl rfl rfl rfl rfl trivial ?_ | refine r_sto ty_55 rfl rfl rfl rfl (by assumption) rfl rfl rfl trivial ?_
  refine reg_nil ?_
  refine awp_region ?_
  first | refine r_fld fld_55_0 rfl trivial rfl ?_ | refine r_fldr fld_55_0 rfl trivial rfl ?_
  first | refine r_ld ty_53 rfl rfl rfl trivial rfl ?_ | refine r_ldr ty_53 rfl rfl trivial rfl ?_ | refine r_ldo ty_53 rfl rfl (by assumption) rfl trivial rfl ?_
  first | refine r_nilck rfl trivial rfl ?_ | refine r_nilckr rfl trivial rfl ?_ | refine r_nilckf rfl trivial rfl ?_
  first | refine r_st ty_3 rfl rfl rfl rfl rfl rfl rfl trivial ?_ | refine r_sto ty_3 rfl rfl rfl rfl (by assumption) rfl rfl rfl trivial ?_
  refine reg_nil ?_
  refine awp_region ?_
  refine r_add rfl rfl (rng64 (by omega)) trivial rfl ?_
  refine r_mv rfl trivial rfl ?_
  refine reg_nil ?_
  refine unr_succ ?_
  refine awp_seq ?_
  refine awp_region ?_
  refine r_lss rfl rfl trivial rfl ?_
  refine reg_nil ?_
  refine awp_seq ?_
  refine awp_cond_t rfl ?_
  refine awp_skip ?_
  refine awp_seq ?_
  refine awp_block ?_
  refine awp_seq ?_
  refine awp_region ?_
  first | refine r_ixr sl_49 ty_55 rfl rfl (by omega) (by first | exact map_get (by omega) | exact map_geti (by omega)) trivial rfl ?_ | refine r_ixw sl_49 ty_55 rfl rfl (by omega) (by omega) trivial rfl ?_
  first | refine r_lda ty_55 rfl rfl rfl rfl trivial rfl ?_ | refine r_ldra ty_55 rfl rfl rfl trivial rfl ?_ | refine r_ldoa ty_55 rfl rfl (by assumption) rfl rfl trivial rfl ?_
  refine r_alloc z_55 rfl trivial rfl ?_
  first | refine r_st ty_55 rfl rfl rfl rfl rfl rfl rfl trivial ?_ | refine r_sto ty_55 rfl rfl rfl rfl (by assumption) rfl rfl rfl trivial ?_
  refine reg_nil ?_
  refine awp_region ?_
  first | refine r_fld fld_55_0 rfl trivial rfl ?_ | refine r_fldr fld_55_0 rfl trivial rfl ?_
  first | refine r_ld ty_53 rfl rfl rfl trivial rfl ?_ | refine r_ldr ty_53 rfl rfl trivial rfl ?_ | refine r_ldo ty_53 rfl rfl (by assumption) rfl trivial rfl ?_
  first | refine r_nilck rfl trivial rfl ?_ | refine r_nilckr rfl trivial rfl ?_ | refine r_nilckf rfl trivial rfl ?_
  first | refine r_st ty_3 rfl rfl rfl rfl rfl rfl rfl trivial ?_ | refine r_sto ty_3 rfl rfl rfl rfl (by assumption) rfl rfl rfl trivial ?_
  refine reg_nil ?_
  refine awp_region ?_
  refine r_add rfl rfl (rng64 (by omega)) trivial rfl ?_
  refine r_mv rfl trivial rfl ?_
  refine reg_nil ?_
  refine unr_succ ?_
  refine awp_seq ?_
  refine awp_region ?_
  refine r_lss rfl rfl trivial rfl ?_
  refine reg_nil ?_
  refine awp_seq ?_
  refine awp_cond_t rfl ?_
  refine awp_skip ?_
  refine awp_seq ?_
  refine awp_block ?_
  refine awp_seq ?_
  refine awp_region ?_
  first | refine r_ixr sl_49 ty_55 rfl rfl (by omega) (by first | exact map_get (by omega) | exact map_geti (by omega)) trivial rfl ?_ | refine r_ixw sl_49 ty_55 rfl rfl (by omega) (by omega) trivial rfl ?_
  first | refine r_lda ty_55 rfl rfl rfl rfl trivial rfl ?_ | refine r_ldra ty_55 rfl rfl rfl trivial rfl ?_ | refine r_ldoa ty_55 rfl rfl (by assumption) rfl rfl trivial rfl ?_
  refine r_alloc z_55 rfl trivial rfl ?_
  first | refine r_st ty_55 rfl rfl rfl rfl rfl rfl rfl trivial ?_ | refine r_sto ty_55 rfl rfl rfl rfl (by assumption) rfl rfl rfl trivial ?_
  refine reg_nil ?_
  refine awp_region ?_
  first | refine r_fld fld_55_0 rfl trivial rfl ?_ | refine r_fldr fld_55_0 rfl trivial rfl ?_
  first | refine r_ld ty_53 rfl rfl rfl trivial rfl ?_ | refine r_ldr ty_53 rfl rfl trivial rfl ?_ | refine r_ldo ty_53 rfl rfl (by assumption) rfl trivial rfl ?_
  first | refine r_nilck rfl trivial rfl ?_ | refine r_nilckr rfl trivial rfl ?_ | refine r_nilckf rfl trivial rfl ?_
  first | refine r_st ty_3 rfl rfl rfl rfl rfl rfl rfl trivial ?_ | refine r_sto ty_3 rfl rfl rfl rfl (by assumption) rfl rfl rfl trivial ?_
  refine reg_nil ?_
  refine awp_region ?_
  refine r_add rfl rfl (rng64 (by omega)) trivial rfl ?_
  refine r_mv rfl trivial rfl ?_
  refine reg_nil ?_
  refine unr_succ ?_
  refine awp_seq ?_
  refine awp_region ?_
  refine r_lss rfl rfl trivial rfl ?_
  refine reg_nil ?_
  refine awp_seq ?_
  refine awp_cond_f rfl ?_
  refine awp_exit ?_
  refine awp_seq ?_
  refine awp_region ?_
  first | refine r_fld fld_37_0 rfl trivial rfl ?_ | refine r_fldr fld_37_0 rfl trivial rfl ?_
  first | refine r_st ty_3 rfl rfl rfl rfl rfl rfl rfl trivial ?_ | refine r_sto ty_3 rfl rfl rfl rfl (by assumption) rfl rfl rfl trivial ?_
  refine reg_nil ?_
  refine awp_seq ?_
  refine awp_region ?_
  first | refine r_lda ty_37 rfl rfl rfl rfl trivial rfl ?_ | refine r_ldra ty_37 rfl rfl rfl trivial rfl ?_ | refine r_ldoa ty_37 rfl rfl (by assumption) rfl rfl trivial rfl ?_
  first | refine r_st ty_37 rfl rfl rfl rfl rfl rfl rfl trivial ?_ | refine r_sto ty_37 rfl rfl rfl rfl (by assumption) rfl rfl rfl trivial ?_
  refine reg_nil ?_
  refine awp_ret ?_
  exact fin0' (.cons (.agg rfl rfl ty_37 (Nat.le_of_ble_eq_true rfl)) .nil) (by first | exact .fv | exact .frz rfl rfl trivial | exact .nil | exact .aggf' rfl | exact .aggf)
set_option maxRecDepth 100000 in
theorem rest_6 (key slot gen : Int) (good : Bool) (request backend weight : Int) : Fun Tryd.prog 21 [.agg (fvs (encEv ⟨6, key, slot, gen, good, request, backend, weight⟩))] [] [] (.agg (fvs (encEv ⟨0, key, slot, gen, good, 0, 0, weight⟩))) [] := by
  refine fun_of_awp (rl := [.cell 2 37]) Tryd.func21 rfl Tryd.results21 Tryd.ntmps21 0 rfl (by simp) ?_
  intro w0 own0 ρ0 F hz
  refine awp_seq ?_
  refine awp_region ?_
  refine r_box rfl rfl rfl trivial rfl ?_
  refine r_alloc z_37 rfl trivial rfl ?_
  refine reg_nil ?_
  refine awp_seq ?_
  refine awp_region ?_
  refine r_alloc z_3 rfl trivial rfl ?_
  first | refine r_st ty_3 rfl rfl rfl rfl rfl rfl rfl trivial ?_ | refine r_sto ty_3 rfl rfl rfl rfl (by assumption) rfl rfl rfl trivial ?_
  refine reg_nil ?_
  refine awp_seq ?_
  refine awp_region ?_
  refine r_callh [(0, 0), (1, 2), (2, 3)] 4 3 (fields_6 key slot gen good request backend weight 0) cb_20 rfl rfl rfl ?_ (.cons rfl (.cons rfl .nil)) rfl rfl rfl rfl trivial rfl ?_
  · (repeat (first | exact .nil | refine .cons .fv ?_ | refine .cons (.aggf' rfl) ?_ | refine .cons .nil ?_ | refine .cons (.ren rfl) ?_))
  refine r_mv rfl trivial rfl ?_
  refine r_ext rfl rfl trivial rfl ?_
  refine r_ext rfl rfl trivial rfl ?_
  refine r_as rfl trivial rfl ?_
  refine r_as rfl trivial rfl ?_
  refine reg_nil ?_
  refine awp_seq ?_
  refine awp_seq ?_
  refine awp_region ?_
  first | refine r_fld fld_37_0 rfl trivial rfl ?_ | refine r_fldr fld_37_0 rfl trivial rfl ?_
  first | refine r_ld ty_3 rfl rfl rfl trivial rfl ?_ | refine r_ldr ty_3 rfl rfl trivial rfl ?_ | refine r_ldo ty_3 rfl rfl (by assumption) rfl trivial rfl ?_
  refine r_eqi rfl rfl trivial rfl ?_
  refine reg_nil ?_
  refine awp_cond_f rfl ?_
  refine awp_skip ?_
  refine awp_seq ?_
  refine awp_seq ?_
  refine awp_region ?_
  refine r_mv rfl trivial rfl ?_
  first | refine r_lenr sl_49 rfl trivial rfl ?_ | refine r_lenw sl_49 rfl trivial rfl ?_ | refine r_len0 sl_49 rfl trivial rfl ?_
  refine r_mv rfl trivial rfl ?_
  refine reg_nil ?_
  refine awp_block ?_
  refine awp_unroll 3 ?_
  refine unr_succ ?_
  refine awp_seq ?_
  refine awp_region ?_
  refine r_lss rfl rfl trivial rfl ?_
  refine reg_nil ?_
  refine awp_seq ?_
  refine awp_cond_t rfl ?_
  refine awp_skip ?_
  refine awp_seq ?_
  refine awp_block ?_
  refine awp_seq ?_
  refine awp_region ?_
  first | refine r_ixr sl_49 ty_55 rfl rfl (by omega) (by first | exact map_get (by omega) | exact map_geti (by omega)) trivial rfl ?_ | refine r_ixw sl_49 ty_55 rfl rfl (by omega) (by omega) trivial rfl ?_
  first | refine r_lda ty_55 rfl rfl rfl rfl trivial rfl ?_ | refine r_ldra ty_55 rfl rfl rfl trivial rfl ?_ | refine r_ldoa ty_55 rfl rfl (by assumption) rfl rfl trivial rfl ?_
  refine r_alloc z_55 rfl trivial rfl ?_
  first | refine r_st ty_55 rfl rfl rfl rfl rfl rfl rfl trivial ?_ | refine r_sto ty_55 rfl rfl rfl rfl (by assumption) rfl rfl rfl trivial ?_
  refine reg_nil ?_
  refine awp_region ?_
  first | refine r_fld fld_55_0 rfl trivial rfl ?_ | refine r_fldr fld_55_0 rfl trivial rfl ?_
  first | refine r_ld ty_53 rfl rfl rfl trivial rfl ?_ | refine r_ldr ty_53 rfl rfl trivial rfl ?_ | refine r_ldo ty_53 rfl rfl (by assumption) rfl trivial rfl ?_
  first | refine r_nilck rfl trivial rfl ?_ | refine r_nilckr rfl trivial rfl ?_ | refine r_nilckf rfl trivial rfl ?_
  first | refine r_st ty_3 rfl rfl rfl rfl rfl rfl rfl trivial ?_ | refine r_sto ty_3 rfl rfl rfl rfl (by assumption) rfl rfl rfl trivial ?_
  refine reg_nil ?_
  refine awp_region ?_
  refine r_add rfl rfl (rng64 (by omega)) trivial rfl ?_
  refine r_mv rfl trivial rfl ?_
  refine reg_nil ?_
  refine unr_succ ?_
  refine awp_seq ?_
  refine awp_region ?_
  refine r_lss rfl rfl trivial rfl ?_
  refine reg_nil ?_
  refine awp_seq ?_
  refine awp_cond_t rfl ?_
  refine awp_skip ?_
  refine awp_seq ?_
  refine awp_block ?_
  refine awp_seq ?_
  refine awp_region ?_
  first | refine r_ixr sl_49 ty_55 rfl rfl (by omega) (by first | exact map_get (by omega) | exact map_geti (by omega)) trivial rfl ?_ | refine r_ixw sl_49 ty_55 rfl rfl (by omega) (by omega) trivial rfl ?_
  first | refine r_lda ty_55 rfl rfl rfl rfl trivial rfl ?_ | refine r_ldra ty_55 rfl rfl rfl trivial rfl ?_ | refine r_ldoa ty_55 rfl rfl (by assumption) rfl rfl trivial rfl ?_
  refine r_alloc z_55 rfl trivial rfl ?_
  first | refine r_st ty_55 rfl rfl rfl rfl rfl rfl rfl trivial ?_ | refine r_sto ty_55 rfl rfl rfl rfl (by assumption) rfl rfl rfl trivial ?_
  refine reg_nil ?_
  refine awp_region ?_
  first | refine r_fld fld_55_0 rfl trivial rfl ?_ | refine r_fldr fld_55_0 rfl trivial rfl ?_
  first | refine r_ld ty_53 rfl rfl rfl trivial rfl ?_ | refine r_ldr ty_53 rfl rfl trivial rfl ?_ | refine r_ldo ty_53 rfl rfl (by assumption) rfl trivial rfl ?_
  first | refine r_nilck rfl trivial rfl ?_ | refine r_nilckr rfl trivial rfl ?_ | refine r_nilckf rfl trivial rfl ?_
  first | refine r_st ty_3 rfl rfl rfl rfl rfl rfl rfl trivial ?_ | refine r_sto ty_3 rfl rfl rfl rfl (by assumption) rfl rfl rfl trivial ?_
  refine reg_nil ?_
  refine awp_region ?_
  refine r_add rfl rfl (rng64 (by omega)) trivial rfl ?_
  refine r_mv rfl trivial rfl ?_
  refine reg_nil ?_
  refine unr_succ ?_
  refine awp_seq ?_
  refine awp_region ?_
  refine r_lss rfl rfl trivial rfl ?_
  refine reg_nil ?_
  refine awp_seq ?_
  refine awp_cond_f rfl ?_
  refine awp_exit ?_
  refine awp_seq ?_
  refine awp_region ?_
  first | refine r_fld fld_37_0 rfl trivial rfl ?_ | refine r_fldr fld_37_0 rfl trivial rfl ?_
  first | refine r_st ty_3 rfl rfl rfl rfl rfl rfl rfl trivial ?_ | refine r_sto ty_3 rfl rfl rfl rfl (by assumption) rfl rfl rfl trivial ?_
  refine reg_nil ?_
  refine awp_seq ?_
  refine awp_region ?_
  first | refine r_lda ty_37 rfl rfl rfl rfl trivial rfl ?_ | refine r_ldra ty_37 rfl rfl rfl trivial rfl ?_ | refine r_ldoa ty_37 rfl rfl (by assumption) rfl rfl trivial rfl ?_
  first | refine r_st ty_37 rfl rfl rfl rfl rfl rfl rfl trivial ?_ | refine r_sto ty_37 rfl rfl rfl rfl (by assumption) rfl rfl rfl trivial ?_
  refine reg_nil ?_
  refine awp_ret ?_
  exact fin0' (.cons (.agg rfl rfl ty_37 (Nat.le_of_ble_eq_true rfl)) .nil) (by first | exact .fv | exact .frz rfl rfl trivial | exact .nil | exact .aggf' rfl | exact .aggf)
set_option maxRecDepth 100000 in
theorem rest_7 (key slot gen : Int) (good : Bool) (request backend weight : Int) : Fun Tryd.prog 21 [.agg (fvs (encEv ⟨7, key, slot, gen, good, request, backend, weight⟩))] [] [] (.agg (fvs (encEv ⟨0, key, slot, gen, good, request, backend, weight⟩))) [] := by
  refine fun_of_awp (rl := [.cell 2 37]) Tryd.func21 rfl Tryd.results21 Tryd.ntmps21 0 rfl (by simp) ?_
  intro w0 own0 ρ0 F hz
  refine awp_seq ?_
  refine awp_region ?_
  refine r_box rfl rfl rfl trivial rfl ?_
  refine r_alloc z_37 rfl trivial rfl ?_
  refine reg_nil ?_
  refine awp_seq ?_
  refine awp_region ?_
  refine r_alloc z_3 rfl trivial rfl ?_
  first | refine r_st ty_3 rfl rfl rfl rfl rfl rfl rfl trivial ?_ | refine r_sto ty_3 rfl rfl rfl rfl (by assumption) rfl rfl rfl trivial ?_
  refine reg_nil ?_
  refine awp_seq ?_
  refine awp_region ?_
  refine r_callh [(0, 0), (1, 2)] 3 2 (fields_7 key slot gen good request backend weight 0) cb_20 rfl rfl rfl ?_ (.cons rfl (.cons rfl .nil)) rfl rfl rfl rfl trivial rfl ?_
  · (repeat (first | exact .nil | refine .cons .fv ?_ | refine .cons (.aggf' rfl) ?_ | refine .cons .nil ?_ | refine .cons (.ren rfl) ?_))
  refine r_mv rfl trivial rfl ?_
  refine r_ext rfl rfl trivial rfl ?_
  refine r_ext rfl rfl trivial rfl ?_
  refine r_as rfl trivial rfl ?_
  refine r_as rfl trivial rfl ?_
  refine reg_nil ?_
  refine awp_seq ?_
  refine awp_seq ?_
  refine awp_region ?_
  first | refine r_fld fld_37_0 rfl trivial rfl ?_ | refine r_fldr fld_37_0 rfl trivial rfl ?_
  first | refine r_ld ty_3 rfl rfl rfl trivial rfl ?_ | refine r_ldr ty_3 rfl rfl trivial rfl ?_ | refine r_ldo ty_3 rfl rfl (by assumption) rfl trivial rfl ?_
  refine r_eqi rfl rfl trivial rfl ?_
  refine reg_nil ?_
  refine awp_cond_f rfl ?_
  refine awp_skip ?_
  refine awp_seq ?_
  refine awp_seq ?_
  refine awp_region ?_
  refine r_mv rfl trivial rfl ?_
  first | refine r_lenr sl_49 rfl trivial rfl ?_ | refine r_lenw sl_49 rfl trivial rfl ?_ | refine r_len0 sl_49 rfl trivial rfl ?_
  refine r_mv rfl trivial rfl ?_
  refine reg_nil ?_
  refine awp_block ?_
  refine awp_unroll 1 ?_
  refine unr_succ ?_
  refine awp_seq ?_
  refine awp_region ?_
  refine r_lss rfl rfl trivial rfl ?_
  refine reg_nil ?_
  refine awp_seq ?_
  refine awp_cond_f rfl ?_
  refine awp_exit ?_
  refine awp_seq ?_
  refine awp_region ?_
  first | refine r_fld fld_37_0 rfl trivial rfl ?_ | refine r_fldr fld_37_0 rfl trivial rfl ?_
  first | refine r_st ty_3 rfl rfl rfl rfl rfl rfl rfl trivial ?_ | refine r_sto ty_3 rfl rfl rfl rfl (by assumption) rfl rfl rfl trivial ?_
  refine reg_nil ?_
  refine awp_seq ?_
  refine awp_region ?_
  first | refine r_lda ty_37 rfl rfl rfl rfl trivial rfl ?_ | refine r_ldra ty_37 rfl rfl rfl trivial rfl ?_ | refine r_ldoa ty_37 rfl rfl (by assumption) rfl rfl trivial rfl ?_
  first | refine r_st ty_37 rfl rfl rfl rfl rfl rfl rfl trivial ?_ | refine r_sto ty_37 rfl rfl rfl rfl (by assumption) rfl rfl rfl trivial ?_
  refine reg_nil ?_
  refine awp_ret ?_
  exact fin0' (.cons (.agg rfl rfl ty_37 (Nat.le_of_ble_eq_true rfl)) .nil) (by first | exact .fv | exact .frz rfl rfl trivial | exact .nil | exact .aggf' rfl | exact .aggf)
end Go.Uw.D
