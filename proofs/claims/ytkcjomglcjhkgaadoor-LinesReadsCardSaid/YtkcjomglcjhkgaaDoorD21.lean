/- A helper text of this claim: lemmas of an abstract machine over the model, or walks in it. Own work of an AI agent. -/
import Derived.Test.YtkcjomglcjhkgaaDoorD20
set_option linter.unusedVariables false
set_option linter.unusedSimpArgs false
namespace Go.Uw.D
open Go Go.Uw Go.Proofs

set_option maxRecDepth 100000 in
theorem numbersw_1 : Fun Tryd.prog 26 [.agg (fvs (encEv ⟨1, 0, 0, 0, false, 0, 0, 0⟩))] [] [0] (.tup [.rw 0 1 0 1, .fv (.ro 1 (intsF [0])), .fv (.ro 1 (intsF [4294967295])), bA true]) [(0, some (.rows 3 1 (intsF [0])))] := by
  refine fun_of_awp (rl := [.tmp 2, .tmp 3, .tmp 4, .tmp 5]) Tryd.func26 rfl Tryd.results26 Tryd.ntmps26 0 rfl (by simp) ?_
  intro w0 own0 ρ0 F hz
  refine awp_seq ?_
  refine awp_region ?_
  refine r_box rfl rfl rfl trivial rfl ?_
  refine r_as rfl trivial rfl ?_
  refine r_as rfl trivial rfl ?_
  refine r_as rfl trivial rfl ?_
  refine r_as rfl trivial rfl ?_
  refine reg_nil ?_
  refine awp_seq ?_
  refine awp_region ?_
  refine r_as rfl trivial rfl ?_
  refine reg_nil ?_
  refine awp_seq ?_
  refine awp_seq ?_
  refine awp_region ?_
  first | refine r_fld fld_37_4 rfl trivial rfl ?_ | refine r_fldr fld_37_4 rfl trivial rfl ?_
  first | refine r_ld ty_4 rfl rfl rfl trivial rfl ?_ | refine r_ldr ty_4 rfl rfl trivial rfl ?_ | refine r_ldo ty_4 rfl rfl (by first | rfl | assumption) rfl trivial rfl ?_
  refine reg_nil ?_
  first | refine awp_cond_dec rfl (fun h1 => ?_) (fun h1 => ?_) | refine awp_cond rfl (fun h1 => ?_) (fun h1 => ?_)
  · refine awp_region ?_
    refine r_as rfl trivial rfl ?_
    refine reg_nil ?_
    refine awp_seq ?_
    refine awp_seq ?_
    refine awp_region ?_
    first | refine r_fld fld_37_0 rfl trivial rfl ?_ | refine r_fldr fld_37_0 rfl trivial rfl ?_
    first | refine r_ld ty_3 rfl rfl rfl trivial rfl ?_ | refine r_ldr ty_3 rfl rfl trivial rfl ?_ | refine r_ldo ty_3 rfl rfl (by first | rfl | assumption) rfl trivial rfl ?_
    refine reg_nil ?_
    refine awp_block ?_
    refine awp_seq ?_
    refine awp_region ?_
    refine r_eqi rfl rfl trivial rfl ?_
    refine r_as rfl trivial rfl ?_
    refine reg_nil ?_
    refine awp_cond_t rfl ?_
    refine awp_seq ?_
    refine awp_region ?_
    first | refine r_fld fld_37_1 rfl trivial rfl ?_ | refine r_fldr fld_37_1 rfl trivial rfl ?_
    first | refine r_ld ty_3 rfl rfl rfl trivial rfl ?_ | refine r_ldr ty_3 rfl rfl trivial rfl ?_ | refine r_ldo ty_3 rfl rfl (by first | rfl | assumption) rfl trivial rfl ?_
    refine r_bslice (rs := [[_]]) sl_63 ty_3 rfl z_3 rfl rfl rfl rfl rfl rfl rfl trivial rfl ?_
    refine r_bslice (rs := [[_]]) sl_63 ty_3 rfl z_3 rfl rfl rfl rfl rfl rfl rfl trivial rfl ?_
    refine r_bslice (rs := [[_]]) sl_63 ty_3 rfl z_3 rfl rfl rfl rfl rfl rfl rfl trivial rfl ?_
    refine r_as rfl trivial rfl ?_
    refine r_as rfl trivial rfl ?_
    refine r_as rfl trivial rfl ?_
    refine r_as rfl trivial rfl ?_
    refine reg_nil ?_
    refine awp_ret ?_
    exact finG (nid := []) [(0, 1)] 1 (.cons (.tmp rfl) (.cons (.tmp rfl) (.cons (.tmp rfl) (.cons (.tmp rfl) .nil)))) rfl rfl rfl (.tup (.cons (.ren rfl) (.cons (.frz rfl rfl (fun i hi => by match i, hi with | 0, _ => decide | (i + 1), hi => simp [hget, Nat.beq] at hi)) (.cons (.frz rfl rfl (fun i hi => by match i, hi with | 0, _ => decide | (i + 1), hi => simp [hget, Nat.beq] at hi)) (.cons .fv .nil))))) (.cons rfl (.ren rfl) .nil)
  · refine awp_skip ?_
    refine awp_seq ?_
    refine awp_seq ?_
    refine awp_region ?_
    first | refine r_fld fld_37_0 rfl trivial rfl ?_ | refine r_fldr fld_37_0 rfl trivial rfl ?_
    first | refine r_ld ty_3 rfl rfl rfl trivial rfl ?_ | refine r_ldr ty_3 rfl rfl trivial rfl ?_ | refine r_ldo ty_3 rfl rfl (by first | rfl | assumption) rfl trivial rfl ?_
    refine reg_nil ?_
    refine awp_block ?_
    refine awp_seq ?_
    refine awp_region ?_
    refine r_eqi rfl rfl trivial rfl ?_
    refine r_as rfl trivial rfl ?_
    refine reg_nil ?_
    refine awp_cond_t rfl ?_
    refine awp_seq ?_
    refine awp_region ?_
    first | refine r_fld fld_37_1 rfl trivial rfl ?_ | refine r_fldr fld_37_1 rfl trivial rfl ?_
    first | refine r_ld ty_3 rfl rfl rfl trivial rfl ?_ | refine r_ldr ty_3 rfl rfl trivial rfl ?_ | refine r_ldo ty_3 rfl rfl (by first | rfl | assumption) rfl trivial rfl ?_
    refine r_bslice (rs := [[_]]) sl_63 ty_3 rfl z_3 rfl rfl rfl rfl rfl rfl rfl trivial rfl ?_
    refine r_bslice (rs := [[_]]) sl_63 ty_3 rfl z_3 rfl rfl rfl rfl rfl rfl rfl trivial rfl ?_
    refine r_bslice (rs := [[_]]) sl_63 ty_3 rfl z_3 rfl rfl rfl rfl rfl rfl rfl trivial rfl ?_
    refine r_as rfl trivial rfl ?_
    refine r_as rfl trivial rfl ?_
    refine r_as rfl trivial rfl ?_
    refine r_as rfl trivial rfl ?_
    refine reg_nil ?_
    refine awp_ret ?_
    exact finG (nid := []) [(0, 1)] 1 (.cons (.tmp rfl) (.cons (.tmp rfl) (.cons (.tmp rfl) (.cons (.tmp rfl) .nil)))) rfl rfl rfl (.tup (.cons (.ren rfl) (.cons (.frz rfl rfl (fun i hi => by match i, hi with | 0, _ => decide | (i + 1), hi => simp [hget, Nat.beq] at hi)) (.cons (.frz rfl rfl (fun i hi => by match i, hi with | 0, _ => decide | (i + 1), hi => simp [hget, Nat.beq] at hi)) (.cons .fv .nil))))) (.cons rfl (.ren rfl) .nil)
set_option maxRecDepth 100000 in
theorem numbersw_2 : Fun Tryd.prog 26 [.agg (fvs (encEv ⟨2, 0, 0, 0, false, 0, 0, 0⟩))] [] [0] (.tup [.rw 0 1 0 2, .fv (.ro 1 (intsF [0, 0])), .fv (.ro 1 (intsF [39, 1048576])), bA true]) [(0, some (.rows 3 1 (intsF [0, 0])))] := by
  refine fun_of_awp (rl := [.tmp 2, .tmp 3, .tmp 4, .tmp 5]) Tryd.func26 rfl Tryd.results26 Tryd.ntmps26 0 rfl (by simp) ?_
  intro w0 own0 ρ0 F hz
  refine awp_seq ?_
  refine awp_region ?_
  refine r_box rfl rfl rfl trivial rfl ?_
  refine r_as rfl trivial rfl ?_
  refine r_as rfl trivial rfl ?_
  refine r_as rfl trivial rfl ?_
  refine r_as rfl trivial rfl ?_
  refine reg_nil ?_
  refine awp_seq ?_
  refine awp_region ?_
  refine r_as rfl trivial rfl ?_
  refine reg_nil ?_
  refine awp_seq ?_
  refine awp_seq ?_
  refine awp_region ?_
  first | refine r_fld fld_37_4 rfl trivial rfl ?_ | refine r_fldr fld_37_4 rfl trivial rfl ?_
  first | refine r_ld ty_4 rfl rfl rfl trivial rfl ?_ | refine r_ldr ty_4 rfl rfl trivial rfl ?_ | refine r_ldo ty_4 rfl rfl (by first | rfl | assumption) rfl trivial rfl ?_
  refine reg_nil ?_
  first | refine awp_cond_dec rfl (fun h1 => ?_) (fun h1 => ?_) | refine awp_cond rfl (fun h1 => ?_) (fun h1 => ?_)
  · refine awp_region ?_
    refine r_as rfl trivial rfl ?_
    refine reg_nil ?_
    refine awp_seq ?_
    refine awp_seq ?_
    refine awp_region ?_
    first | refine r_fld fld_37_0 rfl trivial rfl ?_ | refine r_fldr fld_37_0 rfl trivial rfl ?_
    first | refine r_ld ty_3 rfl rfl rfl trivial rfl ?_ | refine r_ldr ty_3 rfl rfl trivial rfl ?_ | refine r_ldo ty_3 rfl rfl (by first | rfl | assumption) rfl trivial rfl ?_
    refine reg_nil ?_
    refine awp_block ?_
    refine awp_seq ?_
    refine awp_region ?_
    refine r_eqi rfl rfl trivial rfl ?_
    refine r_as rfl trivial rfl ?_
    refine reg_nil ?_
    refine awp_cond_f rfl ?_
    refine awp_seq ?_
    refine awp_seq ?_
    refine awp_region ?_
    refine r_eqi rfl rfl trivial rfl ?_
    refine r_as rfl trivial rfl ?_
    refine reg_nil ?_
    refine awp_cond_t rfl ?_
    refine awp_skip ?_
    refine awp_cond_t rfl ?_
    refine awp_seq ?_
    refine awp_region ?_
    first | refine r_fld fld_37_2 rfl trivial rfl ?_ | refine r_fldr fld_37_2 rfl trivial rfl ?_
    first | refine r_ld ty_3 rfl rfl rfl trivial rfl ?_ | refine r_ldr ty_3 rfl rfl trivial rfl ?_ | refine r_ldo ty_3 rfl rfl (by first | rfl | assumption) rfl trivial rfl ?_
    first | refine r_fld fld_37_3 rfl trivial rfl ?_ | refine r_fldr fld_37_3 rfl trivial rfl ?_
    first | refine r_ld ty_3 rfl rfl rfl trivial rfl ?_ | refine r_ldr ty_3 rfl rfl trivial rfl ?_ | refine r_ldo ty_3 rfl rfl (by first | rfl | assumption) rfl trivial rfl ?_
    refine r_bslice (rs := [[_], [_]]) sl_63 ty_3 rfl z_3 rfl rfl rfl rfl rfl rfl rfl trivial rfl ?_
    refine r_bslice (rs := [[_], [_]]) sl_63 ty_3 rfl z_3 rfl rfl rfl rfl rfl rfl rfl trivial rfl ?_
    refine r_bslice (rs := [[_], [_]]) sl_63 ty_3 rfl z_3 rfl rfl rfl rfl rfl rfl rfl trivial rfl ?_
    refine r_as rfl trivial rfl ?_
    refine r_as rfl trivial rfl ?_
    refine r_as rfl trivial rfl ?_
    refine r_as rfl trivial rfl ?_
    refine reg_nil ?_
    refine awp_ret ?_
    exact finG (nid := []) [(0, 1)] 1 (.cons (.tmp rfl) (.cons (.tmp rfl) (.cons (.tmp rfl) (.cons (.tmp rfl) .nil)))) rfl rfl rfl (.tup (.cons (.ren rfl) (.cons (.frz rfl rfl (fun i hi => by match i, hi with | 0, _ => decide | (i + 1), hi => simp [hget, Nat.beq] at hi)) (.cons (.frz rfl rfl (fun i hi => by match i, hi with | 0, _ => decide | (i + 1), hi => simp [hget, Nat.beq] at hi)) (.cons .fv .nil))))) (.cons rfl (.ren rfl) .nil)
  · refine awp_skip ?_
    refine awp_seq ?_
    refine awp_seq ?_
    refine awp_region ?_
    first | refine r_fld fld_37_0 rfl trivial rfl ?_ | refine r_fldr fld_37_0 rfl trivial rfl ?_
    first | refine r_ld ty_3 rfl rfl rfl trivial rfl ?_ | refine r_ldr ty_3 rfl rfl trivial rfl ?_ | refine r_ldo ty_3 rfl rfl (by first | rfl | assumption) rfl trivial rfl ?_
    refine reg_nil ?_
    refine awp_block ?_
    refine awp_seq ?_
    refine awp_region ?_
    refine r_eqi rfl rfl trivial rfl ?_
    refine r_as rfl trivial rfl ?_
    refine reg_nil ?_
    refine awp_cond_f rfl ?_
    refine awp_seq ?_
    refine awp_seq ?_
    refine awp_region ?_
    refine r_eqi rfl rfl trivial rfl ?_
    refine r_as rfl trivial rfl ?_
    refine reg_nil ?_
    refine awp_cond_t rfl ?_
    refine awp_skip ?_
    refine awp_cond_t rfl ?_
    refine awp_seq ?_
    refine awp_region ?_
    first | refine r_fld fld_37_2 rfl trivial rfl ?_ | refine r_fldr fld_37_2 rfl trivial rfl ?_
    first | refine r_ld ty_3 rfl rfl rfl trivial rfl ?_ | refine r_ldr ty_3 rfl rfl trivial rfl ?_ | refine r_ldo ty_3 rfl rfl (by first | rfl | assumption) rfl trivial rfl ?_
    first | refine r_fld fld_37_3 rfl trivial rfl ?_ | refine r_fldr fld_37_3 rfl trivial rfl ?_
    first | refine r_ld ty_3 rfl rfl rfl trivial rfl ?_ | refine r_ldr ty_3 rfl rfl trivial rfl ?_ | refine r_ldo ty_3 rfl rfl (by first | rfl | assumption) rfl trivial rfl ?_
    refine r_bslice (rs := [[_], [_]]) sl_63 ty_3 rfl z_3 rfl rfl rfl rfl rfl rfl rfl trivial rfl ?_
    refine r_bslice (rs := [[_], [_]]) sl_63 ty_3 rfl z_3 rfl rfl rfl rfl rfl rfl rfl trivial rfl ?_
    refine r_bslice (rs := [[_], [_]]) sl_63 ty_3 rfl z_3 rfl rfl rfl rfl rfl rfl rfl trivial rfl ?_
    refine r_as rfl trivial rfl ?_
    refine r_as rfl trivial rfl ?_
    refine r_as rfl trivial rfl ?_
    refine r_as rfl trivial rfl ?_
    refine reg_nil ?_
    refine awp_ret ?_
    exact finG (nid := []) [(0, 1)] 1 (.cons (.tmp rfl) (.cons (.tmp rfl) (.cons (.tmp rfl) (.cons (.tmp rfl) .nil)))) rfl rfl rfl (.tup (.cons (.ren rfl) (.cons (.frz rfl rfl (fun i hi => by match i, hi with | 0, _ => decide | (i + 1), hi => simp [hget, Nat.beq] at hi)) (.cons (.frz rfl rfl (fun i hi => by match i, hi with | 0, _ => decide | (i + 1), hi => simp [hget, Nat.beq] at hi)) (.cons .fv .nil))))) (.cons rfl (.ren rfl) .nil)
set_option maxRecDepth 100000 in
theorem numbersw_3 : Fun Tryd.prog 26 [.agg (fvs (encEv ⟨3, 0, 0, 0, false, 0, 0, 0⟩))] [] [0] (.tup [.rw 0 1 0 2, .fv (.ro 1 (intsF [0, 0])), .fv (.ro 1 (intsF [39, 1048576])), bA true]) [(0, some (.rows 3 1 (intsF [0, 0])))] := by
  refine fun_of_awp (rl := [.tmp 2, .tmp 3, .tmp 4, .tmp 5]) Tryd.func26 rfl Tryd.results26 Tryd.ntmps26 0 rfl (by simp) ?_
  intro w0 own0 ρ0 F hz
  refine awp_seq ?_
  refine awp_region ?_
  refine r_box rfl rfl rfl trivial rfl ?_
  refine r_as rfl trivial rfl ?_
  refine r_as rfl trivial rfl ?_
  refine r_as rfl trivial rfl ?_
  refine r_as rfl trivial rfl ?_
  refine reg_nil ?_
  refine awp_seq ?_
  refine awp_region ?_
  refine r_as rfl trivial rfl ?_
  refine reg_nil ?_
  refine awp_seq ?_
  refine awp_seq ?_
  refine awp_region ?_
  first | refine r_fld fld_37_4 rfl trivial rfl ?_ | refine r_fldr fld_37_4 rfl trivial rfl ?_
  first | refine r_ld ty_4 rfl rfl rfl trivial rfl ?_ | refine r_ldr ty_4 rfl rfl trivial rfl ?_ | refine r_ldo ty_4 rfl rfl (by first | rfl | assumption) rfl trivial rfl ?_
  refine reg_nil ?_
  first | refine awp_cond_dec rfl (fun h1 => ?_) (fun h1 => ?_) | refine awp_cond rfl (fun h1 => ?_) (fun h1 => ?_)
  · refine awp_region ?_
    refine r_as rfl trivial rfl ?_
    refine reg_nil ?_
    refine awp_seq ?_
    refine awp_seq ?_
    refine awp_region ?_
    first | refine r_fld fld_37_0 rfl trivial rfl ?_ | refine r_fldr fld_37_0 rfl trivial rfl ?_
    first | refine r_ld ty_3 rfl rfl rfl trivial rfl ?_ | refine r_ldr ty_3 rfl rfl trivial rfl ?_ | refine r_ldo ty_3 rfl rfl (by first | rfl | assumption) rfl trivial rfl ?_
    refine reg_nil ?_
    refine awp_block ?_
    refine awp_seq ?_
    refine awp_region ?_
    refine r_eqi rfl rfl trivial rfl ?_
    refine r_as rfl trivial rfl ?_
    refine reg_nil ?_
    refine awp_cond_f rfl ?_
    refine awp_seq ?_
    refine awp_seq ?_
    refine awp_region ?_
    refine r_eqi rfl rfl trivial rfl ?_
    refine r_as rfl trivial rfl ?_
    refine reg_nil ?_
    refine awp_cond_f rfl ?_
    refine awp_region ?_
    refine r_eqi rfl rfl trivial rfl ?_
    refine r_as rfl trivial rfl ?_
    refine reg_nil ?_
    refine awp_cond_t rfl ?_
    refine awp_seq ?_
    refine awp_region ?_
    first | refine r_fld fld_37_2 rfl trivial rfl ?_ | refine r_fldr fld_37_2 rfl trivial rfl ?_
    first | refine r_ld ty_3 rfl rfl rfl trivial rfl ?_ | refine r_ldr ty_3 rfl rfl trivial rfl ?_ | refine r_ldo ty_3 rfl rfl (by first | rfl | assumption) rfl trivial rfl ?_
    first | refine r_fld fld_37_3 rfl trivial rfl ?_ | refine r_fldr fld_37_3 rfl trivial rfl ?_
    first | refine r_ld ty_3 rfl rfl rfl trivial rfl ?_ | refine r_ldr ty_3 rfl rfl trivial rfl ?_ | refine r_ldo ty_3 rfl rfl (by first | rfl | assumption) rfl trivial rfl ?_
    refine r_bslice (rs := [[_], [_]]) sl_63 ty_3 rfl z_3 rfl rfl rfl rfl rfl rfl rfl trivial rfl ?_
    refine r_bslice (rs := [[_], [_]]) sl_63 ty_3 rfl z_3 rfl rfl rfl rfl rfl rfl rfl trivial rfl ?_
    refine r_bslice (rs := [[_], [_]]) sl_63 ty_3 rfl z_3 rfl rfl rfl rfl rfl rfl rfl trivial rfl ?_
    refine r_as rfl trivial rfl ?_
    refine r_as rfl trivial rfl ?_
    refine r_as rfl trivial rfl ?_
    refine r_as rfl trivial rfl ?_
    refine reg_nil ?_
    refine awp_ret ?_
    exact finG (nid := []) [(0, 1)] 1 (.cons (.tmp rfl) (.cons (.tmp rfl) (.cons (.tmp rfl) (.cons (.tmp rfl) .nil)))) rfl rfl rfl (.tup (.cons (.ren rfl) (.cons (.frz rfl rfl (fun i hi => by match i, hi with | 0, _ => decide | (i + 1), hi => simp [hget, Nat.beq] at hi)) (.cons (.frz rfl rfl (fun i hi => by match i, hi with | 0, _ => decide | (i + 1), hi => simp [hget, Nat.beq] at hi)) (.cons .fv .nil))))) (.cons rfl (.ren rfl) .nil)
  · refine awp_skip ?_
    refine awp_seq ?_
    refine awp_seq ?_
    refine awp_region ?_
    first | refine r_fld fld_37_0 rfl trivial rfl ?_ | refine r_fldr fld_37_0 rfl trivial rfl ?_
    first | refine r_ld ty_3 rfl rfl rfl trivial rfl ?_ | refine r_ldr ty_3 rfl rfl trivial rfl ?_ | refine r_ldo ty_3 rfl rfl (by first | rfl | assumption) rfl trivial rfl ?_
    refine reg_nil ?_
    refine awp_block ?_
    refine awp_seq ?_
    refine awp_region ?_
    refine r_eqi rfl rfl trivial rfl ?_
    refine r_as rfl trivial rfl ?_
    refine reg_nil ?_
    refine awp_cond_f rfl ?_
    refine awp_seq ?_
    refine awp_seq ?_
    refine awp_region ?_
    refine r_eqi rfl rfl trivial rfl ?_
    refine r_as rfl trivial rfl ?_
    refine reg_nil ?_
    refine awp_cond_f rfl ?_
    refine awp_region ?_
    refine r_eqi rfl rfl trivial rfl ?_
    refine r_as rfl trivial rfl ?_
    refine reg_nil ?_
    refine awp_cond_t rfl ?_
    refine awp_seq ?_
    refine awp_region ?_
    first | refine r_fld fld_37_2 rfl trivial rfl ?_ | refine r_fldr fld_37_2 rfl trivial rfl ?_
    first | refine r_ld ty_3 rfl rfl rfl trivial rfl ?_ | refine r_ldr ty_3 rfl rfl trivial rfl ?_ | refine r_ldo ty_3 rfl rfl (by first | rfl | assumption) rfl trivial rfl ?_
    first | refine r_fld fld_37_3 rfl trivial rfl ?_ | refine r_fldr fld_37_3 rfl trivial rfl ?_
    first | refine r_ld ty_3 rfl rfl rfl trivial rfl ?_ | refine r_ldr ty_3 rfl rfl trivial rfl ?_ | refine r_ldo ty_3 rfl rfl (by first | rfl | assumption) rfl trivial rfl ?_
    refine r_bslice (rs := [[_], [_]]) sl_63 ty_3 rfl z_3 rfl rfl rfl rfl rfl rfl rfl trivial rfl ?_
    refine r_bslice (rs := [[_], [_]]) sl_63 ty_3 rfl z_3 rfl rfl rfl rfl rfl rfl rfl trivial rfl ?_
    refine r_bslice (rs := [[_], [_]]) sl_63 ty_3 rfl z_3 rfl rfl rfl rfl rfl rfl rfl trivial rfl ?_
    refine r_as rfl trivial rfl ?_
    refine r_as rfl trivial rfl ?_
    refine r_as rfl trivial rfl ?_
    refine r_as rfl trivial rfl ?_
    refine reg_nil ?_
    refine awp_ret ?_
    exact finG (nid := []) [(0, 1)] 1 (.cons (.tmp rfl) (.cons (.tmp rfl) (.cons (.tmp rfl) (.cons (.tmp rfl) .nil)))) rfl rfl rfl (.tup (.cons (.ren rfl) (.cons (.frz rfl rfl (fun i hi => by match i, hi with | 0, _ => decide | (i + 1), hi => simp [hget, Nat.beq] at hi)) (.cons (.frz rfl rfl (fun i hi => by match i, hi with | 0, _ => decide | (i + 1), hi => simp [hget, Nat.beq] at hi)) (.cons .fv .nil))))) (.cons rfl (.ren rfl) .nil)
set_option maxRecDepth 100000 in
theorem numbersw_4 : Fun Tryd.prog 26 [.agg (fvs (encEv ⟨4, 0, 0, 0, false, 0, 0, 0⟩))] [] [0] (.tup [.rw 0 1 0 3, .fv (.ro 1 (intsF [0, 0, 0])), .fv (.ro 1 (intsF [39, 1048576, 1])), bA true]) [(0, some (.rows 3 1 (intsF [0, 0, 0])))] := by
  refine fun_of_awp (rl := [.tmp 2, .tmp 3, .tmp 4, .tmp 5]) Tryd.func26 rfl Tryd.results26 Tryd.ntmps26 0 rfl (by simp) ?_
  intro w0 own0 ρ0 F hz
  refine awp_seq ?_
  refine awp_region ?_
  refine r_box rfl rfl rfl trivial rfl ?_
  refine r_as rfl trivial rfl ?_
  refine r_as rfl trivial rfl ?_
  refine r_as rfl trivial rfl ?_
  refine r_as rfl trivial rfl ?_
  refine reg_nil ?_
  refine awp_seq ?_
  refine awp_region ?_
  refine r_as rfl trivial rfl ?_
  refine reg_nil ?_
  refine awp_seq ?_
  refine awp_seq ?_
  refine awp_region ?_
  first | refine r_fld fld_37_4 rfl trivial rfl ?_ | refine r_fldr fld_37_4 rfl trivial rfl ?_
  first | refine r_ld ty_4 rfl rfl rfl trivial rfl ?_ | refine r_ldr ty_4 rfl rfl trivial rfl ?_ | refine r_ldo ty_4 rfl rfl (by first | rfl | assumption) rfl trivial rfl ?_
  refine reg_nil ?_
  refine awp_cond_f rfl ?_
  refine awp_skip ?_
  refine awp_seq ?_
  refine awp_seq ?_
  refine awp_region ?_
  first | refine r_fld fld_37_0 rfl trivial rfl ?_ | refine r_fldr fld_37_0 rfl trivial rfl ?_
  first | refine r_ld ty_3 rfl rfl rfl trivial rfl ?_ | refine r_ldr ty_3 rfl rfl trivial rfl ?_ | refine r_ldo ty_3 rfl rfl (by first | rfl | assumption) rfl trivial rfl ?_
  refine reg_nil ?_
  refine awp_block ?_
  refine awp_seq ?_
  refine awp_region ?_
  refine r_eqi rfl rfl trivial rfl ?_
  refine r_as rfl trivial rfl ?_
  refine reg_nil ?_
  refine awp_cond_f rfl ?_
  refine awp_seq ?_
  refine awp_seq ?_
  refine awp_region ?_
  refine r_eqi rfl rfl trivial rfl ?_
  refine r_as rfl trivial rfl ?_
  refine reg_nil ?_
  refine awp_cond_f rfl ?_
  refine awp_region ?_
  refine r_eqi rfl rfl trivial rfl ?_
  refine r_as rfl trivial rfl ?_
  refine reg_nil ?_
  refine awp_cond_f rfl ?_
  refine awp_seq ?_
  refine awp_region ?_
  refine r_eqi rfl rfl trivial rfl ?_
  refine r_as rfl trivial rfl ?_
  refine reg_nil ?_
  refine awp_cond_t rfl ?_
  refine awp_seq ?_
  refine awp_region ?_
  first | refine r_fld fld_37_2 rfl trivial rfl ?_ | refine r_fldr fld_37_2 rfl trivial rfl ?_
  first | refine r_ld ty_3 rfl rfl rfl trivial rfl ?_ | refine r_ldr ty_3 rfl rfl trivial rfl ?_ | refine r_ldo ty_3 rfl rfl (by first | rfl | assumption) rfl trivial rfl ?_
  first | refine r_fld fld_37_3 rfl trivial rfl ?_ | refine r_fldr fld_37_3 rfl trivial rfl ?_
  first | refine r_ld ty_3 rfl rfl rfl trivial rfl ?_ | refine r_ldr ty_3 rfl rfl trivial rfl ?_ | refine r_ldo ty_3 rfl rfl (by first | rfl | assumption) rfl trivial rfl ?_
  refine r_mv rfl trivial rfl ?_
  refine r_bslice (rs := [[_], [_], [_]]) sl_63 ty_3 rfl z_3 rfl rfl rfl rfl rfl rfl rfl trivial rfl ?_
  refine r_bslice (rs := [[_], [_], [_]]) sl_63 ty_3 rfl z_3 rfl rfl rfl rfl rfl rfl rfl trivial rfl ?_
  refine r_bslice (rs := [[_], [_], [_]]) sl_63 ty_3 rfl z_3 rfl rfl rfl rfl rfl rfl rfl trivial rfl ?_
  refine r_as rfl trivial rfl ?_
  refine r_as rfl trivial rfl ?_
  refine r_as rfl trivial rfl ?_
  refine r_as rfl trivial rfl ?_
  refine reg_nil ?_
  refine awp_ret ?_
  exact finG (nid := []) [(0, 1)] 1 (.cons (.tmp rfl) (.cons (.tmp rfl) (.cons (.tmp rfl) (.cons (.tmp rfl) .nil)))) rfl rfl rfl (.tup (.cons (.ren rfl) (.cons (.frz rfl rfl (fun i hi => by match i, hi with | 0, _ => decide | (i + 1), hi => simp [hget, Nat.beq] at hi)) (.cons (.frz rfl rfl (fun i hi => by match i, hi with | 0, _ => decide | (i + 1), hi => simp [hget, Nat.beq] at hi)) (.cons .fv .nil))))) (.cons rfl (.ren rfl) .nil)
set_option maxRecDepth 100000 in
theorem numbersw_5 : Fun Tryd.prog 26 [.agg (fvs (encEv ⟨5, 0, 0, 0, false, 0, 0, 0⟩))] [] [0] (.tup [.rw 0 1 0 3, .fv (.ro 1 (intsF [0, 0, 1])), .fv (.ro 1 (intsF [1048576, 11, 8])), bA true]) [(0, some (.rows 3 1 (intsF [0, 0, 0])))] := by
  refine fun_of_awp (rl := [.tmp 2, .tmp 3, .tmp 4, .tmp 5]) Tryd.func26 rfl Tryd.results26 Tryd.ntmps26 0 rfl (by simp) ?_
  intro w0 own0 ρ0 F hz
  refine awp_seq ?_
  refine awp_region ?_
  refine r_box rfl rfl rfl trivial rfl ?_
  refine r_as rfl trivial rfl ?_
  refine r_as rfl trivial rfl ?_
  refine r_as rfl trivial rfl ?_
  refine r_as rfl trivial rfl ?_
  refine reg_nil ?_
  refine awp_seq ?_
  refine awp_region ?_
  refine r_as rfl trivial rfl ?_
  refine reg_nil ?_
  refine awp_seq ?_
  refine awp_seq ?_
  refine awp_region ?_
  first | refine r_fld fld_37_4 rfl trivial rfl ?_ | refine r_fldr fld_37_4 rfl trivial rfl ?_
  first | refine r_ld ty_4 rfl rfl rfl trivial rfl ?_ | refine r_ldr ty_4 rfl rfl trivial rfl ?_ | refine r_ldo ty_4 rfl rfl (by first | rfl | assumption) rfl trivial rfl ?_
  refine reg_nil ?_
  first | refine awp_cond_dec rfl (fun h1 => ?_) (fun h1 => ?_) | refine awp_cond rfl (fun h1 => ?_) (fun h1 => ?_)
  · refine awp_region ?_
    refine r_as rfl trivial rfl ?_
    refine reg_nil ?_
    refine awp_seq ?_
    refine awp_seq ?_
    refine awp_region ?_
    first | refine r_fld fld_37_0 rfl trivial rfl ?_ | refine r_fldr fld_37_0 rfl trivial rfl ?_
    first | refine r_ld ty_3 rfl rfl rfl trivial rfl ?_ | refine r_ldr ty_3 rfl rfl trivial rfl ?_ | refine r_ldo ty_3 rfl rfl (by first | rfl | assumption) rfl trivial rfl ?_
    refine reg_nil ?_
    refine awp_block ?_
    refine awp_seq ?_
    refine awp_region ?_
    refine r_eqi rfl rfl trivial rfl ?_
    refine r_as rfl trivial rfl ?_
    refine reg_nil ?_
    refine awp_cond_f rfl ?_
    refine awp_seq ?_
    refine awp_seq ?_
    refine awp_region ?_
    refine r_eqi rfl rfl trivial rfl ?_
    refine r_as rfl trivial rfl ?_
    refine reg_nil ?_
    refine awp_cond_f rfl ?_
    refine awp_region ?_
    refine r_eqi rfl rfl trivial rfl ?_
    refine r_as rfl trivial rfl ?_
    refine reg_nil ?_
    refine awp_cond_f rfl ?_
    refine awp_seq ?_
    refine awp_region ?_
    refine r_eqi rfl rfl trivial rfl ?_
    refine r_as rfl trivial rfl ?_
    refine reg_nil ?_
    refine awp_cond_f rfl ?_
    refine awp_seq ?_
    refine awp_region ?_
    refine r_eqi rfl rfl trivial rfl ?_
    refine r_as rfl trivial rfl ?_
    refine reg_nil ?_
    refine awp_cond_t rfl ?_
    refine awp_seq ?_
    refine awp_region ?_
    first | refine r_fld fld_37_5 rfl trivial rfl ?_ | refine r_fldr fld_37_5 rfl trivial rfl ?_
    first | refine r_ld ty_3 rfl rfl rfl trivial rfl ?_ | refine r_ldr ty_3 rfl rfl trivial rfl ?_ | refine r_ldo ty_3 rfl rfl (by first | rfl | assumption) rfl trivial rfl ?_
    first | refine r_fld fld_37_6 rfl trivial rfl ?_ | refine r_fldr fld_37_6 rfl trivial rfl ?_
    first | refine r_ld ty_3 rfl rfl rfl trivial rfl ?_ | refine r_ldr ty_3 rfl rfl trivial rfl ?_ | refine r_ldo ty_3 rfl rfl (by first | rfl | assumption) rfl trivial rfl ?_
    first | refine r_fld fld_37_7 rfl trivial rfl ?_ | refine r_fldr fld_37_7 rfl trivial rfl ?_
    first | refine r_ld ty_3 rfl rfl rfl trivial rfl ?_ | refine r_ldr ty_3 rfl rfl trivial rfl ?_ | refine r_ldo ty_3 rfl rfl (by first | rfl | assumption) rfl trivial rfl ?_
    refine r_bslice (rs := [[_], [_], [_]]) sl_63 ty_3 rfl z_3 rfl rfl rfl rfl rfl rfl rfl trivial rfl ?_
    refine r_bslice (rs := [[_], [_], [_]]) sl_63 ty_3 rfl z_3 rfl rfl rfl rfl rfl rfl rfl trivial rfl ?_
    refine r_bslice (rs := [[_], [_], [_]]) sl_63 ty_3 rfl z_3 rfl rfl rfl rfl rfl rfl rfl trivial rfl ?_
    refine r_as rfl trivial rfl ?_
    refine r_as rfl trivial rfl ?_
    refine r_as rfl trivial rfl ?_
    refine r_as rfl trivial rfl ?_
    refine reg_nil ?_
    refine awp_ret ?_
    exact finG (nid := []) [(0, 1)] 1 (.cons (.tmp rfl) (.cons (.tmp rfl) (.cons (.tmp rfl) (.cons (.tmp rfl) .nil)))) rfl rfl rfl (.tup (.cons (.ren rfl) (.cons (.frz rfl rfl (fun i hi => by match i, hi with | 0, _ => decide | (i + 1), hi => simp [hget, Nat.beq] at hi)) (.cons (.frz rfl rfl (fun i hi => by match i, hi with | 0, _ => decide | (i + 1), hi => simp [hget, Nat.beq] at hi)) (.cons .fv .nil))))) (.cons rfl (.ren rfl) .nil)
  · refine awp_skip ?_
    refine awp_seq ?_
    refine awp_seq ?_
    refine awp_region ?_
    first | refine r_fld fld_37_0 rfl trivial rfl ?_ | refine r_fldr fld_37_0 rfl trivial rfl ?_
    first | refine r_ld ty_3 rfl rfl rfl trivial rfl ?_ | refine r_ldr ty_3 rfl rfl trivial rfl ?_ | refine r_ldo ty_3 rfl rfl (by first | rfl | assumption) rfl trivial rfl ?_
    refine reg_nil ?_
    refine awp_block ?_
    refine awp_seq ?_
    refine awp_region ?_
    refine r_eqi rfl rfl trivial rfl ?_
    refine r_as rfl trivial rfl ?_
    refine reg_nil ?_
    refine awp_cond_f rfl ?_
    refine awp_seq ?_
    refine awp_seq ?_
    refine awp_region ?_
    refine r_eqi rfl rfl trivial rfl ?_
    refine r_as rfl trivial rfl ?_
    refine reg_nil ?_
    refine awp_cond_f rfl ?_
    refine awp_region ?_
    refine r_eqi rfl rfl trivial rfl ?_
    refine r_as rfl trivial rfl ?_
    refine reg_nil ?_
    refine awp_cond_f rfl ?_
    refine awp_seq ?_
    refine awp_region ?_
    refine r_eqi rfl rfl trivial rfl ?_
    refine r_as rfl trivial rfl ?_
    refine reg_nil ?_
    refine awp_cond_f rfl ?_
    refine awp_seq ?_
    refine awp_region ?_
    refine r_eqi rfl rfl trivial rfl ?_
    refine r_as rfl trivial rfl ?_
    refine reg_nil ?_
    refine awp_cond_t rfl ?_
    refine awp_seq ?_
    refine awp_region ?_
    first | refine r_fld fld_37_5 rfl trivial rfl ?_ | refine r_fldr fld_37_5 rfl trivial rfl ?_
    first | refine r_ld ty_3 rfl rfl rfl trivial rfl ?_ | refine r_ldr ty_3 rfl rfl trivial rfl ?_ | refine r_ldo ty_3 rfl rfl (by first | rfl | assumption) rfl trivial rfl ?_
    first | refine r_fld fld_37_6 rfl trivial rfl ?_ | refine r_fldr fld_37_6 rfl trivial rfl ?_
    first | refine r_ld ty_3 rfl rfl rfl trivial rfl ?_ | refine r_ldr ty_3 rfl rfl trivial rfl ?_ | refine r_ldo ty_3 rfl rfl (by first | rfl | assumption) rfl trivial rfl ?_
    first | refine r_fld fld_37_7 rfl trivial rfl ?_ | refine r_fldr fld_37_7 rfl trivial rfl ?_
    first | refine r_ld ty_3 rfl rfl rfl trivial rfl ?_ | refine r_ldr ty_3 rfl rfl trivial rfl ?_ | refine r_ldo ty_3 rfl rfl (by first | rfl | assumption) rfl trivial rfl ?_
    refine r_bslice (rs := [[_], [_], [_]]) sl_63 ty_3 rfl z_3 rfl rfl rfl rfl rfl rfl rfl trivial rfl ?_
    refine r_bslice (rs := [[_], [_], [_]]) sl_63 ty_3 rfl z_3 rfl rfl rfl rfl rfl rfl rfl trivial rfl ?_
    refine r_bslice (rs := [[_], [_], [_]]) sl_63 ty_3 rfl z_3 rfl rfl rfl rfl rfl rfl rfl trivial rfl ?_
    refine r_as rfl trivial rfl ?_
    refine r_as rfl trivial rfl ?_
    refine r_as rfl trivial rfl ?_
    refine r_as rfl trivial rfl ?_
    refine reg_nil ?_
    refine awp_ret ?_
    exact finG (nid := []) [(0, 1)] 1 (.cons (.tmp rfl) (.cons (.tmp rfl) (.cons (.tmp rfl) (.cons (.tmp rfl) .nil)))) rfl rfl rfl (.tup (.cons (.ren rfl) (.cons (.frz rfl rfl (fun i hi => by match i, hi with | 0, _ => decide | (i + 1), hi => simp [hget, Nat.beq] at hi)) (.cons (.frz rfl rfl (fun i hi => by match i, hi with | 0, _ => decide | (i + 1), hi => simp [hget, Nat.beq] at hi)) (.cons .fv .nil))))) (.cons rfl (.ren rfl) .nil)
set_option maxRecDepth 100000 in
theorem numbersw_6 : Fun Tryd.prog 26 [.agg (fvs (encEv ⟨6, 0, 0, 0, false, 0, 0, 0⟩))] [] [0] (.tup [.rw 0 1 0 2, .fv (.ro 1 (intsF [0, 0])), .fv (.ro 1 (intsF [1048576, 11])), bA true]) [(0, some (.rows 3 1 (intsF [0, 0])))] := by
  refine fun_of_awp (rl := [.tmp 2, .tmp 3, .tmp 4, .tmp 5]) Tryd.func26 rfl Tryd.results26 Tryd.ntmps26 0 rfl (by simp) ?_
  intro w0 own0 ρ0 F hz
  refine awp_seq ?_
  refine awp_region ?_
  refine r_box rfl rfl rfl trivial rfl ?_
  refine r_as rfl trivial rfl ?_
  refine r_as rfl trivial rfl ?_
  refine r_as rfl trivial rfl ?_
  refine r_as rfl trivial rfl ?_
  refine reg_nil ?_
  refine awp_seq ?_
  refine awp_region ?_
  refine r_as rfl trivial rfl ?_
  refine reg_nil ?_
  refine awp_seq ?_
  refine awp_seq ?_
  refine awp_region ?_
  first | refine r_fld fld_37_4 rfl trivial rfl ?_ | refine r_fldr fld_37_4 rfl trivial rfl ?_
  first | refine r_ld ty_4 rfl rfl rfl trivial rfl ?_ | refine r_ldr ty_4 rfl rfl trivial rfl ?_ | refine r_ldo ty_4 rfl rfl (by first | rfl | assumption) rfl trivial rfl ?_
  refine reg_nil ?_
  first | refine awp_cond_dec rfl (fun h1 => ?_) (fun h1 => ?_) | refine awp_cond rfl (fun h1 => ?_) (fun h1 => ?_)
  · refine awp_region ?_
    refine r_as rfl trivial rfl ?_
    refine reg_nil ?_
    refine awp_seq ?_
    refine awp_seq ?_
    refine awp_region ?_
    first | refine r_fld fld_37_0 rfl trivial rfl ?_ | refine r_fldr fld_37_0 rfl trivial rfl ?_
    first | refine r_ld ty_3 rfl rfl rfl trivial rfl ?_ | refine r_ldr ty_3 rfl rfl trivial rfl ?_ | refine r_ldo ty_3 rfl rfl (by first | rfl | assumption) rfl trivial rfl ?_
    refine reg_nil ?_
    refine awp_block ?_
    refine awp_seq ?_
    refine awp_region ?_
    refine r_eqi rfl rfl trivial rfl ?_
    refine r_as rfl trivial rfl ?_
    refine reg_nil ?_
    refine awp_cond_f rfl ?_
    refine awp_seq ?_
    refine awp_seq ?_
    refine awp_region ?_
    refine r_eqi rfl rfl trivial rfl ?_
    refine r_as rfl trivial rfl ?_
    refine reg_nil ?_
    refine awp_cond_f rfl ?_
    refine awp_region ?_
    refine r_eqi rfl rfl trivial rfl ?_
    refine r_as rfl trivial rfl ?_
    refine reg_nil ?_
    refine awp_cond_f rfl ?_
    refine awp_seq ?_
    refine awp_region ?_
    refine r_eqi rfl rfl trivial rfl ?_
    refine r_as rfl trivial rfl ?_
    refine reg_nil ?_
    refine awp_cond_f rfl ?_
    refine awp_seq ?_
    refine awp_region ?_
    refine r_eqi rfl rfl trivial rfl ?_
    refine r_as rfl trivial rfl ?_
    refine reg_nil ?_
    refine awp_cond_f rfl ?_
    refine awp_seq ?_
    refine awp_region ?_
    refine r_eqi rfl rfl trivial rfl ?_
    refine r_as rfl trivial rfl ?_
    refine reg_nil ?_
    refine awp_cond_t rfl ?_
    refine awp_seq ?_
    refine awp_region ?_
    first | refine r_fld fld_37_5 rfl trivial rfl ?_ | refine r_fldr fld_37_5 rfl trivial rfl ?_
    first | refine r_ld ty_3 rfl rfl rfl trivial rfl ?_ | refine r_ldr ty_3 rfl rfl trivial rfl ?_ | refine r_ldo ty_3 rfl rfl (by first | rfl | assumption) rfl trivial rfl ?_
    first | refine r_fld fld_37_6 rfl trivial rfl ?_ | refine r_fldr fld_37_6 rfl trivial rfl ?_
    first | refine r_ld ty_3 rfl rfl rfl trivial rfl ?_ | refine r_ldr ty_3 rfl rfl trivial rfl ?_ | refine r_ldo ty_3 rfl rfl (by first | rfl | assumption) rfl trivial rfl ?_
    refine r_bslice (rs := [[_], [_]]) sl_63 ty_3 rfl z_3 rfl rfl rfl rfl rfl rfl rfl trivial rfl ?_
    refine r_bslice (rs := [[_], [_]]) sl_63 ty_3 rfl z_3 rfl rfl rfl rfl rfl rfl rfl trivial rfl ?_
    refine r_bslice (rs := [[_], [_]]) sl_63 ty_3 rfl z_3 rfl rfl rfl rfl rfl rfl rfl trivial rfl ?_
    refine r_as rfl trivial rfl ?_
    refine r_as rfl trivial rfl ?_
    refine r_as rfl trivial rfl ?_
    refine r_as rfl trivial rfl ?_
    refine reg_nil ?_
    refine awp_ret ?_
    exact finG (nid := []) [(0, 1)] 1 (.cons (.tmp rfl) (.cons (.tmp rfl) (.cons (.tmp rfl) (.cons (.tmp rfl) .nil)))) rfl rfl rfl (.tup (.cons (.ren rfl) (.cons (.frz rfl rfl (fun i hi => by match i, hi with | 0, _ => decide | (i + 1), hi => simp [hget, Nat.beq] at hi)) (.cons (.frz rfl rfl (fun i hi => by match i, hi with | 0, _ => decide | (i + 1), hi => simp [hget, Nat.beq] at hi)) (.cons .fv .nil))))) (.cons rfl (.ren rfl) .nil)
  · refine awp_skip ?_
    refine awp_seq ?_
    refine awp_seq ?_
    refine awp_region ?_
    first | refine r_fld fld_37_0 rfl trivial rfl ?_ | refine r_fldr fld_37_0 rfl trivial rfl ?_
    first | refine r_ld ty_3 rfl rfl rfl trivial rfl ?_ | refine r_ldr ty_3 rfl rfl trivial rfl ?_ | refine r_ldo ty_3 rfl rfl (by first | rfl | assumption) rfl trivial rfl ?_
    refine reg_nil ?_
    refine awp_block ?_
    refine awp_seq ?_
    refine awp_region ?_
    refine r_eqi rfl rfl trivial rfl ?_
    refine r_as rfl trivial rfl ?_
    refine reg_nil ?_
    refine awp_cond_f rfl ?_
    refine awp_seq ?_
    refine awp_seq ?_
    refine awp_region ?_
    refine r_eqi rfl rfl trivial rfl ?_
    refine r_as rfl trivial rfl ?_
    refine reg_nil ?_
    refine awp_cond_f rfl ?_
    refine awp_region ?_
    refine r_eqi rfl rfl trivial rfl ?_
    refine r_as rfl trivial rfl ?_
    refine reg_nil ?_
    refine awp_cond_f rfl ?_
    refine awp_seq ?_
    refine awp_region ?_
    refine r_eqi rfl rfl trivial rfl ?_
    refine r_as rfl trivial rfl ?_
    refine reg_nil ?_
    refine awp_cond_f rfl ?_
    refine awp_seq ?_
    refine awp_region ?_
    refine r_eqi rfl rfl trivial rfl ?_
    refine r_as rfl trivial rfl ?_
    refine reg_nil ?_
    refine awp_cond_f rfl ?_
    refine awp_seq ?_
    refine awp_region ?_
    refine r_eqi rfl rfl trivial rfl ?_
    refine r_as rfl trivial rfl ?_
    refine reg_nil ?_
    refine awp_cond_t rfl ?_
    refine awp_seq ?_
    refine awp_region ?_
    first | refine r_fld fld_37_5 rfl trivial rfl ?_ | refine r_fldr fld_37_5 rfl trivial rfl ?_
    first | refine r_ld ty_3 rfl rfl rfl trivial rfl ?_ | refine r_ldr ty_3 rfl rfl trivial rfl ?_ | refine r_ldo ty_3 rfl rfl (by first | rfl | assumption) rfl trivial rfl ?_
    first | refine r_fld fld_37_6 rfl trivial rfl ?_ | refine r_fldr fld_37_6 rfl trivial rfl ?_
    first | refine r_ld ty_3 rfl rfl rfl trivial rfl ?_ | refine r_ldr ty_3 rfl rfl trivial rfl ?_ | refine r_ldo ty_3 rfl rfl (by first | rfl | assumption) rfl trivial rfl ?_
    refine r_bslice (rs := [[_], [_]]) sl_63 ty_3 rfl z_3 rfl rfl rfl rfl rfl rfl rfl trivial rfl ?_
    refine r_bslice (rs := [[_], [_]]) sl_63 ty_3 rfl z_3 rfl rfl rfl rfl rfl rfl rfl trivial rfl ?_
    refine r_bslice (rs := [[_], [_]]) sl_63 ty_3 rfl z_3 rfl rfl rfl rfl rfl rfl rfl trivial rfl ?_
    refine r_as rfl trivial rfl ?_
    refine r_as rfl trivial rfl ?_
    refine r_as rfl trivial rfl ?_
    refine r_as rfl trivial rfl ?_
    refine reg_nil ?_
    refine awp_ret ?_
    exact finG (nid := []) [(0, 1)] 1 (.cons (.tmp rfl) (.cons (.tmp rfl) (.cons (.tmp rfl) (.cons (.tmp rfl) .nil)))) rfl rfl rfl (.tup (.cons (.ren rfl) (.cons (.frz rfl rfl (fun i hi => by match i, hi with | 0, _ => decide | (i + 1), hi => simp [hget, Nat.beq] at hi)) (.cons (.frz rfl rfl (fun i hi => by match i, hi with | 0, _ => decide | (i + 1), hi => simp [hget, Nat.beq] at hi)) (.cons .fv .nil))))) (.cons rfl (.ren rfl) .nil)
set_option maxRecDepth 100000 in
theorem eventOfw_1 (key : Int) : Fun Tryd.prog 28 [iA 1, .rw 0 1 0 1] [(0, some (.rows 3 1 (intsF [key])))] [] (.agg (fvs (encEv ⟨1, key, 0, 0, false, 0, 0, 0⟩))) [] := by
  refine fun_of_awp (rl := [.cell 4 37]) Tryd.func28 rfl Tryd.results28 Tryd.ntmps28 1 rfl (by simp) ?_
  intro w0 own0 ρ0 F hz
  refine awp_seq ?_
  refine awp_region ?_
  refine r_alloc z_37 rfl trivial rfl ?_
  refine reg_nil ?_
  refine awp_seq ?_
  refine awp_region ?_
  refine r_mv rfl trivial rfl ?_
  refine r_build pl_37 z_37 rfl rfl trivial rfl ?_
  refine r_alloc z_37 rfl trivial rfl ?_
  first | refine r_st ty_37 rfl rfl rfl rfl rfl rfl rfl trivial ?_ | refine r_sto ty_37 rfl rfl rfl rfl (by first | rfl | assumption) rfl rfl rfl trivial ?_
  refine reg_nil ?_
  refine awp_seq ?_
  refine awp_seq ?_
  refine awp_region ?_
  refine r_mv rfl trivial rfl ?_
  refine reg_nil ?_
  refine awp_block ?_
  refine awp_seq ?_
  refine awp_region ?_
  refine r_eqi rfl rfl trivial rfl ?_
  refine r_as rfl trivial rfl ?_
  refine reg_nil ?_
  refine awp_cond_t rfl ?_
  refine awp_region ?_
  refine r_mv rfl trivial rfl ?_
  first | refine r_ixr sl_63 ty_3 rfl rfl (by decide) (by first | exact map_get (by omega) | exact map_geti (by omega)) trivial rfl ?_ | refine r_ixw sl_63 ty_3 rfl rfl (by decide) (by decide) trivial rfl ?_
  first | refine r_ld ty_3 rfl rfl rfl trivial rfl ?_ | refine r_ldr ty_3 rfl rfl trivial rfl ?_ | refine r_ldo ty_3 rfl rfl (by first | rfl | assumption) rfl trivial rfl ?_
  first | refine r_fld fld_37_1 rfl trivial rfl ?_ | refine r_fldr fld_37_1 rfl trivial rfl ?_
  first | refine r_st ty_3 rfl rfl rfl rfl rfl rfl rfl trivial ?_ | refine r_sto ty_3 rfl rfl rfl rfl (by first | rfl | assumption) rfl rfl rfl trivial ?_
  refine reg_nil ?_
  refine awp_seq ?_
  refine awp_region ?_
  first | refine r_lda ty_37 rfl rfl rfl rfl trivial rfl ?_ | refine r_ldra ty_37 rfl rfl rfl trivial rfl ?_ | refine r_ldoa ty_37 rfl rfl (by first | rfl | assumption) rfl rfl trivial rfl ?_
  first | refine r_st ty_37 rfl rfl rfl rfl rfl rfl rfl trivial ?_ | refine r_sto ty_37 rfl rfl rfl rfl (by first | rfl | assumption) rfl rfl rfl trivial ?_
  refine reg_nil ?_
  refine awp_ret ?_
  exact finG (nid := []) [] 1 (.cons (.agg rfl rfl ty_37 (Nat.le_of_ble_eq_true rfl)) .nil) rfl rfl rfl (.aggf' rfl) (.cons rfl (.ren rfl) .nil)
set_option maxRecDepth 100000 in
theorem eventOfw_2 (slot gen : Int) : Fun Tryd.prog 28 [iA 2, .rw 0 1 0 2] [(0, some (.rows 3 1 (intsF [slot, gen])))] [] (.agg (fvs (encEv ⟨2, 0, slot, gen, false, 0, 0, 0⟩))) [] := by
  refine fun_of_awp (rl := [.cell 4 37]) Tryd.func28 rfl Tryd.results28 Tryd.ntmps28 1 rfl (by simp) ?_
  intro w0 own0 ρ0 F hz
  refine awp_seq ?_
  refine awp_region ?_
  refine r_alloc z_37 rfl trivial rfl ?_
  refine reg_nil ?_
  refine awp_seq ?_
  refine awp_region ?_
  refine r_mv rfl trivial rfl ?_
  refine r_build pl_37 z_37 rfl rfl trivial rfl ?_
  refine r_alloc z_37 rfl trivial rfl ?_
  first | refine r_st ty_37 rfl rfl rfl rfl rfl rfl rfl trivial ?_ | refine r_sto ty_37 rfl rfl rfl rfl (by first | rfl | assumption) rfl rfl rfl trivial ?_
  refine reg_nil ?_
  refine awp_seq ?_
  refine awp_seq ?_
  refine awp_region ?_
  refine r_mv rfl trivial rfl ?_
  refine reg_nil ?_
  refine awp_block ?_
  refine awp_seq ?_
  refine awp_region ?_
  refine r_eqi rfl rfl trivial rfl ?_
  refine r_as rfl trivial rfl ?_
  refine reg_nil ?_
  refine awp_cond_f rfl ?_
  refine awp_seq ?_
  refine awp_seq ?_
  refine awp_region ?_
  refine r_eqi rfl rfl trivial rfl ?_
  refine r_as rfl trivial rfl ?_
  refine reg_nil ?_
  refine awp_cond_t rfl ?_
  refine awp_skip ?_
  refine awp_cond_t rfl ?_
  refine awp_seq ?_
  refine awp_region ?_
  refine r_mv rfl trivial rfl ?_
  first | refine r_ixr sl_63 ty_3 rfl rfl (by decide) (by first | exact map_get (by omega) | exact map_geti (by omega)) trivial rfl ?_ | refine r_ixw sl_63 ty_3 rfl rfl (by decide) (by decide) trivial rfl ?_
  first | refine r_ld ty_3 rfl rfl rfl trivial rfl ?_ | refine r_ldr ty_3 rfl rfl trivial rfl ?_ | refine r_ldo ty_3 rfl rfl (by first | rfl | assumption) rfl trivial rfl ?_
  first | refine r_fld fld_37_2 rfl trivial rfl ?_ | refine r_fldr fld_37_2 rfl trivial rfl ?_
  first | refine r_st ty_3 rfl rfl rfl rfl rfl rfl rfl trivial ?_ | refine r_sto ty_3 rfl rfl rfl rfl (by first | rfl | assumption) rfl rfl rfl trivial ?_
  refine reg_nil ?_
  refine awp_region ?_
  refine r_mv rfl trivial rfl ?_
  first | refine r_ixr sl_63 ty_3 rfl rfl (by decide) (by first | exact map_get (by omega) | exact map_geti (by omega)) trivial rfl ?_ | refine r_ixw sl_63 ty_3 rfl rfl (by decide) (by decide) trivial rfl ?_
  first | refine r_ld ty_3 rfl rfl rfl trivial rfl ?_ | refine r_ldr ty_3 rfl rfl trivial rfl ?_ | refine r_ldo ty_3 rfl rfl (by first | rfl | assumption) rfl trivial rfl ?_
  first | refine r_fld fld_37_3 rfl trivial rfl ?_ | refine r_fldr fld_37_3 rfl trivial rfl ?_
  first | refine r_st ty_3 rfl rfl rfl rfl rfl rfl rfl trivial ?_ | refine r_sto ty_3 rfl rfl rfl rfl (by first | rfl | assumption) rfl rfl rfl trivial ?_
  refine reg_nil ?_
  refine awp_seq ?_
  refine awp_region ?_
  first | refine r_lda ty_37 rfl rfl rfl rfl trivial rfl ?_ | refine r_ldra ty_37 rfl rfl rfl trivial rfl ?_ | refine r_ldoa ty_37 rfl rfl (by first | rfl | assumption) rfl rfl trivial rfl ?_
  first | refine r_st ty_37 rfl rfl rfl rfl rfl rfl rfl trivial ?_ | refine r_sto ty_37 rfl rfl rfl rfl (by first | rfl | assumption) rfl rfl rfl trivial ?_
  refine reg_nil ?_
  refine awp_ret ?_
  exact finG (nid := []) [] 1 (.cons (.agg rfl rfl ty_37 (Nat.le_of_ble_eq_true rfl)) .nil) rfl rfl rfl (.aggf' rfl) (.cons rfl (.ren rfl) .nil)
set_option maxRecDepth 100000 in
theorem eventOfw_3 (slot gen : Int) : Fun Tryd.prog 28 [iA 3, .rw 0 1 0 2] [(0, some (.rows 3 1 (intsF [slot, gen])))] [] (.agg (fvs (encEv ⟨3, 0, slot, gen, false, 0, 0, 0⟩))) [] := by
  refine fun_of_awp (rl := [.cell 4 37]) Tryd.func28 rfl Tryd.results28 Tryd.ntmps28 1 rfl (by simp) ?_
  intro w0 own0 ρ0 F hz
  refine awp_seq ?_
  refine awp_region ?_
  refine r_alloc z_37 rfl trivial rfl ?_
  refine reg_nil ?_
  refine awp_seq ?_
  refine awp_region ?_
  refine r_mv rfl trivial rfl ?_
  refine r_build pl_37 z_37 rfl rfl trivial rfl ?_
  refine r_alloc z_37 rfl trivial rfl ?_
  first | refine r_st ty_37 rfl rfl rfl rfl rfl rfl rfl trivial ?_ | refine r_sto ty_37 rfl rfl rfl rfl (by first | rfl | assumption) rfl rfl rfl trivial ?_
  refine reg_nil ?_
  refine awp_seq ?_
  refine awp_seq ?_
  refine awp_region ?_
  refine r_mv rfl trivial rfl ?_
  refine reg_nil ?_
  refine awp_block ?_
  refine awp_seq ?_
  refine awp_region ?_
  refine r_eqi rfl rfl trivial rfl ?_
  refine r_as rfl trivial rfl ?_
  refine reg_nil ?_
  refine awp_cond_f rfl ?_
  refine awp_seq ?_
  refine awp_seq ?_
  refine awp_region ?_
  refine r_eqi rfl rfl trivial rfl ?_
  refine r_as rfl trivial rfl ?_
  refine reg_nil ?_
  refine awp_cond_f rfl ?_
  refine awp_region ?_
  refine r_eqi rfl rfl trivial rfl ?_
  refine r_as rfl trivial rfl ?_
  refine reg_nil ?_
  refine awp_cond_t rfl ?_
  refine awp_seq ?_
  refine awp_region ?_
  refine r_mv rfl trivial rfl ?_
  first | refine r_ixr sl_63 ty_3 rfl rfl (by decide) (by first | exact map_get (by omega) | exact map_geti (by omega)) trivial rfl ?_ | refine r_ixw sl_63 ty_3 rfl rfl (by decide) (by decide) trivial rfl ?_
  first | refine r_ld ty_3 rfl rfl rfl trivial rfl ?_ | refine r_ldr ty_3 rfl rfl trivial rfl ?_ | refine r_ldo ty_3 rfl rfl (by first | rfl | assumption) rfl trivial rfl ?_
  first | refine r_fld fld_37_2 rfl trivial rfl ?_ | refine r_fldr fld_37_2 rfl trivial rfl ?_
  first | refine r_st ty_3 rfl rfl rfl rfl rfl rfl rfl trivial ?_ | refine r_sto ty_3 rfl rfl rfl rfl (by first | rfl | assumption) rfl rfl rfl trivial ?_
  refine reg_nil ?_
  refine awp_region ?_
  refine r_mv rfl trivial rfl ?_
  first | refine r_ixr sl_63 ty_3 rfl rfl (by decide) (by first | exact map_get (by omega) | exact map_geti (by omega)) trivial rfl ?_ | refine r_ixw sl_63 ty_3 rfl rfl (by decide) (by decide) trivial rfl ?_
  first | refine r_ld ty_3 rfl rfl rfl trivial rfl ?_ | refine r_ldr ty_3 rfl rfl trivial rfl ?_ | refine r_ldo ty_3 rfl rfl (by first | rfl | assumption) rfl trivial rfl ?_
  first | refine r_fld fld_37_3 rfl trivial rfl ?_ | refine r_fldr fld_37_3 rfl trivial rfl ?_
  first | refine r_st ty_3 rfl rfl rfl rfl rfl rfl rfl trivial ?_ | refine r_sto ty_3 rfl rfl rfl rfl (by first | rfl | assumption) rfl rfl rfl trivial ?_
  refine reg_nil ?_
  refine awp_seq ?_
  refine awp_region ?_
  first | refine r_lda ty_37 rfl rfl rfl rfl trivial rfl ?_ | refine r_ldra ty_37 rfl rfl rfl trivial rfl ?_ | refine r_ldoa ty_37 rfl rfl (by first | rfl | assumption) rfl rfl trivial rfl ?_
  first | refine r_st ty_37 rfl rfl rfl rfl rfl rfl rfl trivial ?_ | refine r_sto ty_37 rfl rfl rfl rfl (by first | rfl | assumption) rfl rfl rfl trivial ?_
  refine reg_nil ?_
  refine awp_ret ?_
  exact finG (nid := []) [] 1 (.cons (.agg rfl rfl ty_37 (Nat.le_of_ble_eq_true rfl)) .nil) rfl rfl rfl (.aggf' rfl) (.cons rfl (.ren rfl) .nil)
set_option maxRecDepth 100000 in
theorem eventOfw_4t (slot gen : Int) : Fun Tryd.prog 28 [iA 4, .rw 0 1 0 3] [(0, some (.rows 3 1 (intsF [slot, gen, 1])))] [] (.agg (fvs (encEv ⟨4, 0, slot, gen, true, 0, 0, 0⟩))) [] := by
  refine fun_of_awp (rl := [.cell 4 37]) Tryd.func28 rfl Tryd.results28 Tryd.ntmps28 1 rfl (by simp) ?_
  intro w0 own0 ρ0 F hz
  refine awp_seq ?_
  refine awp_region ?_
  refine r_alloc z_37 rfl trivial rfl ?_
  refine reg_nil ?_
  refine awp_seq ?_
  refine awp_region ?_
  refine r_mv rfl trivial rfl ?_
  refine r_build pl_37 z_37 rfl rfl trivial rfl ?_
  refine r_alloc z_37 rfl trivial rfl ?_
  first | refine r_st ty_37 rfl rfl rfl rfl rfl rfl rfl trivial ?_ | refine r_sto ty_37 rfl rfl rfl rfl (by first | rfl | assumption) rfl rfl rfl trivial ?_
  refine reg_nil ?_
  refine awp_seq ?_
  refine awp_seq ?_
  refine awp_region ?_
  refine r_mv rfl trivial rfl ?_
  refine reg_nil ?_
  refine awp_block ?_
  refine awp_seq ?_
  refine awp_region ?_
  refine r_eqi rfl rfl trivial rfl ?_
  refine r_as rfl trivial rfl ?_
  refine reg_nil ?_
  refine awp_cond_f rfl ?_
  refine awp_seq ?_
  refine awp_seq ?_
  refine awp_region ?_
  refine r_eqi rfl rfl trivial rfl ?_
  refine r_as rfl trivial rfl ?_
  refine reg_nil ?_
  refine awp_cond_f rfl ?_
  refine awp_region ?_
  refine r_eqi rfl rfl trivial rfl ?_
  refine r_as rfl trivial rfl ?_
  refine reg_nil ?_
  refine awp_cond_f rfl ?_
  refine awp_seq ?_
  refine awp_region ?_
  refine r_eqi rfl rfl trivial rfl ?_
  refine r_as rfl trivial rfl ?_
  refine reg_nil ?_
  refine awp_cond_t rfl ?_
  refine awp_seq ?_
  refine awp_region ?_
  refine r_mv rfl trivial rfl ?_
  first | refine r_ixr sl_63 ty_3 rfl rfl (by decide) (by first | exact map_get (by omega) | exact map_geti (by omega)) trivial rfl ?_ | refine r_ixw sl_63 ty_3 rfl rfl (by decide) (by decide) trivial rfl ?_
  first | refine r_ld ty_3 rfl rfl rfl trivial rfl ?_ | refine r_ldr ty_3 rfl rfl trivial rfl ?_ | refine r_ldo ty_3 rfl rfl (by first | rfl | assumption) rfl trivial rfl ?_
  first | refine r_fld fld_37_2 rfl trivial rfl ?_ | refine r_fldr fld_37_2 rfl trivial rfl ?_
  first | refine r_st ty_3 rfl rfl rfl rfl rfl rfl rfl trivial ?_ | refine r_sto ty_3 rfl rfl rfl rfl (by first | rfl | assumption) rfl rfl rfl trivial ?_
  refine reg_nil ?_
  refine awp_seq ?_
  refine awp_region ?_
  refine r_mv rfl trivial rfl ?_
  first | refine r_ixr sl_63 ty_3 rfl rfl (by decide) (by first | exact map_get (by omega) | exact map_geti (by omega)) trivial rfl ?_ | refine r_ixw sl_63 ty_3 rfl rfl (by decide) (by decide) trivial rfl ?_
  first | refine r_ld ty_3 rfl rfl rfl trivial rfl ?_ | refine r_ldr ty_3 rfl rfl trivial rfl ?_ | refine r_ldo ty_3 rfl rfl (by first | rfl | assumption) rfl trivial rfl ?_
  first | refine r_fld fld_37_3 rfl trivial rfl ?_ | refine r_fldr fld_37_3 rfl trivial rfl ?_
  first | refine r_st ty_3 rfl rfl rfl rfl rfl rfl rfl trivial ?_ | refine r_sto ty_3 rfl rfl rfl rfl (by first | rfl | assumption) rfl rfl rfl trivial ?_
  refine reg_nil ?_
  refine awp_region ?_
  refine r_mv rfl trivial rfl ?_
  first | refine r_ixr sl_63 ty_3 rfl rfl (by decide) (by first | exact map_get (by omega) | exact map_geti (by omega)) trivial rfl ?_ | refine r_ixw sl_63 ty_3 rfl rfl (by decide) (by decide) trivial rfl ?_
  first | refine r_ld ty_3 rfl rfl rfl trivial rfl ?_ | refine r_ldr ty_3 rfl rfl trivial rfl ?_ | refine r_ldo ty_3 rfl rfl (by first | rfl | assumption) rfl trivial rfl ?_
  refine r_eqi rfl rfl trivial rfl ?_
  first | refine r_fld fld_37_4 rfl trivial rfl ?_ | refine r_fldr fld_37_4 rfl trivial rfl ?_
  first | refine r_st ty_4 rfl rfl rfl rfl rfl rfl rfl trivial ?_ | refine r_sto ty_4 rfl rfl rfl rfl (by first | rfl | assumption) rfl rfl rfl trivial ?_
  refine reg_nil ?_
  refine awp_seq ?_
  refine awp_region ?_
  first | refine r_lda ty_37 rfl rfl rfl rfl trivial rfl ?_ | refine r_ldra ty_37 rfl rfl rfl trivial rfl ?_ | refine r_ldoa ty_37 rfl rfl (by first | rfl | assumption) rfl rfl trivial rfl ?_
  first | refine r_st ty_37 rfl rfl rfl rfl rfl rfl rfl trivial ?_ | refine r_sto ty_37 rfl rfl rfl rfl (by first | rfl | assumption) rfl rfl rfl trivial ?_
  refine reg_nil ?_
  refine awp_ret ?_
  exact finG (nid := []) [] 1 (.cons (.agg rfl rfl ty_37 (Nat.le_of_ble_eq_true rfl)) .nil) rfl rfl rfl (.aggf' rfl) (.cons rfl (.ren rfl) .nil)
set_option maxRecDepth 100000 in
theorem eventOfw_4f (slot gen : Int) : Fun Tryd.prog 28 [iA 4, .rw 0 1 0 3] [(0, some (.rows 3 1 (intsF [slot, gen, 0])))] [] (.agg (fvs (encEv ⟨4, 0, slot, gen, false, 0, 0, 0⟩))) [] := by
  refine fun_of_awp (rl := [.cell 4 37]) Tryd.func28 rfl Tryd.results28 Tryd.ntmps28 1 rfl (by simp) ?_
  intro w0 own0 ρ0 F hz
  refine awp_seq ?_
  refine awp_region ?_
  refine r_alloc z_37 rfl trivial rfl ?_
  refine reg_nil ?_
  refine awp_seq ?_
  refine awp_region ?_
  refine r_mv rfl trivial rfl ?_
  refine r_build pl_37 z_37 rfl rfl trivial rfl ?_
  refine r_alloc z_37 rfl trivial rfl ?_
  first | refine r_st ty_37 rfl rfl rfl rfl rfl rfl rfl trivial ?_ | refine r_sto ty_37 rfl rfl rfl rfl (by first | rfl | assumption) rfl rfl rfl trivial ?_
  refine reg_nil ?_
  refine awp_seq ?_
  refine awp_seq ?_
  refine awp_region ?_
  refine r_mv rfl trivial rfl ?_
  refine reg_nil ?_
  refine awp_block ?_
  refine awp_seq ?_
  refine awp_region ?_
  refine r_eqi rfl rfl trivial rfl ?_
  refine r_as rfl trivial rfl ?_
  refine reg_nil ?_
  refine awp_cond_f rfl ?_
  refine awp_seq ?_
  refine awp_seq ?_
  refine awp_region ?_
  refine r_eqi rfl rfl trivial rfl ?_
  refine r_as rfl trivial rfl ?_
  refine reg_nil ?_
  refine awp_cond_f rfl ?_
  refine awp_region ?_
  refine r_eqi rfl rfl trivial rfl ?_
  refine r_as rfl trivial rfl ?_
  refine reg_nil ?_
  refine awp_cond_f rfl ?_
  refine awp_seq ?_
  refine awp_region ?_
  refine r_eqi rfl rfl trivial rfl ?_
  refine r_as rfl trivial rfl ?_
  refine reg_nil ?_
  refine awp_cond_t rfl ?_
  refine awp_seq ?_
  refine awp_region ?_
  refine r_mv rfl trivial rfl ?_
  first | refine r_ixr sl_63 ty_3 rfl rfl (by decide) (by first | exact map_get (by omega) | exact map_geti (by omega)) trivial rfl ?_ | refine r_ixw sl_63 ty_3 rfl rfl (by decide) (by decide) trivial rfl ?_
  first | refine r_ld ty_3 rfl rfl rfl trivial rfl ?_ | refine r_ldr ty_3 rfl rfl trivial rfl ?_ | refine r_ldo ty_3 rfl rfl (by first | rfl | assumption) rfl trivial rfl ?_
  first | refine r_fld fld_37_2 rfl trivial rfl ?_ | refine r_fldr fld_37_2 rfl trivial rfl ?_
  first | refine r_st ty_3 rfl rfl rfl rfl rfl rfl rfl trivial ?_ | refine r_sto ty_3 rfl rfl rfl rfl (by first | rfl | assumption) rfl rfl rfl trivial ?_
  refine reg_nil ?_
  refine awp_seq ?_
  refine awp_region ?_
  refine r_mv rfl trivial rfl ?_
  first | refine r_ixr sl_63 ty_3 rfl rfl (by decide) (by first | exact map_get (by omega) | exact map_geti (by omega)) trivial rfl ?_ | refine r_ixw sl_63 ty_3 rfl rfl (by decide) (by decide) trivial rfl ?_
  first | refine r_ld ty_3 rfl rfl rfl trivial rfl ?_ | refine r_ldr ty_3 rfl rfl trivial rfl ?_ | refine r_ldo ty_3 rfl rfl (by first | rfl | assumption) rfl trivial rfl ?_
  first | refine r_fld fld_37_3 rfl trivial rfl ?_ | refine r_fldr fld_37_3 rfl trivial rfl ?_
  first | refine r_st ty_3 rfl rfl rfl rfl rfl rfl rfl trivial ?_ | refine r_sto ty_3 rfl rfl rfl rfl (by first | rfl | assumption) rfl rfl rfl trivial ?_
  refine reg_nil ?_
  refine awp_region ?_
  refine r_mv rfl trivial rfl ?_
  first | refine r_ixr sl_63 ty_3 rfl rfl (by decide) (by first | exact map_get (by omega) | exact map_geti (by omega)) trivial rfl ?_ | refine r_ixw sl_63 ty_3 rfl rfl (by decide) (by decide) trivial rfl ?_
  first | refine r_ld ty_3 rfl rfl rfl trivial rfl ?_ | refine r_ldr ty_3 rfl rfl trivial rfl ?_ | refine r_ldo ty_3 rfl rfl (by first | rfl | assumption) rfl trivial rfl ?_
  refine r_eqi rfl rfl trivial rfl ?_
  first | refine r_fld fld_37_4 rfl trivial rfl ?_ | refine r_fldr fld_37_4 rfl trivial rfl ?_
  first | refine r_st ty_4 rfl rfl rfl rfl rfl rfl rfl trivial ?_ | refine r_sto ty_4 rfl rfl rfl rfl (by first | rfl | assumption) rfl rfl rfl trivial ?_
  refine reg_nil ?_
  refine awp_seq ?_
  refine awp_region ?_
  first | refine r_lda ty_37 rfl rfl rfl rfl trivial rfl ?_ | refine r_ldra ty_37 rfl rfl rfl trivial rfl ?_ | refine r_ldoa ty_37 rfl rfl (by first | rfl | assumption) rfl rfl trivial rfl ?_
  first | refine r_st ty_37 rfl rfl rfl rfl rfl rfl rfl trivial ?_ | refine r_sto ty_37 rfl rfl rfl rfl (by first | rfl | assumption) rfl rfl rfl trivial ?_
  refine reg_nil ?_
  refine awp_ret ?_
  exact finG (nid := []) [] 1 (.cons (.agg rfl rfl ty_37 (Nat.le_of_ble_eq_true rfl)) .nil) rfl rfl rfl (.aggf' rfl) (.cons rfl (.ren rfl) .nil)
set_option maxRecDepth 100000 in
theorem eventOfw_5 (request backend weight : Int) : Fun Tryd.prog 28 [iA 5, .rw 0 1 0 3] [(0, some (.rows 3 1 (intsF [request, backend, weight])))] [] (.agg (fvs (encEv ⟨5, 0, 0, 0, false, request, backend, weight⟩))) [] := by
  refine fun_of_awp (rl := [.cell 4 37]) Tryd.func28 rfl Tryd.results28 Tryd.ntmps28 1 rfl (by simp) ?_
  intro w0 own0 ρ0 F hz
  refine awp_seq ?_
  refine awp_region ?_
  refine r_alloc z_37 rfl trivial rfl ?_
  refine reg_nil ?_
  refine awp_seq ?_
  refine awp_region ?_
  refine r_mv rfl trivial rfl ?_
  refine r_build pl_37 z_37 rfl rfl trivial rfl ?_
  refine r_alloc z_37 rfl trivial rfl ?_
  first | refine r_st ty_37 rfl rfl rfl rfl rfl rfl rfl trivial ?_ | refine r_sto ty_37 rfl rfl rfl rfl (by first | rfl | assumption) rfl rfl rfl trivial ?_
  refine reg_nil ?_
  refine awp_seq ?_
  refine awp_seq ?_
  refine awp_region ?_
  refine r_mv rfl trivial rfl ?_
  refine reg_nil ?_
  refine awp_block ?_
  refine awp_seq ?_
  refine awp_region ?_
  refine r_eqi rfl rfl trivial rfl ?_
  refine r_as rfl trivial rfl ?_
  refine reg_nil ?_
  refine awp_cond_f rfl ?_
  refine awp_seq ?_
  refine awp_seq ?_
  refine awp_region ?_
  refine r_eqi rfl rfl trivial rfl ?_
  refine r_as rfl trivial rfl ?_
  refine reg_nil ?_
  refine awp_cond_f rfl ?_
  refine awp_region ?_
  refine r_eqi rfl rfl trivial rfl ?_
  refine r_as rfl trivial rfl ?_
  refine reg_nil ?_
  refine awp_cond_f rfl ?_
  refine awp_seq ?_
  refine awp_region ?_
  refine r_eqi rfl rfl trivial rfl ?_
  refine r_as rfl trivial rfl ?_
  refine reg_nil ?_
  refine awp_cond_f rfl ?_
  refine awp_seq ?_
  refine awp_region ?_
  refine r_eqi rfl rfl trivial rfl ?_
  refine r_as rfl trivial rfl ?_
  refine reg_nil ?_
  refine awp_cond_t rfl ?_
  refine awp_seq ?_
  refine awp_region ?_
  refine r_mv rfl trivial rfl ?_
  first | refine r_ixr sl_63 ty_3 rfl rfl (by decide) (by first | exact map_get (by omega) | exact map_geti (by omega)) trivial rfl ?_ | refine r_ixw sl_63 ty_3 rfl rfl (by decide) (by decide) trivial rfl ?_
  first | refine r_ld ty_3 rfl rfl rfl trivial rfl ?_ | refine r_ldr ty_3 rfl rfl trivial rfl ?_ | refine r_ldo ty_3 rfl rfl (by first | rfl | assumption) rfl trivial rfl ?_
  first | refine r_fld fld_37_5 rfl trivial rfl ?_ | refine r_fldr fld_37_5 rfl trivial rfl ?_
  first | refine r_st ty_3 rfl rfl rfl rfl rfl rfl rfl trivial ?_ | refine r_sto ty_3 rfl rfl rfl rfl (by first | rfl | assumption) rfl rfl rfl trivial ?_
  refine reg_nil ?_
  refine awp_seq ?_
  refine awp_region ?_
  refine r_mv rfl trivial rfl ?_
  first | refine r_ixr sl_63 ty_3 rfl rfl (by decide) (by first | exact map_get (by omega) | exact map_geti (by omega)) trivial rfl ?_ | refine r_ixw sl_63 ty_3 rfl rfl (by decide) (by decide) trivial rfl ?_
  first | refine r_ld ty_3 rfl rfl rfl trivial rfl ?_ | refine r_ldr ty_3 rfl rfl trivial rfl ?_ | refine r_ldo ty_3 rfl rfl (by first | rfl | assumption) rfl trivial rfl ?_
  first | refine r_fld fld_37_6 rfl trivial rfl ?_ | refine r_fldr fld_37_6 rfl trivial rfl ?_
  first | refine r_st ty_3 rfl rfl rfl rfl rfl rfl rfl trivial ?_ | refine r_sto ty_3 rfl rfl rfl rfl (by first | rfl | assumption) rfl rfl rfl trivial ?_
  refine reg_nil ?_
  refine awp_region ?_
  refine r_mv rfl trivial rfl ?_
  first | refine r_ixr sl_63 ty_3 rfl rfl (by decide) (by first | exact map_get (by omega) | exact map_geti (by omega)) trivial rfl ?_ | refine r_ixw sl_63 ty_3 rfl rfl (by decide) (by decide) trivial rfl ?_
  first | refine r_ld ty_3 rfl rfl rfl trivial rfl ?_ | refine r_ldr ty_3 rfl rfl trivial rfl ?_ | refine r_ldo ty_3 rfl rfl (by first | rfl | assumption) rfl trivial rfl ?_
  first | refine r_fld fld_37_7 rfl trivial rfl ?_ | refine r_fldr fld_37_7 rfl trivial rfl ?_
  first | refine r_st ty_3 rfl rfl rfl rfl rfl rfl rfl trivial ?_ | refine r_sto ty_3 rfl rfl rfl rfl (by first | rfl | assumption) rfl rfl rfl trivial ?_
  refine reg_nil ?_
  refine awp_seq ?_
  refine awp_region ?_
  first | refine r_lda ty_37 rfl rfl rfl rfl trivial rfl ?_ | refine r_ldra ty_37 rfl rfl rfl trivial rfl ?_ | refine r_ldoa ty_37 rfl rfl (by first | rfl | assumption) rfl rfl trivial rfl ?_
  first | refine r_st ty_37 rfl rfl rfl rfl rfl rfl rfl trivial ?_ | refine r_sto ty_37 rfl rfl rfl rfl (by first | rfl | assumption) rfl rfl rfl trivial ?_
  refine reg_nil ?_
  refine awp_ret ?_
  exact finG (nid := []) [] 1 (.cons (.agg rfl rfl ty_37 (Nat.le_of_ble_eq_true rfl)) .nil) rfl rfl rfl (.aggf' rfl) (.cons rfl (.ren rfl) .nil)
set_option maxRecDepth 100000 in
theorem eventOfw_6 (request backend : Int) : Fun Tryd.prog 28 [iA 6, .rw 0 1 0 2] [(0, some (.rows 3 1 (intsF [request, backend])))] [] (.agg (fvs (encEv ⟨6, 0, 0, 0, false, request, backend, 0⟩))) [] := by
  refine fun_of_awp (rl := [.cell 4 37]) Tryd.func28 rfl Tryd.results28 Tryd.ntmps28 1 rfl (by simp) ?_
  intro w0 own0 ρ0 F hz
  refine awp_seq ?_
  refine awp_region ?_
  refine r_alloc z_37 rfl trivial rfl ?_
  refine reg_nil ?_
  refine awp_seq ?_
  refine awp_region ?_
  refine r_mv rfl trivial rfl ?_
  refine r_build pl_37 z_37 rfl rfl trivial rfl ?_
  refine r_alloc z_37 rfl trivial rfl ?_
  first | refine r_st ty_37 rfl rfl rfl rfl rfl rfl rfl trivial ?_ | refine r_sto ty_37 rfl rfl rfl rfl (by first | rfl | assumption) rfl rfl rfl trivial ?_
  refine reg_nil ?_
  refine awp_seq ?_
  refine awp_seq ?_
  refine awp_region ?_
  refine r_mv rfl trivial rfl ?_
  refine reg_nil ?_
  refine awp_block ?_
  refine awp_seq ?_
  refine awp_region ?_
  refine r_eqi rfl rfl trivial rfl ?_
  refine r_as rfl trivial rfl ?_
  refine reg_nil ?_
  refine awp_cond_f rfl ?_
  refine awp_seq ?_
  refine awp_seq ?_
  refine awp_region ?_
  refine r_eqi rfl rfl trivial rfl ?_
  refine r_as rfl trivial rfl ?_
  refine reg_nil ?_
  refine awp_cond_f rfl ?_
  refine awp_region ?_
  refine r_eqi rfl rfl trivial rfl ?_
  refine r_as rfl trivial rfl ?_
  refine reg_nil ?_
  refine awp_cond_f rfl ?_
  refine awp_seq ?_
  refine awp_region ?_
  refine r_eqi rfl rfl trivial rfl ?_
  refine r_as rfl trivial rfl ?_
  refine reg_nil ?_
  refine awp_cond_f rfl ?_
  refine awp_seq ?_
  refine awp_region ?_
  refine r_eqi rfl rfl trivial rfl ?_
  refine r_as rfl trivial rfl ?_
  refine reg_nil ?_
  refine awp_cond_f rfl ?_
  refine awp_seq ?_
  refine awp_region ?_
  refine r_eqi rfl rfl trivial rfl ?_
  refine r_as rfl trivial rfl ?_
  refine reg_nil ?_
  refine awp_cond_t rfl ?_
  refine awp_seq ?_
  refine awp_region ?_
  refine r_mv rfl trivial rfl ?_
  first | refine r_ixr sl_63 ty_3 rfl rfl (by decide) (by first | exact map_get (by omega) | exact map_geti (by omega)) trivial rfl ?_ | refine r_ixw sl_63 ty_3 rfl rfl (by decide) (by decide) trivial rfl ?_
  first | refine r_ld ty_3 rfl rfl rfl trivial rfl ?_ | refine r_ldr ty_3 rfl rfl trivial rfl ?_ | refine r_ldo ty_3 rfl rfl (by first | rfl | assumption) rfl trivial rfl ?_
  first | refine r_fld fld_37_5 rfl trivial rfl ?_ | refine r_fldr fld_37_5 rfl trivial rfl ?_
  first | refine r_st ty_3 rfl rfl rfl rfl rfl rfl rfl trivial ?_ | refine r_sto ty_3 rfl rfl rfl rfl (by first | rfl | assumption) rfl rfl rfl trivial ?_
  refine reg_nil ?_
  refine awp_region ?_
  refine r_mv rfl trivial rfl ?_
  first | refine r_ixr sl_63 ty_3 rfl rfl (by decide) (by first | exact map_get (by omega) | exact map_geti (by omega)) trivial rfl ?_ | refine r_ixw sl_63 ty_3 rfl rfl (by decide) (by decide) trivial rfl ?_
  first | refine r_ld ty_3 rfl rfl rfl trivial rfl ?_ | refine r_ldr ty_3 rfl rfl trivial rfl ?_ | refine r_ldo ty_3 rfl rfl (by first | rfl | assumption) rfl trivial rfl ?_
  first | refine r_fld fld_37_6 rfl trivial rfl ?_ | refine r_fldr fld_37_6 rfl trivial rfl ?_
  first | refine r_st ty_3 rfl rfl rfl rfl rfl rfl rfl trivial ?_ | refine r_sto ty_3 rfl rfl rfl rfl (by first | rfl | assumption) rfl rfl rfl trivial ?_
  refine reg_nil ?_
  refine awp_seq ?_
  refine awp_region ?_
  first | refine r_lda ty_37 rfl rfl rfl rfl trivial rfl ?_ | refine r_ldra ty_37 rfl rfl rfl trivial rfl ?_ | refine r_ldoa ty_37 rfl rfl (by first | rfl | assumption) rfl rfl trivial rfl ?_
  first | refine r_st ty_37 rfl rfl rfl rfl rfl rfl rfl trivial ?_ | refine r_sto ty_37 rfl rfl rfl rfl (by first | rfl | assumption) rfl rfl rfl trivial ?_
  refine reg_nil ?_
  refine awp_ret ?_
  exact finG (nid := []) [] 1 (.cons (.agg rfl rfl ty_37 (Nat.le_of_ble_eq_true rfl)) .nil) rfl rfl rfl (.aggf' rfl) (.cons rfl (.ren rfl) .nil)
end Go.Uw.D
