/- A helper text of this claim: lemmas of an abstract machine over the model, or walks in it. Own work of an AI agent. -/
import Derived.Test.YtkcjomglcjhkgaaDoorD12
set_option linter.unusedVariables false
set_option linter.unusedSimpArgs false
namespace Go.Uw.D
open Go Go.Uw Go.Proofs
theorem words_mem : (0, #[strV [], strV [111, 112, 101, 110], strV [100, 97, 116, 97], strV [99, 108, 111, 115, 101], strV [97, 110, 115, 119, 101, 114], strV [106, 111, 105, 110], strV [114, 101, 116, 105, 114, 101], strV [116, 105, 99, 107]]) ∈ Gl := by simp [Gl]

set_option maxRecDepth 100000 in
theorem pline_1 (key slot gen : Int) (good : Bool) (request backend weight : Int) (hkey : 0 ≤ key ∧ key ≤ 4294967295) : Fun Tryd.prog 13 [.agg (fvs (encEv ⟨1, key, slot, gen, good, request, backend, weight⟩))] [] [] (sA (lineL ⟨1, key, slot, gen, good, request, backend, weight⟩ ++ [10])) [] := by
  refine fun_of_awp (rl := [.tmp 2]) Tryd.func13 rfl Tryd.results13 Tryd.ntmps13 0 rfl (by simp) ?_
  intro w0 own0 ρ0 F hz
  refine awp_seq ?_
  refine awp_region ?_
  refine r_box rfl rfl rfl trivial rfl ?_
  refine r_as rfl trivial rfl ?_
  refine reg_nil ?_
  refine awp_seq ?_
  refine awp_region ?_
  refine r_alloc z_35 rfl trivial rfl ?_
  refine reg_nil ?_
  refine awp_seq ?_
  refine awp_region ?_
  first | refine r_fld fld_37_0 rfl trivial rfl ?_ | refine r_fldr fld_37_0 rfl trivial rfl ?_
  first | refine r_ld ty_3 rfl rfl rfl trivial rfl ?_ | refine r_ldr ty_3 rfl rfl trivial rfl ?_ | refine r_ldo ty_3 rfl rfl (by assumption) rfl trivial rfl ?_
  refine r_ixg ar_57 ty_9 words_mem rfl (by simp) (by simp) rfl (by simp [strV, litOK, ByteArray.size, maxLen]) trivial rfl ?_
  first | refine r_ld ty_9 rfl rfl rfl trivial rfl ?_ | refine r_ldr ty_9 rfl rfl trivial rfl ?_ | refine r_ldo ty_9 rfl rfl (by assumption) rfl trivial rfl ?_
  refine r_callh [(0, 1), (1, 2)] 3 2 (ws_fresh [111, 112, 101, 110] (by decide)) cb_12 rfl rfl rfl ?_ (.cons rfl .nil) rfl rfl rfl rfl trivial rfl ?_
  · (repeat (first | exact .nil | refine .cons .fv ?_ | refine .cons (.aggf' rfl) ?_ | refine .cons .nil ?_ | refine .cons (.ren rfl) ?_))
  refine reg_nil ?_
  refine awp_seq ?_
  refine awp_seq ?_
  refine awp_region ?_
  refine r_callh [(0, 0), (1, 3)] 4 2 (nums_1 key slot gen good request backend weight) cb_23 rfl rfl rfl ?_ (.cons rfl .nil) rfl rfl rfl rfl trivial rfl ?_
  · (repeat (first | exact .nil | refine .cons .fv ?_ | refine .cons (.aggf' rfl) ?_ | refine .cons .nil ?_ | refine .cons (.ren rfl) ?_))
  first | refine r_lenr sl_58 rfl trivial rfl ?_ | refine r_lenw sl_58 rfl trivial rfl ?_ | refine r_len0 sl_58 rfl trivial rfl ?_
  refine r_mv rfl trivial rfl ?_
  refine reg_nil ?_
  refine awp_block ?_
  refine awp_unroll 2 ?_
  refine unr_succ ?_
  refine awp_seq ?_
  refine awp_region ?_
  refine r_lss rfl rfl trivial rfl ?_
  refine reg_nil ?_
  refine awp_seq ?_
  refine awp_cond_t rfl ?_
  refine awp_skip ?_
  refine awp_seq ?_
  refine awp_block ?_
  refine awp_seq ?_
  refine awp_region ?_
  first | refine r_ixr sl_58 ty_53 rfl rfl (by simp) (by first | exact map_get (by omega) | exact map_geti (by omega)) trivial rfl ?_ | refine r_ixw sl_58 ty_53 rfl rfl (by simp) (by simp) trivial rfl ?_
  first | refine r_ld ty_53 rfl rfl rfl trivial rfl ?_ | refine r_ldr ty_53 rfl rfl trivial rfl ?_ | refine r_ldo ty_53 rfl rfl (by assumption) rfl trivial rfl ?_
  refine r_as rfl trivial rfl ?_
  refine reg_nil ?_
  refine awp_region ?_
  refine r_mv rfl trivial rfl ?_
  first | refine r_nilck rfl trivial rfl ?_ | refine r_nilckr rfl trivial rfl ?_ | refine r_nilckf rfl trivial rfl ?_
  first | refine r_ld ty_3 rfl rfl rfl trivial rfl ?_ | refine r_ldr ty_3 rfl rfl trivial rfl ?_ | refine r_ldo ty_3 rfl rfl (by assumption) rfl trivial rfl ?_
  refine r_call (itoa_ok key (by omega) (by omega)) cb_24 rfl rfl rfl ?_ trivial rfl ?_
  · (repeat (first | exact .nil | refine .cons .fv ?_ | refine .cons (.aggf' rfl) ?_ | refine .cons .nil ?_ | refine .cons (.ren rfl) ?_))
  refine r_cat rfl rfl (by have lkey := decL10 (n := key) (by omega); simp <;> omega) trivial rfl ?_
  refine r_callh [(0, 1), (1, 2), (2, 4)] 5 3 (ws_used ([111, 112, 101, 110]) ([32] ++ decL key.toNat) (by have lkey := decL10 (n := key) (by omega); simp <;> omega)) cb_12 rfl rfl rfl ?_ (.cons rfl (.cons rfl .nil)) rfl rfl rfl rfl trivial rfl ?_
  · (repeat (first | exact .nil | refine .cons .fv ?_ | refine .cons (.aggf' rfl) ?_ | refine .cons .nil ?_ | refine .cons (.ren rfl) ?_))
  refine reg_nil ?_
  refine awp_region ?_
  refine r_add rfl rfl (rng64 (by omega)) trivial rfl ?_
  refine r_mv rfl trivial rfl ?_
  refine reg_nil ?_
  refine unr_succ ?_
  refine awp_seq ?_
  refine awp_region ?_
  refine r_lss rfl rfl trivial rfl ?_
  refine reg_nil ?_
  refine awp_seq ?_
  refine awp_cond_f rfl ?_
  refine awp_exit ?_
  refine awp_seq ?_
  refine awp_seq ?_
  refine awp_region ?_
  first | refine r_fld fld_37_0 rfl trivial rfl ?_ | refine r_fldr fld_37_0 rfl trivial rfl ?_
  first | refine r_ld ty_3 rfl rfl rfl trivial rfl ?_ | refine r_ldr ty_3 rfl rfl trivial rfl ?_ | refine r_ldo ty_3 rfl rfl (by assumption) rfl trivial rfl ?_
  refine r_eqi rfl rfl trivial rfl ?_
  refine reg_nil ?_
  refine awp_cond_f rfl ?_
  refine awp_skip ?_
  refine awp_seq ?_
  refine awp_region ?_
  refine r_callh [(0, 1), (1, 4), (2, 5)] 6 3 (wb_used ([111, 112, 101, 110] ++ ([32] ++ decL key.toNat)) 10 (by have lkey := decL10 (n := key) (by omega); simp <;> omega)) cb_25 rfl rfl rfl ?_ (.cons rfl (.cons rfl .nil)) rfl rfl rfl rfl trivial rfl ?_
  · (repeat (first | exact .nil | refine .cons .fv ?_ | refine .cons (.aggf' rfl) ?_ | refine .cons .nil ?_ | refine .cons (.ren rfl) ?_))
  refine reg_nil ?_
  refine awp_seq ?_
  refine awp_region ?_
  refine r_callh [(0, 1), (1, 5)] 6 2 (bstr ([111, 112, 101, 110] ++ ([32] ++ decL key.toNat) ++ [10]) (by simp)) cb_14 rfl rfl rfl ?_ (.cons rfl (.cons rfl .nil)) rfl rfl rfl rfl trivial rfl ?_
  · (repeat (first | exact .nil | refine .cons .fv ?_ | refine .cons (.aggf' rfl) ?_ | refine .cons .nil ?_ | refine .cons (.ren rfl) ?_))
  refine r_as rfl trivial rfl ?_
  refine reg_nil ?_
  refine awp_ret ?_
  refine fin0 (.cons (.tmp rfl) .nil) (by first | exact .fv | exact .frz rfl rfl trivial | exact .nil | exact .aggf' rfl | exact .aggf) ?_
  simp [lineL, fieldVals, wordL]
set_option maxRecDepth 100000 in
theorem pline_2 (key slot gen : Int) (good : Bool) (request backend weight : Int) (hslot : 0 ≤ slot ∧ slot ≤ 39) (hgen : 0 ≤ gen ∧ gen ≤ 1048576) : Fun Tryd.prog 13 [.agg (fvs (encEv ⟨2, key, slot, gen, good, request, backend, weight⟩))] [] [] (sA (lineL ⟨2, key, slot, gen, good, request, backend, weight⟩ ++ [10])) [] := by
  refine fun_of_awp (rl := [.tmp 2]) Tryd.func13 rfl Tryd.results13 Tryd.ntmps13 0 rfl (by simp) ?_
  intro w0 own0 ρ0 F hz
  refine awp_seq ?_
  refine awp_region ?_
  refine r_box rfl rfl rfl trivial rfl ?_
  refine r_as rfl trivial rfl ?_
  refine reg_nil ?_
  refine awp_seq ?_
  refine awp_region ?_
  refine r_alloc z_35 rfl trivial rfl ?_
  refine reg_nil ?_
  refine awp_seq ?_
  refine awp_region ?_
  first | refine r_fld fld_37_0 rfl trivial rfl ?_ | refine r_fldr fld_37_0 rfl trivial rfl ?_
  first | refine r_ld ty_3 rfl rfl rfl trivial rfl ?_ | refine r_ldr ty_3 rfl rfl trivial rfl ?_ | refine r_ldo ty_3 rfl rfl (by assumption) rfl trivial rfl ?_
  refine r_ixg ar_57 ty_9 words_mem rfl (by simp) (by simp) rfl (by simp [strV, litOK, ByteArray.size, maxLen]) trivial rfl ?_
  first | refine r_ld ty_9 rfl rfl rfl trivial rfl ?_ | refine r_ldr ty_9 rfl rfl trivial rfl ?_ | refine r_ldo ty_9 rfl rfl (by assumption) rfl trivial rfl ?_
  refine r_callh [(0, 1), (1, 2)] 3 2 (ws_fresh [100, 97, 116, 97] (by decide)) cb_12 rfl rfl rfl ?_ (.cons rfl .nil) rfl rfl rfl rfl trivial rfl ?_
  · (repeat (first | exact .nil | refine .cons .fv ?_ | refine .cons (.aggf' rfl) ?_ | refine .cons .nil ?_ | refine .cons (.ren rfl) ?_))
  refine reg_nil ?_
  refine awp_seq ?_
  refine awp_seq ?_
  refine awp_region ?_
  refine r_callh [(0, 0), (1, 3)] 4 2 (nums_2 key slot gen good request backend weight) cb_23 rfl rfl rfl ?_ (.cons rfl .nil) rfl rfl rfl rfl trivial rfl ?_
  · (repeat (first | exact .nil | refine .cons .fv ?_ | refine .cons (.aggf' rfl) ?_ | refine .cons .nil ?_ | refine .cons (.ren rfl) ?_))
  first | refine r_lenr sl_58 rfl trivial rfl ?_ | refine r_lenw sl_58 rfl trivial rfl ?_ | refine r_len0 sl_58 rfl trivial rfl ?_
  refine r_mv rfl trivial rfl ?_
  refine reg_nil ?_
  refine awp_block ?_
  refine awp_unroll 3 ?_
  refine unr_succ ?_
  refine awp_seq ?_
  refine awp_region ?_
  refine r_lss rfl rfl trivial rfl ?_
  refine reg_nil ?_
  refine awp_seq ?_
  refine awp_cond_t rfl ?_
  refine awp_skip ?_
  refine awp_seq ?_
  refine awp_block ?_
  refine awp_seq ?_
  refine awp_region ?_
  first | refine r_ixr sl_58 ty_53 rfl rfl (by simp) (by first | exact map_get (by omega) | exact map_geti (by omega)) trivial rfl ?_ | refine r_ixw sl_58 ty_53 rfl rfl (by simp) (by simp) trivial rfl ?_
  first | refine r_ld ty_53 rfl rfl rfl trivial rfl ?_ | refine r_ldr ty_53 rfl rfl trivial rfl ?_ | refine r_ldo ty_53 rfl rfl (by assumption) rfl trivial rfl ?_
  refine r_as rfl trivial rfl ?_
  refine reg_nil ?_
  refine awp_region ?_
  refine r_mv rfl trivial rfl ?_
  first | refine r_nilck rfl trivial rfl ?_ | refine r_nilckr rfl trivial rfl ?_ | refine r_nilckf rfl trivial rfl ?_
  first | refine r_ld ty_3 rfl rfl rfl trivial rfl ?_ | refine r_ldr ty_3 rfl rfl trivial rfl ?_ | refine r_ldo ty_3 rfl rfl (by assumption) rfl trivial rfl ?_
  refine r_call (itoa_ok slot (by omega) (by omega)) cb_24 rfl rfl rfl ?_ trivial rfl ?_
  · (repeat (first | exact .nil | refine .cons .fv ?_ | refine .cons (.aggf' rfl) ?_ | refine .cons .nil ?_ | refine .cons (.ren rfl) ?_))
  refine r_cat rfl rfl (by have lslot := decL10 (n := slot) (by omega); have lgen := decL10 (n := gen) (by omega); simp <;> omega) trivial rfl ?_
  refine r_callh [(0, 1), (1, 2), (2, 4)] 5 3 (ws_used ([100, 97, 116, 97]) ([32] ++ decL slot.toNat) (by have lslot := decL10 (n := slot) (by omega); have lgen := decL10 (n := gen) (by omega); simp <;> omega)) cb_12 rfl rfl rfl ?_ (.cons rfl (.cons rfl .nil)) rfl rfl rfl rfl trivial rfl ?_
  · (repeat (first | exact .nil | refine .cons .fv ?_ | refine .cons (.aggf' rfl) ?_ | refine .cons .nil ?_ | refine .cons (.ren rfl) ?_))
  refine reg_nil ?_
  refine awp_region ?_
  refine r_add rfl rfl (rng64 (by omega)) trivial rfl ?_
  refine r_mv rfl trivial rfl ?_
  refine reg_nil ?_
  refine unr_succ ?_
  refine awp_seq ?_
  refine awp_region ?_
  refine r_lss rfl rfl trivial rfl ?_
  refine reg_nil ?_
  refine awp_seq ?_
  refine awp_cond_t rfl ?_
  refine awp_skip ?_
  refine awp_seq ?_
  refine awp_block ?_
  refine awp_seq ?_
  refine awp_region ?_
  first | refine r_ixr sl_58 ty_53 rfl rfl (by simp) (by first | exact map_get (by omega) | exact map_geti (by omega)) trivial rfl ?_ | refine r_ixw sl_58 ty_53 rfl rfl (by simp) (by simp) trivial rfl ?_
  first | refine r_ld ty_53 rfl rfl rfl trivial rfl ?_ | refine r_ldr ty_53 rfl rfl trivial rfl ?_ | refine r_ldo ty_53 rfl rfl (by assumption) rfl trivial rfl ?_
  refine r_as rfl trivial rfl ?_
  refine reg_nil ?_
  refine awp_region ?_
  refine r_mv rfl trivial rfl ?_
  first | refine r_nilck rfl trivial rfl ?_ | refine r_nilckr rfl trivial rfl ?_ | refine r_nilckf rfl trivial rfl ?_
  first | refine r_ld ty_3 rfl rfl rfl trivial rfl ?_ | refine r_ldr ty_3 rfl rfl trivial rfl ?_ | refine r_ldo ty_3 rfl rfl (by assumption) rfl trivial rfl ?_
  refine r_call (itoa_ok gen (by omega) (by omega)) cb_24 rfl rfl rfl ?_ trivial rfl ?_
  · (repeat (first | exact .nil | refine .cons .fv ?_ | refine .cons (.aggf' rfl) ?_ | refine .cons .nil ?_ | refine .cons (.ren rfl) ?_))
  refine r_cat rfl rfl (by have lslot := decL10 (n := slot) (by omega); have lgen := decL10 (n := gen) (by omega); simp <;> omega) trivial rfl ?_
  refine r_callh [(0, 1), (1, 4), (2, 5)] 6 3 (ws_used ([100, 97, 116, 97] ++ ([32] ++ decL slot.toNat)) ([32] ++ decL gen.toNat) (by have lslot := decL10 (n := slot) (by omega); have lgen := decL10 (n := gen) (by omega); simp <;> omega)) cb_12 rfl rfl rfl ?_ (.cons rfl (.cons rfl .nil)) rfl rfl rfl rfl trivial rfl ?_
  · (repeat (first | exact .nil | refine .cons .fv ?_ | refine .cons (.aggf' rfl) ?_ | refine .cons .nil ?_ | refine .cons (.ren rfl) ?_))
  refine reg_nil ?_
  refine awp_region ?_
  refine r_add rfl rfl (rng64 (by omega)) trivial rfl ?_
  refine r_mv rfl trivial rfl ?_
  refine reg_nil ?_
  refine unr_succ ?_
  refine awp_seq ?_
  refine awp_region ?_
  refine r_lss rfl rfl trivial rfl ?_
  refine reg_nil ?_
  refine awp_seq ?_
  refine awp_cond_f rfl ?_
  refine awp_exit ?_
  refine awp_seq ?_
  refine awp_seq ?_
  refine awp_region ?_
  first | refine r_fld fld_37_0 rfl trivial rfl ?_ | refine r_fldr fld_37_0 rfl trivial rfl ?_
  first | refine r_ld ty_3 rfl rfl rfl trivial rfl ?_ | refine r_ldr ty_3 rfl rfl trivial rfl ?_ | refine r_ldo ty_3 rfl rfl (by assumption) rfl trivial rfl ?_
  refine r_eqi rfl rfl trivial rfl ?_
  refine reg_nil ?_
  refine awp_cond_f rfl ?_
  refine awp_skip ?_
  refine awp_seq ?_
  refine awp_region ?_
  refine r_callh [(0, 1), (1, 5), (2, 6)] 7 3 (wb_used ([100, 97, 116, 97] ++ ([32] ++ decL slot.toNat) ++ ([32] ++ decL gen.toNat)) 10 (by have lslot := decL10 (n := slot) (by omega); have lgen := decL10 (n := gen) (by omega); simp <;> omega)) cb_25 rfl rfl rfl ?_ (.cons rfl (.cons rfl .nil)) rfl rfl rfl rfl trivial rfl ?_
  · (repeat (first | exact .nil | refine .cons .fv ?_ | refine .cons (.aggf' rfl) ?_ | refine .cons .nil ?_ | refine .cons (.ren rfl) ?_))
  refine reg_nil ?_
  refine awp_seq ?_
  refine awp_region ?_
  refine r_callh [(0, 1), (1, 6)] 7 2 (bstr ([100, 97, 116, 97] ++ ([32] ++ decL slot.toNat) ++ ([32] ++ decL gen.toNat) ++ [10]) (by simp)) cb_14 rfl rfl rfl ?_ (.cons rfl (.cons rfl .nil)) rfl rfl rfl rfl trivial rfl ?_
  · (repeat (first | exact .nil | refine .cons .fv ?_ | refine .cons (.aggf' rfl) ?_ | refine .cons .nil ?_ | refine .cons (.ren rfl) ?_))
  refine r_as rfl trivial rfl ?_
  refine reg_nil ?_
  refine awp_ret ?_
  refine fin0 (.cons (.tmp rfl) .nil) (by first | exact .fv | exact .frz rfl rfl trivial | exact .nil | exact .aggf' rfl | exact .aggf) ?_
  simp [lineL, fieldVals, wordL]
set_option maxRecDepth 100000 in
theorem pline_3 (key slot gen : Int) (good : Bool) (request backend weight : Int) (hslot : 0 ≤ slot ∧ slot ≤ 39) (hgen : 0 ≤ gen ∧ gen ≤ 1048576) : Fun Tryd.prog 13 [.agg (fvs (encEv ⟨3, key, slot, gen, good, request, backend, weight⟩))] [] [] (sA (lineL ⟨3, key, slot, gen, good, request, backend, weight⟩ ++ [10])) [] := by
  refine fun_of_awp (rl := [.tmp 2]) Tryd.func13 rfl Tryd.results13 Tryd.ntmps13 0 rfl (by simp) ?_
  intro w0 own0 ρ0 F hz
  refine awp_seq ?_
  refine awp_region ?_
  refine r_box rfl rfl rfl trivial rfl ?_
  refine r_as rfl trivial rfl ?_
  refine reg_nil ?_
  refine awp_seq ?_
  refine awp_region ?_
  refine r_alloc z_35 rfl trivial rfl ?_
  refine reg_nil ?_
  refine awp_seq ?_
  refine awp_region ?_
  first | refine r_fld fld_37_0 rfl trivial rfl ?_ | refine r_fldr fld_37_0 rfl trivial rfl ?_
  first | refine r_ld ty_3 rfl rfl rfl trivial rfl ?_ | refine r_ldr ty_3 rfl rfl trivial rfl ?_ | refine r_ldo ty_3 rfl rfl (by assumption) rfl trivial rfl ?_
  refine r_ixg ar_57 ty_9 words_mem rfl (by simp) (by simp) rfl (by simp [strV, litOK, ByteArray.size, maxLen]) trivial rfl ?_
  first | refine r_ld ty_9 rfl rfl rfl trivial rfl ?_ | refine r_ldr ty_9 rfl rfl trivial rfl ?_ | refine r_ldo ty_9 rfl rfl (by assumption) rfl trivial rfl ?_
  refine r_callh [(0, 1), (1, 2)] 3 2 (ws_fresh [99, 108, 111, 115, 101] (by decide)) cb_12 rfl rfl rfl ?_ (.cons rfl .nil) rfl rfl rfl rfl trivial rfl ?_
  · (repeat (first | exact .nil | refine .cons .fv ?_ | refine .cons (.aggf' rfl) ?_ | refine .cons .nil ?_ | refine .cons (.ren rfl) ?_))
  refine reg_nil ?_
  refine awp_seq ?_
  refine awp_seq ?_
  refine awp_region ?_
  refine r_callh [(0, 0), (1, 3)] 4 2 (nums_3 key slot gen good request backend weight) cb_23 rfl rfl rfl ?_ (.cons rfl .nil) rfl rfl rfl rfl trivial rfl ?_
  · (repeat (first | exact .nil | refine .cons .fv ?_ | refine .cons (.aggf' rfl) ?_ | refine .cons .nil ?_ | refine .cons (.ren rfl) ?_))
  first | refine r_lenr sl_58 rfl trivial rfl ?_ | refine r_lenw sl_58 rfl trivial rfl ?_ | refine r_len0 sl_58 rfl trivial rfl ?_
  refine r_mv rfl trivial rfl ?_
  refine reg_nil ?_
  refine awp_block ?_
  refine awp_unroll 3 ?_
  refine unr_succ ?_
  refine awp_seq ?_
  refine awp_region ?_
  refine r_lss rfl rfl trivial rfl ?_
  refine reg_nil ?_
  refine awp_seq ?_
  refine awp_cond_t rfl ?_
  refine awp_skip ?_
  refine awp_seq ?_
  refine awp_block ?_
  refine awp_seq ?_
  refine awp_region ?_
  first | refine r_ixr sl_58 ty_53 rfl rfl (by simp) (by first | exact map_get (by omega) | exact map_geti (by omega)) trivial rfl ?_ | refine r_ixw sl_58 ty_53 rfl rfl (by simp) (by simp) trivial rfl ?_
  first | refine r_ld ty_53 rfl rfl rfl trivial rfl ?_ | refine r_ldr ty_53 rfl rfl trivial rfl ?_ | refine r_ldo ty_53 rfl rfl (by assumption) rfl trivial rfl ?_
  refine r_as rfl trivial rfl ?_
  refine reg_nil ?_
  refine awp_region ?_
  refine r_mv rfl trivial rfl ?_
  first | refine r_nilck rfl trivial rfl ?_ | refine r_nilckr rfl trivial rfl ?_ | refine r_nilckf rfl trivial rfl ?_
  first | refine r_ld ty_3 rfl rfl rfl trivial rfl ?_ | refine r_ldr ty_3 rfl rfl trivial rfl ?_ | refine r_ldo ty_3 rfl rfl (by assumption) rfl trivial rfl ?_
  refine r_call (itoa_ok slot (by omega) (by omega)) cb_24 rfl rfl rfl ?_ trivial rfl ?_
  · (repeat (first | exact .nil | refine .cons .fv ?_ | refine .cons (.aggf' rfl) ?_ | refine .cons .nil ?_ | refine .cons (.ren rfl) ?_))
  refine r_cat rfl rfl (by have lslot := decL10 (n := slot) (by omega); have lgen := decL10 (n := gen) (by omega); simp <;> omega) trivial rfl ?_
  refine r_callh [(0, 1), (1, 2), (2, 4)] 5 3 (ws_used ([99, 108, 111, 115, 101]) ([32] ++ decL slot.toNat) (by have lslot := decL10 (n := slot) (by omega); have lgen := decL10 (n := gen) (by omega); simp <;> omega)) cb_12 rfl rfl rfl ?_ (.cons rfl (.cons rfl .nil)) rfl rfl rfl rfl trivial rfl ?_
  · (repeat (first | exact .nil | refine .cons .fv ?_ | refine .cons (.aggf' rfl) ?_ | refine .cons .nil ?_ | refine .cons (.ren rfl) ?_))
  refine reg_nil ?_
  refine awp_region ?_
  refine r_add rfl rfl (rng64 (by omega)) trivial rfl ?_
  refine r_mv rfl trivial rfl ?_
  refine reg_nil ?_
  refine unr_succ ?_
  refine awp_seq ?_
  refine awp_region ?_
  refine r_lss rfl rfl trivial rfl ?_
  refine reg_nil ?_
  refine awp_seq ?_
  refine awp_cond_t rfl ?_
  refine awp_skip ?_
  refine awp_seq ?_
  refine awp_block ?_
  refine awp_seq ?_
  refine awp_region ?_
  first | refine r_ixr sl_58 ty_53 rfl rfl (by simp) (by first | exact map_get (by omega) | exact map_geti (by omega)) trivial rfl ?_ | refine r_ixw sl_58 ty_53 rfl rfl (by simp) (by simp) trivial rfl ?_
  first | refine r_ld ty_53 rfl rfl rfl trivial rfl ?_ | refine r_ldr ty_53 rfl rfl trivial rfl ?_ | refine r_ldo ty_53 rfl rfl (by assumption) rfl trivial rfl ?_
  refine r_as rfl trivial rfl ?_
  refine reg_nil ?_
  refine awp_region ?_
  refine r_mv rfl trivial rfl ?_
  first | refine r_nilck rfl trivial rfl ?_ | refine r_nilckr rfl trivial rfl ?_ | refine r_nilckf rfl trivial rfl ?_
  first | refine r_ld ty_3 rfl rfl rfl trivial rfl ?_ | refine r_ldr ty_3 rfl rfl trivial rfl ?_ | refine r_ldo ty_3 rfl rfl (by assumption) rfl trivial rfl ?_
  refine r_call (itoa_ok gen (by omega) (by omega)) cb_24 rfl rfl rfl ?_ trivial rfl ?_
  · (repeat (first | exact .nil | refine .cons .fv ?_ | refine .cons (.aggf' rfl) ?_ | refine .cons .nil ?_ | refine .cons (.ren rfl) ?_))
  refine r_cat rfl rfl (by have lslot := decL10 (n := slot) (by omega); have lgen := decL10 (n := gen) (by omega); simp <;> omega) trivial rfl ?_
  refine r_callh [(0, 1), (1, 4), (2, 5)] 6 3 (ws_used ([99, 108, 111, 115, 101] ++ ([32] ++ decL slot.toNat)) ([32] ++ decL gen.toNat) (by have lslot := decL10 (n := slot) (by omega); have lgen := decL10 (n := gen) (by omega); simp <;> omega)) cb_12 rfl rfl rfl ?_ (.cons rfl (.cons rfl .nil)) rfl rfl rfl rfl trivial rfl ?_
  · (repeat (first | exact .nil | refine .cons .fv ?_ | refine .cons (.aggf' rfl) ?_ | refine .cons .nil ?_ | refine .cons (.ren rfl) ?_))
  refine reg_nil ?_
  refine awp_region ?_
  refine r_add rfl rfl (rng64 (by omega)) trivial rfl ?_
  refine r_mv rfl trivial rfl ?_
  refine reg_nil ?_
  refine unr_succ ?_
  refine awp_seq ?_
  refine awp_region ?_
  refine r_lss rfl rfl trivial rfl ?_
  refine reg_nil ?_
  refine awp_seq ?_
  refine awp_cond_f rfl ?_
  refine awp_exit ?_
  refine awp_seq ?_
  refine awp_seq ?_
  refine awp_region ?_
  first | refine r_fld fld_37_0 rfl trivial rfl ?_ | refine r_fldr fld_37_0 rfl trivial rfl ?_
  first | refine r_ld ty_3 rfl rfl rfl trivial rfl ?_ | refine r_ldr ty_3 rfl rfl trivial rfl ?_ | refine r_ldo ty_3 rfl rfl (by assumption) rfl trivial rfl ?_
  refine r_eqi rfl rfl trivial rfl ?_
  refine reg_nil ?_
  refine awp_cond_f rfl ?_
  refine awp_skip ?_
  refine awp_seq ?_
  refine awp_region ?_
  refine r_callh [(0, 1), (1, 5), (2, 6)] 7 3 (wb_used ([99, 108, 111, 115, 101] ++ ([32] ++ decL slot.toNat) ++ ([32] ++ decL gen.toNat)) 10 (by have lslot := decL10 (n := slot) (by omega); have lgen := decL10 (n := gen) (by omega); simp <;> omega)) cb_25 rfl rfl rfl ?_ (.cons rfl (.cons rfl .nil)) rfl rfl rfl rfl trivial rfl ?_
  · (repeat (first | exact .nil | refine .cons .fv ?_ | refine .cons (.aggf' rfl) ?_ | refine .cons .nil ?_ | refine .cons (.ren rfl) ?_))
  refine reg_nil ?_
  refine awp_seq ?_
  refine awp_region ?_
  refine r_callh [(0, 1), (1, 6)] 7 2 (bstr ([99, 108, 111, 115, 101] ++ ([32] ++ decL slot.toNat) ++ ([32] ++ decL gen.toNat) ++ [10]) (by simp)) cb_14 rfl rfl rfl ?_ (.cons rfl (.cons rfl .nil)) rfl rfl rfl rfl trivial rfl ?_
  · (repeat (first | exact .nil | refine .cons .fv ?_ | refine .cons (.aggf' rfl) ?_ | refine .cons .nil ?_ | refine .cons (.ren rfl) ?_))
  refine r_as rfl trivial rfl ?_
  refine reg_nil ?_
  refine awp_ret ?_
  refine fin0 (.cons (.tmp rfl) .nil) (by first | exact .fv | exact .frz rfl rfl trivial | exact .nil | exact .aggf' rfl | exact .aggf) ?_
  simp [lineL, fieldVals, wordL]
set_option maxRecDepth 100000 in
theorem pline_4t (key slot gen : Int) (request backend weight : Int) (hslot : 0 ≤ slot ∧ slot ≤ 39) (hgen : 0 ≤ gen ∧ gen ≤ 1048576) : Fun Tryd.prog 13 [.agg (fvs (encEv ⟨4, key, slot, gen, true, request, backend, weight⟩))] [] [] (sA (lineL ⟨4, key, slot, gen, true, request, backend, weight⟩ ++ [10])) [] := by
  refine fun_of_awp (rl := [.tmp 2]) Tryd.func13 rfl Tryd.results13 Tryd.ntmps13 0 rfl (by simp) ?_
  intro w0 own0 ρ0 F hz
  refine awp_seq ?_
  refine awp_region ?_
  refine r_box rfl rfl rfl trivial rfl ?_
  refine r_as rfl trivial rfl ?_
  refine reg_nil ?_
  refine awp_seq ?_
  refine awp_region ?_
  refine r_alloc z_35 rfl trivial rfl ?_
  refine reg_nil ?_
  refine awp_seq ?_
  refine awp_region ?_
  first | refine r_fld fld_37_0 rfl trivial rfl ?_ | refine r_fldr fld_37_0 rfl trivial rfl ?_
  first | refine r_ld ty_3 rfl rfl rfl trivial rfl ?_ | refine r_ldr ty_3 rfl rfl trivial rfl ?_ | refine r_ldo ty_3 rfl rfl (by assumption) rfl trivial rfl ?_
  refine r_ixg ar_57 ty_9 words_mem rfl (by simp) (by simp) rfl (by simp [strV, litOK, ByteArray.size, maxLen]) trivial rfl ?_
  first | refine r_ld ty_9 rfl rfl rfl trivial rfl ?_ | refine r_ldr ty_9 rfl rfl trivial rfl ?_ | refine r_ldo ty_9 rfl rfl (by assumption) rfl trivial rfl ?_
  refine r_callh [(0, 1), (1, 2)] 3 2 (ws_fresh [97, 110, 115, 119, 101, 114] (by decide)) cb_12 rfl rfl rfl ?_ (.cons rfl .nil) rfl rfl rfl rfl trivial rfl ?_
  · (repeat (first | exact .nil | refine .cons .fv ?_ | refine .cons (.aggf' rfl) ?_ | refine .cons .nil ?_ | refine .cons (.ren rfl) ?_))
  refine reg_nil ?_
  refine awp_seq ?_
  refine awp_seq ?_
  refine awp_region ?_
  refine r_callh [(0, 0), (1, 3)] 4 2 (nums_4 key slot gen true request backend weight) cb_23 rfl rfl rfl ?_ (.cons rfl .nil) rfl rfl rfl rfl trivial rfl ?_
  · (repeat (first | exact .nil | refine .cons .fv ?_ | refine .cons (.aggf' rfl) ?_ | refine .cons .nil ?_ | refine .cons (.ren rfl) ?_))
  first | refine r_lenr sl_58 rfl trivial rfl ?_ | refine r_lenw sl_58 rfl trivial rfl ?_ | refine r_len0 sl_58 rfl trivial rfl ?_
  refine r_mv rfl trivial rfl ?_
  refine reg_nil ?_
  refine awp_block ?_
  refine awp_unroll 3 ?_
  refine unr_succ ?_
  refine awp_seq ?_
  refine awp_region ?_
  refine r_lss rfl rfl trivial rfl ?_
  refine reg_nil ?_
  refine awp_seq ?_
  refine awp_cond_t rfl ?_
  refine awp_skip ?_
  refine awp_seq ?_
  refine awp_block ?_
  refine awp_seq ?_
  refine awp_region ?_
  first | refine r_ixr sl_58 ty_53 rfl rfl (by simp) (by first | exact map_get (by omega) | exact map_geti (by omega)) trivial rfl ?_ | refine r_ixw sl_58 ty_53 rfl rfl (by simp) (by simp) trivial rfl ?_
  first | refine r_ld ty_53 rfl rfl rfl trivial rfl ?_ | refine r_ldr ty_53 rfl rfl trivial rfl ?_ | refine r_ldo ty_53 rfl rfl (by assumption) rfl trivial rfl ?_
  refine r_as rfl trivial rfl ?_
  refine reg_nil ?_
  refine awp_region ?_
  refine r_mv rfl trivial rfl ?_
  first | refine r_nilck rfl trivial rfl ?_ | refine r_nilckr rfl trivial rfl ?_ | refine r_nilckf rfl trivial rfl ?_
  first | refine r_ld ty_3 rfl rfl rfl trivial rfl ?_ | refine r_ldr ty_3 rfl rfl trivial rfl ?_ | refine r_ldo ty_3 rfl rfl (by assumption) rfl trivial rfl ?_
  refine r_call (itoa_ok slot (by omega) (by omega)) cb_24 rfl rfl rfl ?_ trivial rfl ?_
  · (repeat (first | exact .nil | refine .cons .fv ?_ | refine .cons (.aggf' rfl) ?_ | refine .cons .nil ?_ | refine .cons (.ren rfl) ?_))
  refine r_cat rfl rfl (by have lslot := decL10 (n := slot) (by omega); have lgen := decL10 (n := gen) (by omega); simp <;> omega) trivial rfl ?_
  refine r_callh [(0, 1), (1, 2), (2, 4)] 5 3 (ws_used ([97, 110, 115, 119, 101, 114]) ([32] ++ decL slot.toNat) (by have lslot := decL10 (n := slot) (by omega); have lgen := decL10 (n := gen) (by omega); simp <;> omega)) cb_12 rfl rfl rfl ?_ (.cons rfl (.cons rfl .nil)) rfl rfl rfl rfl trivial rfl ?_
  · (repeat (first | exact .nil | refine .cons .fv ?_ | refine .cons (.aggf' rfl) ?_ | refine .cons .nil ?_ | refine .cons (.ren rfl) ?_))
  refine reg_nil ?_
  refine awp_region ?_
  refine r_add rfl rfl (rng64 (by omega)) trivial rfl ?_
  refine r_mv rfl trivial rfl ?_
  refine reg_nil ?_
  refine unr_succ ?_
  refine awp_seq ?_
  refine awp_region ?_
  refine r_lss rfl rfl trivial rfl ?_
  refine reg_nil ?_
  refine awp_seq ?_
  refine awp_cond_t rfl ?_
  refine awp_skip ?_
  refine awp_seq ?_
  refine awp_block ?_
  refine awp_seq ?_
  refine awp_region ?_
  first | refine r_ixr sl_58 ty_53 rfl rfl (by simp) (by first | exact map_get (by omega) | exact map_geti (by omega)) trivial rfl ?_ | refine r_ixw sl_58 ty_53 rfl rfl (by simp) (by simp) trivial rfl ?_
  first | refine r_ld ty_53 rfl rfl rfl trivial rfl ?_ | refine r_ldr ty_53 rfl rfl trivial rfl ?_ | refine r_ldo ty_53 rfl rfl (by assumption) rfl trivial rfl ?_
  refine r_as rfl trivial rfl ?_
  refine reg_nil ?_
  refine awp_region ?_
  refine r_mv rfl trivial rfl ?_
  first | refine r_nilck rfl trivial rfl ?_ | refine r_nilckr rfl trivial rfl ?_ | refine r_nilckf rfl trivial rfl ?_
  first | refine r_ld ty_3 rfl rfl rfl trivial rfl ?_ | refine r_ldr ty_3 rfl rfl trivial rfl ?_ | refine r_ldo ty_3 rfl rfl (by assumption) rfl trivial rfl ?_
  refine r_call (itoa_ok gen (by omega) (by omega)) cb_24 rfl rfl rfl ?_ trivial rfl ?_
  · (repeat (first | exact .nil | refine .cons .fv ?_ | refine .cons (.aggf' rfl) ?_ | refine .cons .nil ?_ | refine .cons (.ren rfl) ?_))
  refine r_cat rfl rfl (by have lslot := decL10 (n := slot) (by omega); have lgen := decL10 (n := gen) (by omega); simp <;> omega) trivial rfl ?_
  refine r_callh [(0, 1), (1, 4), (2, 5)] 6 3 (ws_used ([97, 110, 115, 119, 101, 114] ++ ([32] ++ decL slot.toNat)) ([32] ++ decL gen.toNat) (by have lslot := decL10 (n := slot) (by omega); have lgen := decL10 (n := gen) (by omega); simp <;> omega)) cb_12 rfl rfl rfl ?_ (.cons rfl (.cons rfl .nil)) rfl rfl rfl rfl trivial rfl ?_
  · (repeat (first | exact .nil | refine .cons .fv ?_ | refine .cons (.aggf' rfl) ?_ | refine .cons .nil ?_ | refine .cons (.ren rfl) ?_))
  refine reg_nil ?_
  refine awp_region ?_
  refine r_add rfl rfl (rng64 (by omega)) trivial rfl ?_
  refine r_mv rfl trivial rfl ?_
  refine reg_nil ?_
  refine unr_succ ?_
  refine awp_seq ?_
  refine awp_region ?_
  refine r_lss rfl rfl trivial rfl ?_
  refine reg_nil ?_
  refine awp_seq ?_
  refine awp_cond_f rfl ?_
  refine awp_exit ?_
  refine awp_seq ?_
  refine awp_seq ?_
  refine awp_region ?_
  first | refine r_fld fld_37_0 rfl trivial rfl ?_ | refine r_fldr fld_37_0 rfl trivial rfl ?_
  first | refine r_ld ty_3 rfl rfl rfl trivial rfl ?_ | refine r_ldr ty_3 rfl rfl trivial rfl ?_ | refine r_ldo ty_3 rfl rfl (by assumption) rfl trivial rfl ?_
  refine r_eqi rfl rfl trivial rfl ?_
  refine reg_nil ?_
  refine awp_cond_t rfl ?_
  refine awp_seq ?_
  refine awp_region ?_
  refine r_as rfl trivial rfl ?_
  refine reg_nil ?_
  refine awp_seq ?_
  refine awp_seq ?_
  refine awp_region ?_
  first | refine r_fld fld_37_4 rfl trivial rfl ?_ | refine r_fldr fld_37_4 rfl trivial rfl ?_
  first | refine r_ld ty_4 rfl rfl rfl trivial rfl ?_ | refine r_ldr ty_4 rfl rfl trivial rfl ?_ | refine r_ldo ty_4 rfl rfl (by assumption) rfl trivial rfl ?_
  refine reg_nil ?_
  refine awp_cond_t rfl ?_
  refine awp_region ?_
  refine r_as rfl trivial rfl ?_
  refine reg_nil ?_
  refine awp_region ?_
  refine r_mv rfl trivial rfl ?_
  refine r_callh [(0, 1), (1, 5), (2, 6)] 7 3 (ws_used ([97, 110, 115, 119, 101, 114] ++ ([32] ++ decL slot.toNat) ++ ([32] ++ decL gen.toNat)) ([32, 103, 111, 111, 100]) (by have lslot := decL10 (n := slot) (by omega); have lgen := decL10 (n := gen) (by omega); simp <;> omega)) cb_12 rfl rfl rfl ?_ (.cons rfl (.cons rfl .nil)) rfl rfl rfl rfl trivial rfl ?_
  · (repeat (first | exact .nil | refine .cons .fv ?_ | refine .cons (.aggf' rfl) ?_ | refine .cons .nil ?_ | refine .cons (.ren rfl) ?_))
  refine reg_nil ?_
  refine awp_seq ?_
  refine awp_region ?_
  refine r_callh [(0, 1), (1, 6), (2, 7)] 8 3 (wb_used ([97, 110, 115, 119, 101, 114] ++ ([32] ++ decL slot.toNat) ++ ([32] ++ decL gen.toNat) ++ ([32, 103, 111, 111, 100])) 10 (by have lslot := decL10 (n := slot) (by omega); have lgen := decL10 (n := gen) (by omega); simp <;> omega)) cb_25 rfl rfl rfl ?_ (.cons rfl (.cons rfl .nil)) rfl rfl rfl rfl trivial rfl ?_
  · (repeat (first | exact .nil | refine .cons .fv ?_ | refine .cons (.aggf' rfl) ?_ | refine .cons .nil ?_ | refine .cons (.ren rfl) ?_))
  refine reg_nil ?_
  refine awp_seq ?_
  refine awp_region ?_
  refine r_callh [(0, 1), (1, 7)] 8 2 (bstr ([97, 110, 115, 119, 101, 114] ++ ([32] ++ decL slot.toNat) ++ ([32] ++ decL gen.toNat) ++ ([32, 103, 111, 111, 100]) ++ [10]) (by simp)) cb_14 rfl rfl rfl ?_ (.cons rfl (.cons rfl .nil)) rfl rfl rfl rfl trivial rfl ?_
  · (repeat (first | exact .nil | refine .cons .fv ?_ | refine .cons (.aggf' rfl) ?_ | refine .cons .nil ?_ | refine .cons (.ren rfl) ?_))
  refine r_as rfl trivial rfl ?_
  refine reg_nil ?_
  refine awp_ret ?_
  refine fin0 (.cons (.tmp rfl) .nil) (by first | exact .fv | exact .frz rfl rfl trivial | exact .nil | exact .aggf' rfl | exact .aggf) ?_
  simp [lineL, fieldVals, wordL]
set_option maxRecDepth 100000 in
theorem pline_4f (key slot gen : Int) (request backend weight : Int) (hslot : 0 ≤ slot ∧ slot ≤ 39) (hgen : 0 ≤ gen ∧ gen ≤ 1048576) : Fun Tryd.prog 13 [.agg (fvs (encEv ⟨4, key, slot, gen, false, request, backend, weight⟩))] [] [] (sA (lineL ⟨4, key, slot, gen, false, request, backend, weight⟩ ++ [10])) [] := by
  refine fun_of_awp (rl := [.tmp 2]) Tryd.func13 rfl Tryd.results13 Tryd.ntmps13 0 rfl (by simp) ?_
  intro w0 own0 ρ0 F hz
  refine awp_seq ?_
  refine awp_region ?_
  refine r_box rfl rfl rfl trivial rfl ?_
  refine r_as rfl trivial rfl ?_
  refine reg_nil ?_
  refine awp_seq ?_
  refine awp_region ?_
  refine r_alloc z_35 rfl trivial rfl ?_
  refine reg_nil ?_
  refine awp_seq ?_
  refine awp_region ?_
  first | refine r_fld fld_37_0 rfl trivial rfl ?_ | refine r_fldr fld_37_0 rfl trivial rfl ?_
  first | refine r_ld ty_3 rfl rfl rfl trivial rfl ?_ | refine r_ldr ty_3 rfl rfl trivial rfl ?_ | refine r_ldo ty_3 rfl rfl (by assumption) rfl trivial rfl ?_
  refine r_ixg ar_57 ty_9 words_mem rfl (by simp) (by simp) rfl (by simp [strV, litOK, ByteArray.size, maxLen]) trivial rfl ?_
  first | refine r_ld ty_9 rfl rfl rfl trivial rfl ?_ | refine r_ldr ty_9 rfl rfl trivial rfl ?_ | refine r_ldo ty_9 rfl rfl (by assumption) rfl trivial rfl ?_
  refine r_callh [(0, 1), (1, 2)] 3 2 (ws_fresh [97, 110, 115, 119, 101, 114] (by decide)) cb_12 rfl rfl rfl ?_ (.cons rfl .nil) rfl rfl rfl rfl trivial rfl ?_
  · (repeat (first | exact .nil | refine .cons .fv ?_ | refine .cons (.aggf' rfl) ?_ | refine .cons .nil ?_ | refine .cons (.ren rfl) ?_))
  refine reg_nil ?_
  refine awp_seq ?_
  refine awp_seq ?_
  refine awp_region ?_
  refine r_callh [(0, 0), (1, 3)] 4 2 (nums_4 key slot gen false request backend weight) cb_23 rfl rfl rfl ?_ (.cons rfl .nil) rfl rfl rfl rfl trivial rfl ?_
  · (repeat (first | exact .nil | refine .cons .fv ?_ | refine .cons (.aggf' rfl) ?_ | refine .cons .nil ?_ | refine .cons (.ren rfl) ?_))
  first | refine r_lenr sl_58 rfl trivial rfl ?_ | refine r_lenw sl_58 rfl trivial rfl ?_ | refine r_len0 sl_58 rfl trivial rfl ?_
  refine r_mv rfl trivial rfl ?_
  refine reg_nil ?_
  refine awp_block ?_
  refine awp_unroll 3 ?_
  refine unr_succ ?_
  refine awp_seq ?_
  refine awp_region ?_
  refine r_lss rfl rfl trivial rfl ?_
  refine reg_nil ?_
  refine awp_seq ?_
  refine awp_cond_t rfl ?_
  refine awp_skip ?_
  refine awp_seq ?_
  refine awp_block ?_
  refine awp_seq ?_
  refine awp_region ?_
  first | refine r_ixr sl_58 ty_53 rfl rfl (by simp) (by first | exact map_get (by omega) | exact map_geti (by omega)) trivial rfl ?_ | refine r_ixw sl_58 ty_53 rfl rfl (by simp) (by simp) trivial rfl ?_
  first | refine r_ld ty_53 rfl rfl rfl trivial rfl ?_ | refine r_ldr ty_53 rfl rfl trivial rfl ?_ | refine r_ldo ty_53 rfl rfl (by assumption) rfl trivial rfl ?_
  refine r_as rfl trivial rfl ?_
  refine reg_nil ?_
  refine awp_region ?_
  refine r_mv rfl trivial rfl ?_
  first | refine r_nilck rfl trivial rfl ?_ | refine r_nilckr rfl trivial rfl ?_ | refine r_nilckf rfl trivial rfl ?_
  first | refine r_ld ty_3 rfl rfl rfl trivial rfl ?_ | refine r_ldr ty_3 rfl rfl trivial rfl ?_ | refine r_ldo ty_3 rfl rfl (by assumption) rfl trivial rfl ?_
  refine r_call (itoa_ok slot (by omega) (by omega)) cb_24 rfl rfl rfl ?_ trivial rfl ?_
  · (repeat (first | exact .nil | refine .cons .fv ?_ | refine .cons (.aggf' rfl) ?_ | refine .cons .nil ?_ | refine .cons (.ren rfl) ?_))
  refine r_cat rfl rfl (by have lslot := decL10 (n := slot) (by omega); have lgen := decL10 (n := gen) (by omega); simp <;> omega) trivial rfl ?_
  refine r_callh [(0, 1), (1, 2), (2, 4)] 5 3 (ws_used ([97, 110, 115, 119, 101, 114]) ([32] ++ decL slot.toNat) (by have lslot := decL10 (n := slot) (by omega); have lgen := decL10 (n := gen) (by omega); simp <;> omega)) cb_12 rfl rfl rfl ?_ (.cons rfl (.cons rfl .nil)) rfl rfl rfl rfl trivial rfl ?_
  · (repeat (first | exact .nil | refine .cons .fv ?_ | refine .cons (.aggf' rfl) ?_ | refine .cons .nil ?_ | refine .cons (.ren rfl) ?_))
  refine reg_nil ?_
  refine awp_region ?_
  refine r_add rfl rfl (rng64 (by omega)) trivial rfl ?_
  refine r_mv rfl trivial rfl ?_
  refine reg_nil ?_
  refine unr_succ ?_
  refine awp_seq ?_
  refine awp_region ?_
  refine r_lss rfl rfl trivial rfl ?_
  refine reg_nil ?_
  refine awp_seq ?_
  refine awp_cond_t rfl ?_
  refine awp_skip ?_
  refine awp_seq ?_
  refine awp_block ?_
  refine awp_seq ?_
  refine awp_region ?_
  first | refine r_ixr sl_58 ty_53 rfl rfl (by simp) (by first | exact map_get (by omega) | exact map_geti (by omega)) trivial rfl ?_ | refine r_ixw sl_58 ty_53 rfl rfl (by simp) (by simp) trivial rfl ?_
  first | refine r_ld ty_53 rfl rfl rfl trivial rfl ?_ | refine r_ldr ty_53 rfl rfl trivial rfl ?_ | refine r_ldo ty_53 rfl rfl (by assumption) rfl trivial rfl ?_
  refine r_as rfl trivial rfl ?_
  refine reg_nil ?_
  refine awp_region ?_
  refine r_mv rfl trivial rfl ?_
  first | refine r_nilck rfl trivial rfl ?_ | refine r_nilckr rfl trivial rfl ?_ | refine r_nilckf rfl trivial rfl ?_
  first | refine r_ld ty_3 rfl rfl rfl trivial rfl ?_ | refine r_ldr ty_3 rfl rfl trivial rfl ?_ | refine r_ldo ty_3 rfl rfl (by assumption) rfl trivial rfl ?_
  refine r_call (itoa_ok gen (by omega) (by omega)) cb_24 rfl rfl rfl ?_ trivial rfl ?_
  · (repeat (first | exact .nil | refine .cons .fv ?_ | refine .cons (.aggf' rfl) ?_ | refine .cons .nil ?_ | refine .cons (.ren rfl) ?_))
  refine r_cat rfl rfl (by have lslot := decL10 (n := slot) (by omega); have lgen := decL10 (n := gen) (by omega); simp <;> omega) trivial rfl ?_
  refine r_callh [(0, 1), (1, 4), (2, 5)] 6 3 (ws_used ([97, 110, 115, 119, 101, 114] ++ ([32] ++ decL slot.toNat)) ([32] ++ decL gen.toNat) (by have lslot := decL10 (n := slot) (by omega); have lgen := decL10 (n := gen) (by omega); simp <;> omega)) cb_12 rfl rfl rfl ?_ (.cons rfl (.cons rfl .nil)) rfl rfl rfl rfl trivial rfl ?_
  · (repeat (first | exact .nil | refine .cons .fv ?_ | refine .cons (.aggf' rfl) ?_ | refine .cons .nil ?_ | refine .cons (.ren rfl) ?_))
  refine reg_nil ?_
  refine awp_region ?_
  refine r_add rfl rfl (rng64 (by omega)) trivial rfl ?_
  refine r_mv rfl trivial rfl ?_
  refine reg_nil ?_
  refine unr_succ ?_
  refine awp_seq ?_
  refine awp_region ?_
  refine r_lss rfl rfl trivial rfl ?_
  refine reg_nil ?_
  refine awp_seq ?_
  refine awp_cond_f rfl ?_
  refine awp_exit ?_
  refine awp_seq ?_
  refine awp_seq ?_
  refine awp_region ?_
  first | refine r_fld fld_37_0 rfl trivial rfl ?_ | refine r_fldr fld_37_0 rfl trivial rfl ?_
  first | refine r_ld ty_3 rfl rfl rfl trivial rfl ?_ | refine r_ldr ty_3 rfl rfl trivial rfl ?_ | refine r_ldo ty_3 rfl rfl (by assumption) rfl trivial rfl ?_
  refine r_eqi rfl rfl trivial rfl ?_
  refine reg_nil ?_
  refine awp_cond_t rfl ?_
  refine awp_seq ?_
  refine awp_region ?_
  refine r_as rfl trivial rfl ?_
  refine reg_nil ?_
  refine awp_seq ?_
  refine awp_seq ?_
  refine awp_region ?_
  first | refine r_fld fld_37_4 rfl trivial rfl ?_ | refine r_fldr fld_37_4 rfl trivial rfl ?_
  first | refine r_ld ty_4 rfl rfl rfl trivial rfl ?_ | refine r_ldr ty_4 rfl rfl trivial rfl ?_ | refine r_ldo ty_4 rfl rfl (by assumption) rfl trivial rfl ?_
  refine reg_nil ?_
  refine awp_cond_f rfl ?_
  refine awp_skip ?_
  refine awp_region ?_
  refine r_mv rfl trivial rfl ?_
  refine r_callh [(0, 1), (1, 5), (2, 6)] 7 3 (ws_used ([97, 110, 115, 119, 101, 114] ++ ([32] ++ decL slot.toNat) ++ ([32] ++ decL gen.toNat)) ([32, 98, 97, 100]) (by have lslot := decL10 (n := slot) (by omega); have lgen := decL10 (n := gen) (by omega); simp <;> omega)) cb_12 rfl rfl rfl ?_ (.cons rfl (.cons rfl .nil)) rfl rfl rfl rfl trivial rfl ?_
  · (repeat (first | exact .nil | refine .cons .fv ?_ | refine .cons (.aggf' rfl) ?_ | refine .cons .nil ?_ | refine .cons (.ren rfl) ?_))
  refine reg_nil ?_
  refine awp_seq ?_
  refine awp_region ?_
  refine r_callh [(0, 1), (1, 6), (2, 7)] 8 3 (wb_used ([97, 110, 115, 119, 101, 114] ++ ([32] ++ decL slot.toNat) ++ ([32] ++ decL gen.toNat) ++ ([32, 98, 97, 100])) 10 (by have lslot := decL10 (n := slot) (by omega); have lgen := decL10 (n := gen) (by omega); simp <;> omega)) cb_25 rfl rfl rfl ?_ (.cons rfl (.cons rfl .nil)) rfl rfl rfl rfl trivial rfl ?_
  · (repeat (first | exact .nil | refine .cons .fv ?_ | refine .cons (.aggf' rfl) ?_ | refine .cons .nil ?_ | refine .cons (.ren rfl) ?_))
  refine reg_nil ?_
  refine awp_seq ?_
  refine awp_region ?_
  refine r_callh [(0, 1), (1, 7)] 8 2 (bstr ([97, 110, 115, 119, 101, 114] ++ ([32] ++ decL slot.toNat) ++ ([32] ++ decL gen.toNat) ++ ([32, 98, 97, 100]) ++ [10]) (by simp)) cb_14 rfl rfl rfl ?_ (.cons rfl (.cons rfl .nil)) rfl rfl rfl rfl trivial rfl ?_
  · (repeat (first | exact .nil | refine .cons .fv ?_ | refine .cons (.aggf' rfl) ?_ | refine .cons .nil ?_ | refine .cons (.ren rfl) ?_))
  refine r_as rfl trivial rfl ?_
  refine reg_nil ?_
  refine awp_ret ?_
  refine fin0 (.cons (.tmp rfl) .nil) (by first | exact .fv | exact .frz rfl rfl trivial | exact .nil | exact .aggf' rfl | exact .aggf) ?_
  simp [lineL, fieldVals, wordL]
set_option maxRecDepth 100000 in
theorem pline_5 (key slot gen : Int) (good : Bool) (request backend weight : Int) (hrequest : 0 ≤ request ∧ request ≤ 1048576) (hbackend : 0 ≤ backend ∧ backend ≤ 11) (hweight : 1 ≤ weight ∧ weight ≤ 8) : Fun Tryd.prog 13 [.agg (fvs (encEv ⟨5, key, slot, gen, good, request, backend, weight⟩))] [] [] (sA (lineL ⟨5, key, slot, gen, good, request, backend, weight⟩ ++ [10])) [] := by
  refine fun_of_awp (rl := [.tmp 2]) Tryd.func13 rfl Tryd.results13 Tryd.ntmps13 0 rfl (by simp) ?_
  intro w0 own0 ρ0 F hz
  refine awp_seq ?_
  refine awp_region ?_
  refine r_box rfl rfl rfl trivial rfl ?_
  refine r_as rfl trivial rfl ?_
  refine reg_nil ?_
  refine awp_seq ?_
  refine awp_region ?_
  refine r_alloc z_35 rfl trivial rfl ?_
  refine reg_nil ?_
  refine awp_seq ?_
  refine awp_region ?_
  first | refine r_fld fld_37_0 rfl trivial rfl ?_ | refine r_fldr fld_37_0 rfl trivial rfl ?_
  first | refine r_ld ty_3 rfl rfl rfl trivial rfl ?_ | refine r_ldr ty_3 rfl rfl trivial rfl ?_ | refine r_ldo ty_3 rfl rfl (by assumption) rfl trivial rfl ?_
  refine r_ixg ar_57 ty_9 words_mem rfl (by simp) (by simp) rfl (by simp [strV, litOK, ByteArray.size, maxLen]) trivial rfl ?_
  first | refine r_ld ty_9 rfl rfl rfl trivial rfl ?_ | refine r_ldr ty_9 rfl rfl trivial rfl ?_ | refine r_ldo ty_9 rfl rfl (by assumption) rfl trivial rfl ?_
  refine r_callh [(0, 1), (1, 2)] 3 2 (ws_fresh [106, 111, 105, 110] (by decide)) cb_12 rfl rfl rfl ?_ (.cons rfl .nil) rfl rfl rfl rfl trivial rfl ?_
  · (repeat (first | exact .nil | refine .cons .fv ?_ | refine .cons (.aggf' rfl) ?_ | refine .cons .nil ?_ | refine .cons (.ren rfl) ?_))
  refine reg_nil ?_
  refine awp_seq ?_
  refine awp_seq ?_
  refine awp_region ?_
  refine r_callh [(0, 0), (1, 3)] 4 2 (nums_5 key slot gen good request backend weight) cb_23 rfl rfl rfl ?_ (.cons rfl .nil) rfl rfl rfl rfl trivial rfl ?_
  · (repeat (first | exact .nil | refine .cons .fv ?_ | refine .cons (.aggf' rfl) ?_ | refine .cons .nil ?_ | refine .cons (.ren rfl) ?_))
  first | refine r_lenr sl_58 rfl trivial rfl ?_ | refine r_lenw sl_58 rfl trivial rfl ?_ | refine r_len0 sl_58 rfl trivial rfl ?_
  refine r_mv rfl trivial rfl ?_
  refine reg_nil ?_
  refine awp_block ?_
  refine awp_unroll 4 ?_
  refine unr_succ ?_
  refine awp_seq ?_
  refine awp_region ?_
  refine r_lss rfl rfl trivial rfl ?_
  refine reg_nil ?_
  refine awp_seq ?_
  refine awp_cond_t rfl ?_
  refine awp_skip ?_
  refine awp_seq ?_
  refine awp_block ?_
  refine awp_seq ?_
  refine awp_region ?_
  first | refine r_ixr sl_58 ty_53 rfl rfl (by simp) (by first | exact map_get (by omega) | exact map_geti (by omega)) trivial rfl ?_ | refine r_ixw sl_58 ty_53 rfl rfl (by simp) (by simp) trivial rfl ?_
  first | refine r_ld ty_53 rfl rfl rfl trivial rfl ?_ | refine r_ldr ty_53 rfl rfl trivial rfl ?_ | refine r_ldo ty_53 rfl rfl (by assumption) rfl trivial rfl ?_
  refine r_as rfl trivial rfl ?_
  refine reg_nil ?_
  refine awp_region ?_
  refine r_mv rfl trivial rfl ?_
  first | refine r_nilck rfl trivial rfl ?_ | refine r_nilckr rfl trivial rfl ?_ | refine r_nilckf rfl trivial rfl ?_
  first | refine r_ld ty_3 rfl rfl rfl trivial rfl ?_ | refine r_ldr ty_3 rfl rfl trivial rfl ?_ | refine r_ldo ty_3 rfl rfl (by assumption) rfl trivial rfl ?_
  refine r_call (itoa_ok request (by omega) (by omega)) cb_24 rfl rfl rfl ?_ trivial rfl ?_
  · (repeat (first | exact .nil | refine .cons .fv ?_ | refine .cons (.aggf' rfl) ?_ | refine .cons .nil ?_ | refine .cons (.ren rfl) ?_))
  refine r_cat rfl rfl (by have lrequest := decL10 (n := request) (by omega); have lbackend := decL10 (n := backend) (by omega); have lweight := decL10 (n := weight) (by omega); simp <;> omega) trivial rfl ?_
  refine r_callh [(0, 1), (1, 2), (2, 4)] 5 3 (ws_used ([106, 111, 105, 110]) ([32] ++ decL request.toNat) (by have lrequest := decL10 (n := request) (by omega); have lbackend := decL10 (n := backend) (by omega); have lweight := decL10 (n := weight) (by omega); simp <;> omega)) cb_12 rfl rfl rfl ?_ (.cons rfl (.cons rfl .nil)) rfl rfl rfl rfl trivial rfl ?_
  · (repeat (first | exact .nil | refine .cons .fv ?_ | refine .cons (.aggf' rfl) ?_ | refine .cons .nil ?_ | refine .cons (.ren rfl) ?_))
  refine reg_nil ?_
  refine awp_region ?_
  refine r_add rfl rfl (rng64 (by omega)) trivial rfl ?_
  refine r_mv rfl trivial rfl ?_
  refine reg_nil ?_
  refine unr_succ ?_
  refine awp_seq ?_
  refine awp_region ?_
  refine r_lss rfl rfl trivial rfl ?_
  refine reg_nil ?_
  refine awp_seq ?_
  refine awp_cond_t rfl ?_
  refine awp_skip ?_
  refine awp_seq ?_
  refine awp_block ?_
  refine awp_seq ?_
  refine awp_region ?_
  first | refine r_ixr sl_58 ty_53 rfl rfl (by simp) (by first | exact map_get (by omega) | exact map_geti (by omega)) trivial rfl ?_ | refine r_ixw sl_58 ty_53 rfl rfl (by simp) (by simp) trivial rfl ?_
  first | refine r_ld ty_53 rfl rfl rfl trivial rfl ?_ | refine r_ldr ty_53 rfl rfl trivial rfl ?_ | refine r_ldo ty_53 rfl rfl (by assumption) rfl trivial rfl ?_
  refine r_as rfl trivial rfl ?_
  refine reg_nil ?_
  refine awp_region ?_
  refine r_mv rfl trivial rfl ?_
  first | refine r_nilck rfl trivial rfl ?_ | refine r_nilckr rfl trivial rfl ?_ | refine r_nilckf rfl trivial rfl ?_
  first | refine r_ld ty_3 rfl rfl rfl trivial rfl ?_ | refine r_ldr ty_3 rfl rfl trivial rfl ?_ | refine r_ldo ty_3 rfl rfl (by assumption) rfl trivial rfl ?_
  refine r_call (itoa_ok backend (by omega) (by omega)) cb_24 rfl rfl rfl ?_ trivial rfl ?_
  · (repeat (first | exact .nil | refine .cons .fv ?_ | refine .cons (.aggf' rfl) ?_ | refine .cons .nil ?_ | refine .cons (.ren rfl) ?_))
  refine r_cat rfl rfl (by have lrequest := decL10 (n := request) (by omega); have lbackend := decL10 (n := backend) (by omega); have lweight := decL10 (n := weight) (by omega); simp <;> omega) trivial rfl ?_
  refine r_callh [(0, 1), (1, 4), (2, 5)] 6 3 (ws_used ([106, 111, 105, 110] ++ ([32] ++ decL request.toNat)) ([32] ++ decL backend.toNat) (by have lrequest := decL10 (n := request) (by omega); have lbackend := decL10 (n := backend) (by omega); have lweight := decL10 (n := weight) (by omega); simp <;> omega)) cb_12 rfl rfl rfl ?_ (.cons rfl (.cons rfl .nil)) rfl rfl rfl rfl trivial rfl ?_
  · (repeat (first | exact .nil | refine .cons .fv ?_ | refine .cons (.aggf' rfl) ?_ | refine .cons .nil ?_ | refine .cons (.ren rfl) ?_))
  refine reg_nil ?_
  refine awp_region ?_
  refine r_add rfl rfl (rng64 (by omega)) trivial rfl ?_
  refine r_mv rfl trivial rfl ?_
  refine reg_nil ?_
  refine unr_succ ?_
  refine awp_seq ?_
  refine awp_region ?_
  refine r_lss rfl rfl trivial rfl ?_
  refine reg_nil ?_
  refine awp_seq ?_
  refine awp_cond_t rfl ?_
  refine awp_skip ?_
  refine awp_seq ?_
  refine awp_block ?_
  refine awp_seq ?_
  refine awp_region ?_
  first | refine r_ixr sl_58 ty_53 rfl rfl (by simp) (by first | exact map_get (by omega) | exact map_geti (by omega)) trivial rfl ?_ | refine r_ixw sl_58 ty_53 rfl rfl (by simp) (by simp) trivial rfl ?_
  first | refine r_ld ty_53 rfl rfl rfl trivial rfl ?_ | refine r_ldr ty_53 rfl rfl trivial rfl ?_ | refine r_ldo ty_53 rfl rfl (by assumption) rfl trivial rfl ?_
  refine r_as rfl trivial rfl ?_
  refine reg_nil ?_
  refine awp_region ?_
  refine r_mv rfl trivial rfl ?_
  first | refine r_nilck rfl trivial rfl ?_ | refine r_nilckr rfl trivial rfl ?_ | refine r_nilckf rfl trivial rfl ?_
  first | refine r_ld ty_3 rfl rfl rfl trivial rfl ?_ | refine r_ldr ty_3 rfl rfl trivial rfl ?_ | refine r_ldo ty_3 rfl rfl (by assumption) rfl trivial rfl ?_
  refine r_call (itoa_ok weight (by omega) (by omega)) cb_24 rfl rfl rfl ?_ trivial rfl ?_
  · (repeat (first | exact .nil | refine .cons .fv ?_ | refine .cons (.aggf' rfl) ?_ | refine .cons .nil ?_ | refine .cons (.ren rfl) ?_))
  refine r_cat rfl rfl (by have lrequest := decL10 (n := request) (by omega); have lbackend := decL10 (n := backend) (by omega); have lweight := decL10 (n := weight) (by omega); simp <;> omega) trivial rfl ?_
  refine r_callh [(0, 1), (1, 5), (2, 6)] 7 3 (ws_used ([106, 111, 105, 110] ++ ([32] ++ decL request.toNat) ++ ([32] ++ decL backend.toNat)) ([32] ++ decL weight.toNat) (by have lrequest := decL10 (n := request) (by omega); have lbackend := decL10 (n := backend) (by omega); have lweight := decL10 (n := weight) (by omega); simp <;> omega)) cb_12 rfl rfl rfl ?_ (.cons rfl (.cons rfl .nil)) rfl rfl rfl rfl trivial rfl ?_
  · (repeat (first | exact .nil | refine .cons .fv ?_ | refine .cons (.aggf' rfl) ?_ | refine .cons .nil ?_ | refine .cons (.ren rfl) ?_))
  refine reg_nil ?_
  refine awp_region ?_
  refine r_add rfl rfl (rng64 (by omega)) trivial rfl ?_
  refine r_mv rfl trivial rfl ?_
  refine reg_nil ?_
  refine unr_succ ?_
  refine awp_seq ?_
  refine awp_region ?_
  refine r_lss rfl rfl trivial rfl ?_
  refine reg_nil ?_
  refine awp_seq ?_
  refine awp_cond_f rfl ?_
  refine awp_exit ?_
  refine awp_seq ?_
  refine awp_seq ?_
  refine awp_region ?_
  first | refine r_fld fld_37_0 rfl trivial rfl ?_ | refine r_fldr fld_37_0 rfl trivial rfl ?_
  first | refine r_ld ty_3 rfl rfl rfl trivial rfl ?_ | refine r_ldr ty_3 rfl rfl trivial rfl ?_ | refine r_ldo ty_3 rfl rfl (by assumption) rfl trivial rfl ?_
  refine r_eqi rfl rfl trivial rfl ?_
  refine reg_nil ?_
  refine awp_cond_f rfl ?_
  refine awp_skip ?_
  refine awp_seq ?_
  refine awp_region ?_
  refine r_callh [(0, 1), (1, 6), (2, 7)] 8 3 (wb_used ([106, 111, 105, 110] ++ ([32] ++ decL request.toNat) ++ ([32] ++ decL backend.toNat) ++ ([32] ++ decL weight.toNat)) 10 (by have lrequest := decL10 (n := request) (by omega); have lbackend := decL10 (n := backend) (by omega); have lweight := decL10 (n := weight) (by omega); simp <;> omega)) cb_25 rfl rfl rfl ?_ (.cons rfl (.cons rfl .nil)) rfl rfl rfl rfl trivial rfl ?_
  · (repeat (first | exact .nil | refine .cons .fv ?_ | refine .cons (.aggf' rfl) ?_ | refine .cons .nil ?_ | refine .cons (.ren rfl) ?_))
  refine reg_nil ?_
  refine awp_seq ?_
  refine awp_region ?_
  refine r_callh [(0, 1), (1, 7)] 8 2 (bstr ([106, 111, 105, 110] ++ ([32] ++ decL request.toNat) ++ ([32] ++ decL backend.toNat) ++ ([32] ++ decL weight.toNat) ++ [10]) (by simp)) cb_14 rfl rfl rfl ?_ (.cons rfl (.cons rfl .nil)) rfl rfl rfl rfl trivial rfl ?_
  · (repeat (first | exact .nil | refine .cons .fv ?_ | refine .cons (.aggf' rfl) ?_ | refine .cons .nil ?_ | refine .cons (.ren rfl) ?_))
  refine r_as rfl trivial rfl ?_
  refine reg_nil ?_
  refine awp_ret ?_
  refine fin0 (.cons (.tmp rfl) .nil) (by first | exact .fv | exact .frz rfl rfl trivial | exact .nil | exact .aggf' rfl | exact .aggf) ?_
  simp [lineL, fieldVals, wordL]
set_option maxRecDepth 100000 in
theorem pline_6 (key slot gen : Int) (good : Bool) (request backend weight : Int) (hrequest : 0 ≤ request ∧ request ≤ 1048576) (hbackend : 0 ≤ backend ∧ backend ≤ 11) : Fun Tryd.prog 13 [.agg (fvs (encEv ⟨6, key, slot, gen, good, request, backend, weight⟩))] [] [] (sA (lineL ⟨6, key, slot, gen, good, request, backend, weight⟩ ++ [10])) [] := by
  refine fun_of_awp (rl := [.tmp 2]) Tryd.func13 rfl Tryd.results13 Tryd.ntmps13 0 rfl (by simp) ?_
  intro w0 own0 ρ0 F hz
  refine awp_seq ?_
  refine awp_region ?_
  refine r_box rfl rfl rfl trivial rfl ?_
  refine r_as rfl trivial rfl ?_
  refine reg_nil ?_
  refine awp_seq ?_
  refine awp_region ?_
  refine r_alloc z_35 rfl trivial rfl ?_
  refine reg_nil ?_
  refine awp_seq ?_
  refine awp_region ?_
  first | refine r_fld fld_37_0 rfl trivial rfl ?_ | refine r_fldr fld_37_0 rfl trivial rfl ?_
  first | refine r_ld ty_3 rfl rfl rfl trivial rfl ?_ | refine r_ldr ty_3 rfl rfl trivial rfl ?_ | refine r_ldo ty_3 rfl rfl (by assumption) rfl trivial rfl ?_
  refine r_ixg ar_57 ty_9 words_mem rfl (by simp) (by simp) rfl (by simp [strV, litOK, ByteArray.size, maxLen]) trivial rfl ?_
  first | refine r_ld ty_9 rfl rfl rfl trivial rfl ?_ | refine r_ldr ty_9 rfl rfl trivial rfl ?_ | refine r_ldo ty_9 rfl rfl (by assumption) rfl trivial rfl ?_
  refine r_callh [(0, 1), (1, 2)] 3 2 (ws_fresh [114, 101, 116, 105, 114, 101] (by decide)) cb_12 rfl rfl rfl ?_ (.cons rfl .nil) rfl rfl rfl rfl trivial rfl ?_
  · (repeat (first | exact .nil | refine .cons .fv ?_ | refine .cons (.aggf' rfl) ?_ | refine .cons .nil ?_ | refine .cons (.ren rfl) ?_))
  refine reg_nil ?_
  refine awp_seq ?_
  refine awp_seq ?_
  refine awp_region ?_
  refine r_callh [(0, 0), (1, 3)] 4 2 (nums_6 key slot gen good request backend weight) cb_23 rfl rfl rfl ?_ (.cons rfl .nil) rfl rfl rfl rfl trivial rfl ?_
  · (repeat (first | exact .nil | refine .cons .fv ?_ | refine .cons (.aggf' rfl) ?_ | refine .cons .nil ?_ | refine .cons (.ren rfl) ?_))
  first | refine r_lenr sl_58 rfl trivial rfl ?_ | refine r_lenw sl_58 rfl trivial rfl ?_ | refine r_len0 sl_58 rfl trivial rfl ?_
  refine r_mv rfl trivial rfl ?_
  refine reg_nil ?_
  refine awp_block ?_
  refine awp_unroll 3 ?_
  refine unr_succ ?_
  refine awp_seq ?_
  refine awp_region ?_
  refine r_lss rfl rfl trivial rfl ?_
  refine reg_nil ?_
  refine awp_seq ?_
  refine awp_cond_t rfl ?_
  refine awp_skip ?_
  refine awp_seq ?_
  refine awp_block ?_
  refine awp_seq ?_
  refine awp_region ?_
  first | refine r_ixr sl_58 ty_53 rfl rfl (by simp) (by first | exact map_get (by omega) | exact map_geti (by omega)) trivial rfl ?_ | refine r_ixw sl_58 ty_53 rfl rfl (by simp) (by simp) trivial rfl ?_
  first | refine r_ld ty_53 rfl rfl rfl trivial rfl ?_ | refine r_ldr ty_53 rfl rfl trivial rfl ?_ | refine r_ldo ty_53 rfl rfl (by assumption) rfl trivial rfl ?_
  refine r_as rfl trivial rfl ?_
  refine reg_nil ?_
  refine awp_region ?_
  refine r_mv rfl trivial rfl ?_
  first | refine r_nilck rfl trivial rfl ?_ | refine r_nilckr rfl trivial rfl ?_ | refine r_nilckf rfl trivial rfl ?_
  first | refine r_ld ty_3 rfl rfl rfl trivial rfl ?_ | refine r_ldr ty_3 rfl rfl trivial rfl ?_ | refine r_ldo ty_3 rfl rfl (by assumption) rfl trivial rfl ?_
  refine r_call (itoa_ok request (by omega) (by omega)) cb_24 rfl rfl rfl ?_ trivial rfl ?_
  · (repeat (first | exact .nil | refine .cons .fv ?_ | refine .cons (.aggf' rfl) ?_ | refine .cons .nil ?_ | refine .cons (.ren rfl) ?_))
  refine r_cat rfl rfl (by have lrequest := decL10 (n := request) (by omega); have lbackend := decL10 (n := backend) (by omega); simp <;> omega) trivial rfl ?_
  refine r_callh [(0, 1), (1, 2), (2, 4)] 5 3 (ws_used ([114, 101, 116, 105, 114, 101]) ([32] ++ decL request.toNat) (by have lrequest := decL10 (n := request) (by omega); have lbackend := decL10 (n := backend) (by omega); simp <;> omega)) cb_12 rfl rfl rfl ?_ (.cons rfl (.cons rfl .nil)) rfl rfl rfl rfl trivial rfl ?_
  · (repeat (first | exact .nil | refine .cons .fv ?_ | refine .cons (.aggf' rfl) ?_ | refine .cons .nil ?_ | refine .cons (.ren rfl) ?_))
  refine reg_nil ?_
  refine awp_region ?_
  refine r_add rfl rfl (rng64 (by omega)) trivial rfl ?_
  refine r_mv rfl trivial rfl ?_
  refine reg_nil ?_
  refine unr_succ ?_
  refine awp_seq ?_
  refine awp_region ?_
  refine r_lss rfl rfl trivial rfl ?_
  refine reg_nil ?_
  refine awp_seq ?_
  refine awp_cond_t rfl ?_
  refine awp_skip ?_
  refine awp_seq ?_
  refine awp_block ?_
  refine awp_seq ?_
  refine awp_region ?_
  first | refine r_ixr sl_58 ty_53 rfl rfl (by simp) (by first | exact map_get (by omega) | exact map_geti (by omega)) trivial rfl ?_ | refine r_ixw sl_58 ty_53 rfl rfl (by simp) (by simp) trivial rfl ?_
  first | refine r_ld ty_53 rfl rfl rfl trivial rfl ?_ | refine r_ldr ty_53 rfl rfl trivial rfl ?_ | refine r_ldo ty_53 rfl rfl (by assumption) rfl trivial rfl ?_
  refine r_as rfl trivial rfl ?_
  refine reg_nil ?_
  refine awp_region ?_
  refine r_mv rfl trivial rfl ?_
  first | refine r_nilck rfl trivial rfl ?_ | refine r_nilckr rfl trivial rfl ?_ | refine r_nilckf rfl trivial rfl ?_
  first | refine r_ld ty_3 rfl rfl rfl trivial rfl ?_ | refine r_ldr ty_3 rfl rfl trivial rfl ?_ | refine r_ldo ty_3 rfl rfl (by assumption) rfl trivial rfl ?_
  refine r_call (itoa_ok backend (by omega) (by omega)) cb_24 rfl rfl rfl ?_ trivial rfl ?_
  · (repeat (first | exact .nil | refine .cons .fv ?_ | refine .cons (.aggf' rfl) ?_ | refine .cons .nil ?_ | refine .cons (.ren rfl) ?_))
  refine r_cat rfl rfl (by have lrequest := decL10 (n := request) (by omega); have lbackend := decL10 (n := backend) (by omega); simp <;> omega) trivial rfl ?_
  refine r_callh [(0, 1), (1, 4), (2, 5)] 6 3 (ws_used ([114, 101, 116, 105, 114, 101] ++ ([32] ++ decL request.toNat)) ([32] ++ decL backend.toNat) (by have lrequest := decL10 (n := request) (by omega); have lbackend := decL10 (n := backend) (by omega); simp <;> omega)) cb_12 rfl rfl rfl ?_ (.cons rfl (.cons rfl .nil)) rfl rfl rfl rfl trivial rfl ?_
  · (repeat (first | exact .nil | refine .cons .fv ?_ | refine .cons (.aggf' rfl) ?_ | refine .cons .nil ?_ | refine .cons (.ren rfl) ?_))
  refine reg_nil ?_
  refine awp_region ?_
  refine r_add rfl rfl (rng64 (by omega)) trivial rfl ?_
  refine r_mv rfl trivial rfl ?_
  refine reg_nil ?_
  refine unr_succ ?_
  refine awp_seq ?_
  refine awp_region ?_
  refine r_lss rfl rfl trivial rfl ?_
  refine reg_nil ?_
  refine awp_seq ?_
  refine awp_cond_f rfl ?_
  refine awp_exit ?_
  refine awp_seq ?_
  refine awp_seq ?_
  refine awp_region ?_
  first | refine r_fld fld_37_0 rfl trivial rfl ?_ | refine r_fldr fld_37_0 rfl trivial rfl ?_
  first | refine r_ld ty_3 rfl rfl rfl trivial rfl ?_ | refine r_ldr ty_3 rfl rfl trivial rfl ?_ | refine r_ldo ty_3 rfl rfl (by assumption) rfl trivial rfl ?_
  refine r_eqi rfl rfl trivial rfl ?_
  refine reg_nil ?_
  refine awp_cond_f rfl ?_
  refine awp_skip ?_
  refine awp_seq ?_
  refine awp_region ?_
  refine r_callh [(0, 1), (1, 5), (2, 6)] 7 3 (wb_used ([114, 101, 116, 105, 114, 101] ++ ([32] ++ decL request.toNat) ++ ([32] ++ decL backend.toNat)) 10 (by have lrequest := decL10 (n := request) (by omega); have lbackend := decL10 (n := backend) (by omega); simp <;> omega)) cb_25 rfl rfl rfl ?_ (.cons rfl (.cons rfl .nil)) rfl rfl rfl rfl trivial rfl ?_
  · (repeat (first | exact .nil | refine .cons .fv ?_ | refine .cons (.aggf' rfl) ?_ | refine .cons .nil ?_ | refine .cons (.ren rfl) ?_))
  refine reg_nil ?_
  refine awp_seq ?_
  refine awp_region ?_
  refine r_callh [(0, 1), (1, 6)] 7 2 (bstr ([114, 101, 116, 105, 114, 101] ++ ([32] ++ decL request.toNat) ++ ([32] ++ decL backend.toNat) ++ [10]) (by simp)) cb_14 rfl rfl rfl ?_ (.cons rfl (.cons rfl .nil)) rfl rfl rfl rfl trivial rfl ?_
  · (repeat (first | exact .nil | refine .cons .fv ?_ | refine .cons (.aggf' rfl) ?_ | refine .cons .nil ?_ | refine .cons (.ren rfl) ?_))
  refine r_as rfl trivial rfl ?_
  refine reg_nil ?_
  refine awp_ret ?_
  refine fin0 (.cons (.tmp rfl) .nil) (by first | exact .fv | exact .frz rfl rfl trivial | exact .nil | exact .aggf' rfl | exact .aggf) ?_
  simp [lineL, fieldVals, wordL]
set_option maxRecDepth 100000 in
theorem pline_7 (key slot gen : Int) (good : Bool) (request backend weight : Int)  : Fun Tryd.prog 13 [.agg (fvs (encEv ⟨7, key, slot, gen, good, request, backend, weight⟩))] [] [] (sA (lineL ⟨7, key, slot, gen, good, request, backend, weight⟩ ++ [10])) [] := by
  refine fun_of_awp (rl := [.tmp 2]) Tryd.func13 rfl Tryd.results13 Tryd.ntmps13 0 rfl (by simp) ?_
  intro w0 own0 ρ0 F hz
  refine awp_seq ?_
  refine awp_region ?_
  refine r_box rfl rfl rfl trivial rfl ?_
  refine r_as rfl trivial rfl ?_
  refine reg_nil ?_
  refine awp_seq ?_
  refine awp_region ?_
  refine r_alloc z_35 rfl trivial rfl ?_
  refine reg_nil ?_
  refine awp_seq ?_
  refine awp_region ?_
  first | refine r_fld fld_37_0 rfl trivial rfl ?_ | refine r_fldr fld_37_0 rfl trivial rfl ?_
  first | refine r_ld ty_3 rfl rfl rfl trivial rfl ?_ | refine r_ldr ty_3 rfl rfl trivial rfl ?_ | refine r_ldo ty_3 rfl rfl (by assumption) rfl trivial rfl ?_
  refine r_ixg ar_57 ty_9 words_mem rfl (by simp) (by simp) rfl (by simp [strV, litOK, ByteArray.size, maxLen]) trivial rfl ?_
  first | refine r_ld ty_9 rfl rfl rfl trivial rfl ?_ | refine r_ldr ty_9 rfl rfl trivial rfl ?_ | refine r_ldo ty_9 rfl rfl (by assumption) rfl trivial rfl ?_
  refine r_callh [(0, 1), (1, 2)] 3 2 (ws_fresh [116, 105, 99, 107] (by decide)) cb_12 rfl rfl rfl ?_ (.cons rfl .nil) rfl rfl rfl rfl trivial rfl ?_
  · (repeat (first | exact .nil | refine .cons .fv ?_ | refine .cons (.aggf' rfl) ?_ | refine .cons .nil ?_ | refine .cons (.ren rfl) ?_))
  refine reg_nil ?_
  refine awp_seq ?_
  refine awp_seq ?_
  refine awp_region ?_
  refine r_callh [(0, 0)] 3 1 (nums_7 key slot gen good request backend weight) cb_23 rfl rfl rfl ?_ (.cons rfl .nil) rfl rfl rfl rfl trivial rfl ?_
  · (repeat (first | exact .nil | refine .cons .fv ?_ | refine .cons (.aggf' rfl) ?_ | refine .cons .nil ?_ | refine .cons (.ren rfl) ?_))
  first | refine r_lenr sl_58 rfl trivial rfl ?_ | refine r_lenw sl_58 rfl trivial rfl ?_ | refine r_len0 sl_58 rfl trivial rfl ?_
  refine r_mv rfl trivial rfl ?_
  refine reg_nil ?_
  refine awp_block ?_
  refine awp_unroll 1 ?_
  refine unr_succ ?_
  refine awp_seq ?_
  refine awp_region ?_
  refine r_lss rfl rfl trivial rfl ?_
  refine reg_nil ?_
  refine awp_seq ?_
  refine awp_cond_f rfl ?_
  refine awp_exit ?_
  refine awp_seq ?_
  refine awp_seq ?_
  refine awp_region ?_
  first | refine r_fld fld_37_0 rfl trivial rfl ?_ | refine r_fldr fld_37_0 rfl trivial rfl ?_
  first | refine r_ld ty_3 rfl rfl rfl trivial rfl ?_ | refine r_ldr ty_3 rfl rfl trivial rfl ?_ | refine r_ldo ty_3 rfl rfl (by assumption) rfl trivial rfl ?_
  refine r_eqi rfl rfl trivial rfl ?_
  refine reg_nil ?_
  refine awp_cond_f rfl ?_
  refine awp_skip ?_
  refine awp_seq ?_
  refine awp_region ?_
  refine r_callh [(0, 1), (1, 2), (2, 3)] 4 3 (wb_used ([116, 105, 99, 107]) 10 (by  simp <;> omega)) cb_25 rfl rfl rfl ?_ (.cons rfl (.cons rfl .nil)) rfl rfl rfl rfl trivial rfl ?_
  · (repeat (first | exact .nil | refine .cons .fv ?_ | refine .cons (.aggf' rfl) ?_ | refine .cons .nil ?_ | refine .cons (.ren rfl) ?_))
  refine reg_nil ?_
  refine awp_seq ?_
  refine awp_region ?_
  refine r_callh [(0, 1), (1, 3)] 4 2 (bstr ([116, 105, 99, 107] ++ [10]) (by simp)) cb_14 rfl rfl rfl ?_ (.cons rfl (.cons rfl .nil)) rfl rfl rfl rfl trivial rfl ?_
  · (repeat (first | exact .nil | refine .cons .fv ?_ | refine .cons (.aggf' rfl) ?_ | refine .cons .nil ?_ | refine .cons (.ren rfl) ?_))
  refine r_as rfl trivial rfl ?_
  refine reg_nil ?_
  refine awp_ret ?_
  refine fin0 (.cons (.tmp rfl) .nil) (by first | exact .fv | exact .frz rfl rfl trivial | exact .nil | exact .aggf' rfl | exact .aggf) ?_
  simp [lineL, fieldVals, wordL]
end Go.Uw.D
