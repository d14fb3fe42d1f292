/- A helper text of this claim: lemmas of an abstract machine over the model, or walks in it. Own work of an AI agent. -/
import Derived.Test.YtkcjomglcjhkgaaDoorD9
set_option linter.unusedVariables false
set_option linter.unusedSimpArgs false
namespace Go.Uw.D
open Go Go.Uw Go.Proofs

set_option maxRecDepth 100000 in
theorem ws_fresh (l : List UInt8) (hl : l.length ≤ 10000000) : Fun Tryd.prog 12 [.ptr 0 0 0 0, sA l] [(0, some (.cells 35 [lit (.pointer none), lit (.slice none 0 0)]))] [1] (.tup [iA l.length, lit .nilIface]) [(0, some (.cells 35 [.ptr 0 0 0 0, .rw 1 1 0 l.length])), (1, some (.rows 5 1 (bytesF l)))] := by
  refine fun_of_awp (rl := [.tmp 4, .tmp 5]) Tryd.func12 rfl Tryd.results12 Tryd.ntmps12 1 rfl (by simp) ?_
  intro w0 own0 ρ0 F hz
  refine awp_seq ?_
  refine awp_region ?_
  refine r_as rfl trivial rfl ?_
  refine r_as rfl trivial rfl ?_
  refine reg_nil ?_
  refine awp_seq ?_
  refine awp_region ?_
  refine r_mv rfl trivial rfl ?_
  refine r_callh [(0, 0)] 1 1 (check_fresh) cb_22 rfl rfl rfl ?_ (.cons rfl .nil) rfl rfl rfl rfl trivial rfl ?_
  · (repeat (first | exact .nil | refine .cons .fv ?_ | refine .cons (.aggf' rfl) ?_ | refine .cons .nil ?_ | refine .cons (.ren rfl) ?_))
  refine reg_nil ?_
  refine awp_seq ?_
  refine awp_region ?_
  refine r_mv rfl trivial rfl ?_
  refine r_mv rfl trivial rfl ?_
  first | refine r_nilck rfl trivial rfl ?_ | refine r_nilckr rfl trivial rfl ?_ | refine r_nilckf rfl trivial rfl ?_
  first | refine r_fld fld_35_1 rfl trivial rfl ?_ | refine r_fldr fld_35_1 rfl trivial rfl ?_
  first | refine r_ld ty_33 rfl rfl rfl trivial rfl ?_ | refine r_ldr ty_33 rfl rfl trivial rfl ?_ | refine r_ldo ty_33 rfl rfl (by assumption) rfl trivial rfl ?_
  refine r_mv rfl trivial rfl ?_
  refine r_appns sl_33 us_9 ty_5 rfl z_5 rfl rfl (by simp [maxLen_eq]; omega) (by simp; omega) trivial rfl ?_
  first | refine r_nilck rfl trivial rfl ?_ | refine r_nilckr rfl trivial rfl ?_ | refine r_nilckf rfl trivial rfl ?_
  first | refine r_fld fld_35_1 rfl trivial rfl ?_ | refine r_fldr fld_35_1 rfl trivial rfl ?_
  first | refine r_st ty_33 rfl rfl rfl rfl rfl rfl rfl trivial ?_ | refine r_sto ty_33 rfl rfl rfl rfl (by assumption) rfl rfl rfl trivial ?_
  refine reg_nil ?_
  refine awp_seq ?_
  refine awp_region ?_
  refine r_mv rfl trivial rfl ?_
  refine r_lens us_9 rfl trivial rfl ?_
  refine r_as rfl trivial rfl ?_
  refine r_as rfl trivial rfl ?_
  refine reg_nil ?_
  refine awp_ret ?_
  exact finG (nid := []) [(1, 2)] 2 (.cons (.tmp rfl) (.cons (.tmp rfl) .nil)) rfl rfl rfl (.ren rfl) (.cons rfl (.ren rfl) (.cons rfl (.ren rfl) .nil))
set_option maxRecDepth 100000 in
theorem ws_used (acc l : List UInt8) (hl : acc.length + l.length ≤ 10000000) : Fun Tryd.prog 12 [.ptr 0 0 0 0, sA l] [(0, some (.cells 35 [.ptr 0 0 0 0, .rw 1 1 0 acc.length])), (1, some (.rows 5 1 (bytesF acc)))] [2] (.tup [iA l.length, lit .nilIface]) [(0, some (.cells 35 [.ptr 0 0 0 0, .rw 2 1 0 (acc ++ l).length])), (2, some (.rows 5 1 (bytesF (acc ++ l)))), (1, none)] := by
  refine fun_of_awp (rl := [.tmp 4, .tmp 5]) Tryd.func12 rfl Tryd.results12 Tryd.ntmps12 2 rfl (by simp) ?_
  intro w0 own0 ρ0 F hz
  refine awp_seq ?_
  refine awp_region ?_
  refine r_as rfl trivial rfl ?_
  refine r_as rfl trivial rfl ?_
  refine reg_nil ?_
  refine awp_seq ?_
  refine awp_region ?_
  refine r_mv rfl trivial rfl ?_
  refine r_callh [(0, 0), (1, 1)] 2 2 (check_used acc) cb_22 rfl rfl rfl ?_ (.cons rfl (.cons rfl .nil)) rfl rfl rfl rfl trivial rfl ?_
  · (repeat (first | exact .nil | refine .cons .fv ?_ | refine .cons (.aggf' rfl) ?_ | refine .cons .nil ?_ | refine .cons (.ren rfl) ?_))
  refine reg_nil ?_
  refine awp_seq ?_
  refine awp_region ?_
  refine r_mv rfl trivial rfl ?_
  refine r_mv rfl trivial rfl ?_
  first | refine r_nilck rfl trivial rfl ?_ | refine r_nilckr rfl trivial rfl ?_ | refine r_nilckf rfl trivial rfl ?_
  first | refine r_fld fld_35_1 rfl trivial rfl ?_ | refine r_fldr fld_35_1 rfl trivial rfl ?_
  first | refine r_ld ty_33 rfl rfl rfl trivial rfl ?_ | refine r_ldr ty_33 rfl rfl trivial rfl ?_ | refine r_ldo ty_33 rfl rfl (by assumption) rfl trivial rfl ?_
  refine r_mv rfl trivial rfl ?_
  refine r_apps sl_33 us_9 ty_5 rfl z_5 rfl rfl rfl (bytesF_len acc).symm (by simp [maxLen_eq, bytesF_len]; omega) (by simp [bytesF_len]; omega) trivial rfl ?_
  first | refine r_nilck rfl trivial rfl ?_ | refine r_nilckr rfl trivial rfl ?_ | refine r_nilckf rfl trivial rfl ?_
  first | refine r_fld fld_35_1 rfl trivial rfl ?_ | refine r_fldr fld_35_1 rfl trivial rfl ?_
  first | refine r_st ty_33 rfl rfl rfl rfl rfl rfl rfl trivial ?_ | refine r_sto ty_33 rfl rfl rfl rfl (by assumption) rfl rfl rfl trivial ?_
  refine reg_nil ?_
  refine awp_seq ?_
  refine awp_region ?_
  refine r_mv rfl trivial rfl ?_
  refine r_lens us_9 rfl trivial rfl ?_
  refine r_as rfl trivial rfl ?_
  refine r_as rfl trivial rfl ?_
  refine reg_nil ?_
  refine awp_ret ?_
  exact finG (nid := []) [(2, 2)] 3 (.cons (.tmp rfl) (.cons (.tmp rfl) .nil)) rfl rfl rfl (.ren rfl) (.cons rfl (.ren (by simp [Blk.ren, renL, AV.ren, ren, bytesF_len]; rfl)) (.cons rfl (.ren (by simp [Blk.ren, bytesF])) (.none .nil)))
set_option maxRecDepth 100000 in
theorem wb_used (acc : List UInt8) (c : UInt8) (hl : acc.length ≤ 10000000) : Fun Tryd.prog 25 [.ptr 0 0 0 0, iv .u8 c.toNat] [(0, some (.cells 35 [.ptr 0 0 0 0, .rw 1 1 0 acc.length])), (1, some (.rows 5 1 (bytesF acc)))] [2] (lit .nilIface) [(0, some (.cells 35 [.ptr 0 0 0 0, .rw 2 1 0 (acc ++ [c]).length])), (2, some (.rows 5 1 (bytesF (acc ++ [c])))), (1, none)] := by
  refine fun_of_awp (rl := [.tmp 4]) Tryd.func25 rfl Tryd.results25 Tryd.ntmps25 2 rfl (by simp) ?_
  intro w0 own0 ρ0 F hz
  refine awp_seq ?_
  refine awp_region ?_
  refine r_as rfl trivial rfl ?_
  refine reg_nil ?_
  refine awp_seq ?_
  refine awp_region ?_
  refine r_mv rfl trivial rfl ?_
  refine r_callh [(0, 0), (1, 1)] 2 2 (check_used acc) cb_22 rfl rfl rfl ?_ (.cons rfl (.cons rfl .nil)) rfl rfl rfl rfl trivial rfl ?_
  · (repeat (first | exact .nil | refine .cons .fv ?_ | refine .cons (.aggf' rfl) ?_ | refine .cons .nil ?_ | refine .cons (.ren rfl) ?_))
  refine reg_nil ?_
  refine awp_seq ?_
  refine awp_region ?_
  refine r_mv rfl trivial rfl ?_
  refine r_mv rfl trivial rfl ?_
  first | refine r_nilck rfl trivial rfl ?_ | refine r_nilckr rfl trivial rfl ?_ | refine r_nilckf rfl trivial rfl ?_
  first | refine r_fld fld_35_1 rfl trivial rfl ?_ | refine r_fldr fld_35_1 rfl trivial rfl ?_
  first | refine r_ld ty_33 rfl rfl rfl trivial rfl ?_ | refine r_ldr ty_33 rfl rfl trivial rfl ?_ | refine r_ldo ty_33 rfl rfl (by assumption) rfl trivial rfl ?_
  refine r_mv rfl trivial rfl ?_
  refine r_bslice (rs := [[_]]) sl_33 ty_5 rfl z_5 rfl rfl rfl rfl rfl rfl rfl trivial rfl ?_
  first | refine r_appr sl_33 ty_5 rfl z_5 rfl rfl rfl (bytesF_len acc).symm (by simp [maxLen_eq, bytesF_len]; omega) (by simp [bytesF_len]; omega) trivial rfl ?_ | refine r_appw sl_33 ty_5 rfl z_5 rfl rfl rfl rfl (bytesF_len acc).symm rfl rfl (by simp [maxLen_eq, bytesF_len]; omega) (by simp [bytesF_len]; omega) trivial rfl ?_
  first | refine r_nilck rfl trivial rfl ?_ | refine r_nilckr rfl trivial rfl ?_ | refine r_nilckf rfl trivial rfl ?_
  first | refine r_fld fld_35_1 rfl trivial rfl ?_ | refine r_fldr fld_35_1 rfl trivial rfl ?_
  first | refine r_st ty_33 rfl rfl rfl rfl rfl rfl rfl trivial ?_ | refine r_sto ty_33 rfl rfl rfl rfl (by assumption) rfl rfl rfl trivial ?_
  refine reg_nil ?_
  refine awp_seq ?_
  refine awp_region ?_
  refine r_as rfl trivial rfl ?_
  refine reg_nil ?_
  refine awp_ret ?_
  exact finG (nid := []) [(2, 3)] 3 (.cons (.tmp rfl) .nil) rfl rfl rfl (.ren rfl) (.cons rfl (.ren (by simp [Blk.ren, renL, AV.ren, ren, bytesF_len]; rfl)) (.cons rfl (.ren (by simp [Blk.ren, bytesF])) (.none .nil)))
set_option maxRecDepth 100000 in
theorem bstr (l : List UInt8) (h0 : l ≠ []) : Fun Tryd.prog 14 [.ptr 0 0 0 0] [(0, some (.cells 35 [.ptr 0 0 0 0, .rw 1 1 0 l.length])), (1, some (.rows 5 1 (bytesF l)))] [] (sA l) [(1, none)] := by
  refine fun_of_awp (rl := [.tmp 2]) Tryd.func14 rfl Tryd.results14 Tryd.ntmps14 2 rfl (by simp) ?_
  intro w0 own0 ρ0 F hz
  refine awp_seq ?_
  refine awp_region ?_
  refine r_as rfl trivial rfl ?_
  refine reg_nil ?_
  refine awp_seq ?_
  refine awp_draw mix rfl ?_
  refine r_mv rfl trivial rfl ?_
  first | refine r_nilck rfl trivial rfl ?_ | refine r_nilckr rfl trivial rfl ?_ | refine r_nilckf rfl trivial rfl ?_
  first | refine r_fld fld_35_1 rfl trivial rfl ?_ | refine r_fldr fld_35_1 rfl trivial rfl ?_
  first | refine r_ld ty_33 rfl rfl rfl trivial rfl ?_ | refine r_ldr ty_33 rfl rfl trivial rfl ?_ | refine r_ldo ty_33 rfl rfl (by assumption) rfl trivial rfl ?_
  refine r_sdata rfl (by simpa using h0) trivial rfl ?_
  refine r_mv rfl trivial rfl ?_
  first | refine r_nilck rfl trivial rfl ?_ | refine r_nilckr rfl trivial rfl ?_ | refine r_nilckf rfl trivial rfl ?_
  first | refine r_fld fld_35_1 rfl trivial rfl ?_ | refine r_fldr fld_35_1 rfl trivial rfl ?_
  first | refine r_ld ty_33 rfl rfl rfl trivial rfl ?_ | refine r_ldr ty_33 rfl rfl trivial rfl ?_ | refine r_ldo ty_33 rfl rfl (by assumption) rfl trivial rfl ?_
  first | refine r_lenr sl_33 rfl trivial rfl ?_ | refine r_lenw sl_33 rfl trivial rfl ?_ | refine r_len0 sl_33 rfl trivial rfl ?_
  refine r_ustr up_62 c_5 rfl rfl rfl rfl h0 trivial rfl ?_
  refine r_as rfl trivial rfl ?_
  refine reg_nil ⟨rfl, ?_⟩
  refine awp_ret ?_
  exact finG (nid := []) [] 2 (.cons (.tmp rfl) .nil) rfl rfl rfl (.ren rfl) (.none (.cons rfl (.ren rfl) .nil))
end Go.Uw.D
