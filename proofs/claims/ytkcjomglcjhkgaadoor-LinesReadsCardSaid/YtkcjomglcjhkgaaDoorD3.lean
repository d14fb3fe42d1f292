/- A helper text of this claim: lemmas of an abstract machine over the model, or walks in it. Own work of an AI agent. -/
import Derived.Test.YtkcjomglcjhkgaaDoorD2
set_option linter.unusedVariables false
set_option linter.unusedSimpArgs false
namespace Go.Uw.D
open Go Go.Uw Go.Proofs
def fieldsOf (e : Ev) : List (Int × Int × Int) :=
  if e.kind = 1 then [(e.key, 0, 4294967295)]
  else if e.kind = 2 ∨ e.kind = 3 then [(e.slot, 0, 39), (e.gen, 0, 1048576)]
  else if e.kind = 4 then [(e.slot, 0, 39), (e.gen, 0, 1048576)]
  else if e.kind = 5 then [(e.request, 0, 1048576), (e.backend, 0, 11), (e.weight, 1, 8)]
  else if e.kind = 6 then [(e.request, 0, 1048576), (e.backend, 0, 11)]
  else []
def restEv (e : Ev) : Ev :=
  if e.kind = 1 then { e with kind := 0, key := 0 }
  else if e.kind = 2 ∨ e.kind = 3 then { e with kind := 0, slot := 0, gen := 0 }
  else if e.kind = 4 then { e with kind := 0, slot := 0, gen := 0, good := false }
  else if e.kind = 5 then { e with kind := 0, request := 0, backend := 0, weight := 0 }
  else if e.kind = 6 then { e with kind := 0, request := 0, backend := 0 }
  else { e with kind := 0 }
def zeroEv : Ev := ⟨0, 0, 0, 0, false, 0, 0, 0⟩
def litsEv (e : Ev) : List Value := [.int .i64 e.kind, .int .i64 e.key, .int .i64 e.slot, .int .i64 e.gen, .bool e.good, .int .i64 e.request, .int .i64 e.backend, .int .i64 e.weight]
theorem eqVs_ev (a b : Ev) : eqVs (litsEv a) (litsEv b) = decide (a = b) := by
  obtain ⟨a1, a2, a3, a4, a5, a6, a7, a8⟩ := a
  obtain ⟨b1, b2, b3, b4, b5, b6, b7, b8⟩ := b
  by_cases h : (⟨a1, a2, a3, a4, a5, a6, a7, a8⟩ : Ev) = ⟨b1, b2, b3, b4, b5, b6, b7, b8⟩
  · rw [decide_eq_true h]; cases h; simp [litsEv, eqVs, eqV]
  · rw [decide_eq_false h]; simp only [Ev.mk.injEq] at h; simp only [litsEv, eqVs, eqV, Bool.and_true]
    simpa using h
def checkEv (e : Ev) : Int :=
  if e.kind < 1 ∨ 7 < e.kind then 5
  else if (fieldsOf e).any (fun x => decide (x.1 < x.2.1 ∨ x.2.2 < x.1)) = true then 2
  else if restEv e ≠ zeroEv then 3 else 0

set_option maxRecDepth 100000 in
theorem check_1 (key slot gen : Int) (good : Bool) (request backend weight : Int) : Fun Tryd.prog 11 [.agg (fvs (encEv ⟨1, key, slot, gen, good, request, backend, weight⟩))] [] [] (iA (checkEv ⟨1, key, slot, gen, good, request, backend, weight⟩)) [] := by
  refine fun_of_awp (rl := [.tmp 2]) Tryd.func11 rfl Tryd.results11 Tryd.ntmps11 0 rfl (by simp) ?_
  intro w0 own0 ρ0 F hz
  refine awp_seq ?_
  refine awp_region ?_
  refine r_box rfl rfl rfl trivial rfl ?_
  refine r_as rfl trivial rfl ?_
  refine reg_nil ?_
  refine awp_seq ?_
  refine awp_region ?_
  refine r_alloc z_3 rfl trivial rfl ?_
  first | refine r_st ty_3 rfl rfl rfl rfl rfl rfl rfl trivial ?_ | refine r_sto ty_3 rfl rfl rfl rfl (by assumption) rfl rfl rfl trivial ?_
  refine reg_nil ?_
  refine awp_seq ?_
  refine awp_region ?_
  refine r_callh [(0, 0), (1, 1), (2, 2)] 3 3 (fields_1 key slot gen good request backend weight 0) cb_20 rfl rfl rfl ?_ (.cons rfl (.cons rfl .nil)) rfl rfl rfl rfl trivial rfl ?_
  · (repeat (first | exact .nil | refine .cons .fv ?_ | refine .cons (.aggf' rfl) ?_ | refine .cons .nil ?_ | refine .cons (.ren rfl) ?_))
  refine r_mv rfl trivial rfl ?_
  refine r_ext rfl rfl trivial rfl ?_
  refine r_ext rfl rfl trivial rfl ?_
  refine r_as rfl trivial rfl ?_
  refine r_as rfl trivial rfl ?_
  refine reg_nil ?_
  refine awp_seq ?_
  refine awp_seq ?_
  refine awp_region ?_
  refine r_mv rfl trivial rfl ?_
  first | refine r_notd rfl trivial rfl ?_ | refine r_not rfl trivial rfl ?_
  refine reg_nil ?_
  refine awp_cond_f rfl ?_
  refine awp_skip ?_
  refine awp_seq ?_
  refine awp_seq ?_
  refine awp_region ?_
  refine r_mv rfl trivial rfl ?_
  first | refine r_lenr sl_49 rfl trivial rfl ?_ | refine r_lenw sl_49 rfl trivial rfl ?_ | refine r_len0 sl_49 rfl trivial rfl ?_
  refine r_mv rfl trivial rfl ?_
  refine reg_nil ?_
  refine awp_block ?_
  refine awp_unroll 2 ?_
  refine unr_succ ?_
  refine awp_seq ?_
  refine awp_region ?_
  refine r_lss rfl rfl trivial rfl ?_
  refine reg_nil ?_
  refine awp_seq ?_
  refine awp_cond_t rfl ?_
  refine awp_skip ?_
  refine awp_seq ?_
  refine awp_block ?_
  refine awp_seq ?_
  refine awp_region ?_
  first | refine r_ixr sl_49 ty_55 rfl rfl (by omega) (by first | exact map_get (by omega) | exact map_geti (by omega)) trivial rfl ?_ | refine r_ixw sl_49 ty_55 rfl rfl (by omega) (by omega) trivial rfl ?_
  first | refine r_lda ty_55 rfl rfl rfl rfl trivial rfl ?_ | refine r_ldra ty_55 rfl rfl rfl trivial rfl ?_ | refine r_ldoa ty_55 rfl rfl (by assumption) rfl rfl trivial rfl ?_
  refine r_alloc z_55 rfl trivial rfl ?_
  first | refine r_st ty_55 rfl rfl rfl rfl rfl rfl rfl trivial ?_ | refine r_sto ty_55 rfl rfl rfl rfl (by assumption) rfl rfl rfl trivial ?_
  refine reg_nil ?_
  refine awp_seq ?_
  refine awp_draw mix rfl ?_
  first | refine r_fld fld_55_0 rfl trivial rfl ?_ | refine r_fldr fld_55_0 rfl trivial rfl ?_
  first | refine r_ld ty_53 rfl rfl rfl trivial rfl ?_ | refine r_ldr ty_53 rfl rfl trivial rfl ?_ | refine r_ldo ty_53 rfl rfl (by assumption) rfl trivial rfl ?_
  first | refine r_nilck rfl trivial rfl ?_ | refine r_nilckr rfl trivial rfl ?_ | refine r_nilckf rfl trivial rfl ?_
  first | refine r_ld ty_3 rfl rfl rfl trivial rfl ?_ | refine r_ldr ty_3 rfl rfl trivial rfl ?_ | refine r_ldo ty_3 rfl rfl (by assumption) rfl trivial rfl ?_
  first | refine r_fld fld_55_1 rfl trivial rfl ?_ | refine r_fldr fld_55_1 rfl trivial rfl ?_
  first | refine r_ld ty_3 rfl rfl rfl trivial rfl ?_ | refine r_ldr ty_3 rfl rfl trivial rfl ?_ | refine r_ldo ty_3 rfl rfl (by assumption) rfl trivial rfl ?_
  refine r_lss rfl rfl trivial rfl ?_
  refine r_mv rfl trivial rfl ?_
  first | refine reg_split_dec 27 rfl (fun h1 => ?_) (fun h1 => ?_) | refine reg_split 27 rfl (fun h1 => ?_) (fun h1 => ?_)
  · refine r_skip ⟨_, rfl, .inl rfl⟩ rfl ?_
    refine r_skip ⟨_, rfl, .inl rfl⟩ rfl ?_
    refine r_skip ⟨_, rfl, .inl rfl⟩ rfl ?_
    refine r_skip ⟨_, rfl, .inl rfl⟩ rfl ?_
    refine r_skip ⟨_, rfl, .inl rfl⟩ rfl ?_
    refine r_skip ⟨_, rfl, .inl rfl⟩ rfl ?_
    refine r_skip ⟨_, rfl, .inl rfl⟩ rfl ?_
    refine r_pkt rfl rfl trivial rfl ?_
    refine reg_nil ⟨rfl, ?_⟩
    refine awp_cond_t rfl ?_
    refine awp_seq ?_
    refine awp_region ?_
    refine r_as rfl trivial rfl ?_
    refine reg_nil ?_
    refine awp_ret ?_
    refine fin0 (.cons (.tmp rfl) .nil) (by first | exact .fv | exact .frz rfl rfl trivial | exact .nil | exact .aggf' rfl | exact .aggf) ?_
    (simp_all [checkEv, fieldsOf, restEv] <;> omega)
  · first | refine r_fld fld_55_0 rfl ⟨_, rfl, rfl⟩ rfl ?_ | refine r_fldr fld_55_0 rfl ⟨_, rfl, rfl⟩ rfl ?_
    first | refine r_ld ty_53 rfl rfl rfl ⟨_, rfl, rfl⟩ rfl ?_ | refine r_ldr ty_53 rfl rfl ⟨_, rfl, rfl⟩ rfl ?_ | refine r_ldo ty_53 rfl rfl (by assumption) rfl ⟨_, rfl, rfl⟩ rfl ?_
    first | refine r_nilck rfl ⟨_, rfl, rfl⟩ rfl ?_ | refine r_nilckr rfl ⟨_, rfl, rfl⟩ rfl ?_ | refine r_nilckf rfl ⟨_, rfl, rfl⟩ rfl ?_
    first | refine r_ld ty_3 rfl rfl rfl ⟨_, rfl, rfl⟩ rfl ?_ | refine r_ldr ty_3 rfl rfl ⟨_, rfl, rfl⟩ rfl ?_ | refine r_ldo ty_3 rfl rfl (by assumption) rfl ⟨_, rfl, rfl⟩ rfl ?_
    first | refine r_fld fld_55_2 rfl ⟨_, rfl, rfl⟩ rfl ?_ | refine r_fldr fld_55_2 rfl ⟨_, rfl, rfl⟩ rfl ?_
    first | refine r_ld ty_3 rfl rfl rfl ⟨_, rfl, rfl⟩ rfl ?_ | refine r_ldr ty_3 rfl rfl ⟨_, rfl, rfl⟩ rfl ?_ | refine r_ldo ty_3 rfl rfl (by assumption) rfl ⟨_, rfl, rfl⟩ rfl ?_
    refine r_gtr rfl rfl ⟨_, rfl, rfl⟩ rfl ?_
    refine r_pkf rfl rfl trivial rfl ?_
    refine reg_nil ⟨rfl, ?_⟩
    first | refine awp_cond_dec rfl (fun h2 => ?_) (fun h2 => ?_) | refine awp_cond rfl (fun h2 => ?_) (fun h2 => ?_)
    · refine awp_seq ?_
      refine awp_region ?_
      refine r_as rfl trivial rfl ?_
      refine reg_nil ?_
      refine awp_ret ?_
      refine fin0 (.cons (.tmp rfl) .nil) (by first | exact .fv | exact .frz rfl rfl trivial | exact .nil | exact .aggf' rfl | exact .aggf) ?_
      (simp_all [checkEv, fieldsOf, restEv] <;> omega)
    · refine awp_skip ?_
      refine awp_region ?_
      refine r_add rfl rfl (rng64 (by omega)) trivial rfl ?_
      refine r_mv rfl trivial rfl ?_
      refine reg_nil ?_
      refine unr_succ ?_
      refine awp_seq ?_
      refine awp_region ?_
      refine r_lss rfl rfl trivial rfl ?_
      refine reg_nil ?_
      refine awp_seq ?_
      refine awp_cond_f rfl ?_
      refine awp_exit ?_
      refine awp_seq ?_
      refine awp_seq ?_
      refine awp_region ?_
      first | refine r_lda ty_37 rfl rfl rfl rfl trivial rfl ?_ | refine r_ldra ty_37 rfl rfl rfl trivial rfl ?_ | refine r_ldoa ty_37 rfl rfl (by assumption) rfl rfl trivial rfl ?_
      refine r_call (rest_1 key slot gen good request backend weight) cb_21 rfl rfl rfl ?_ trivial rfl ?_
      · (repeat (first | exact .nil | refine .cons .fv ?_ | refine .cons (.aggf' rfl) ?_ | refine .cons .nil ?_ | refine .cons (.ren rfl) ?_))
      refine r_build pl_37 z_37 rfl rfl trivial rfl ?_
      refine r_nes flat_37 (by decide) agg_37 eqg_37 rfl rfl rfl rfl rfl rfl (eqVs_ev ⟨0, 0, slot, gen, good, request, backend, weight⟩ zeroEv) trivial rfl ?_
      refine reg_nil ?_
      first | refine awp_cond_dec rfl (fun h3 => ?_) (fun h3 => ?_) | refine awp_cond rfl (fun h3 => ?_) (fun h3 => ?_)
      · refine awp_seq ?_
        refine awp_region ?_
        refine r_as rfl trivial rfl ?_
        refine reg_nil ?_
        refine awp_ret ?_
        refine fin0 (.cons (.tmp rfl) .nil) (by first | exact .fv | exact .frz rfl rfl trivial | exact .nil | exact .aggf' rfl | exact .aggf) ?_
        (simp_all [checkEv, fieldsOf, restEv] <;> omega)
      · refine awp_skip ?_
        refine awp_seq ?_
        refine awp_region ?_
        refine r_as rfl trivial rfl ?_
        refine reg_nil ?_
        refine awp_ret ?_
        refine fin0 (.cons (.tmp rfl) .nil) (by first | exact .fv | exact .frz rfl rfl trivial | exact .nil | exact .aggf' rfl | exact .aggf) ?_
        (simp_all [checkEv, fieldsOf, restEv] <;> omega)
set_option maxRecDepth 100000 in
theorem check_2 (key slot gen : Int) (good : Bool) (request backend weight : Int) : Fun Tryd.prog 11 [.agg (fvs (encEv ⟨2, key, slot, gen, good, request, backend, weight⟩))] [] [] (iA (checkEv ⟨2, key, slot, gen, good, request, backend, weight⟩)) [] := by
  refine fun_of_awp (rl := [.tmp 2]) Tryd.func11 rfl Tryd.results11 Tryd.ntmps11 0 rfl (by simp) ?_
  intro w0 own0 ρ0 F hz
  refine awp_seq ?_
  refine awp_region ?_
  refine r_box rfl rfl rfl trivial rfl ?_
  refine r_as rfl trivial rfl ?_
  refine reg_nil ?_
  refine awp_seq ?_
  refine awp_region ?_
  refine r_alloc z_3 rfl trivial rfl ?_
  first | refine r_st ty_3 rfl rfl rfl rfl rfl rfl rfl trivial ?_ | refine r_sto ty_3 rfl rfl rfl rfl (by assumption) rfl rfl rfl trivial ?_
  refine reg_nil ?_
  refine awp_seq ?_
  refine awp_region ?_
  refine r_callh [(0, 0), (1, 1), (2, 2)] 3 3 (fields_2 key slot gen good request backend weight 0) cb_20 rfl rfl rfl ?_ (.cons rfl (.cons rfl .nil)) rfl rfl rfl rfl trivial rfl ?_
  · (repeat (first | exact .nil | refine .cons .fv ?_ | refine .cons (.aggf' rfl) ?_ | refine .cons .nil ?_ | refine .cons (.ren rfl) ?_))
  refine r_mv rfl trivial rfl ?_
  refine r_ext rfl rfl trivial rfl ?_
  refine r_ext rfl rfl trivial rfl ?_
  refine r_as rfl trivial rfl ?_
  refine r_as rfl trivial rfl ?_
  refine reg_nil ?_
  refine awp_seq ?_
  refine awp_seq ?_
  refine awp_region ?_
  refine r_mv rfl trivial rfl ?_
  first | refine r_notd rfl trivial rfl ?_ | refine r_not rfl trivial rfl ?_
  refine reg_nil ?_
  refine awp_cond_f rfl ?_
  refine awp_skip ?_
  refine awp_seq ?_
  refine awp_seq ?_
  refine awp_region ?_
  refine r_mv rfl trivial rfl ?_
  first | refine r_lenr sl_49 rfl trivial rfl ?_ | refine r_lenw sl_49 rfl trivial rfl ?_ | refine r_len0 sl_49 rfl trivial rfl ?_
  refine r_mv rfl trivial rfl ?_
  refine reg_nil ?_
  refine awp_block ?_
  refine awp_unroll 3 ?_
  refine unr_succ ?_
  refine awp_seq ?_
  refine awp_region ?_
  refine r_lss rfl rfl trivial rfl ?_
  refine reg_nil ?_
  refine awp_seq ?_
  refine awp_cond_t rfl ?_
  refine awp_skip ?_
  refine awp_seq ?_
  refine awp_block ?_
  refine awp_seq ?_
  refine awp_region ?_
  first | refine r_ixr sl_49 ty_55 rfl rfl (by omega) (by first | exact map_get (by omega) | exact map_geti (by omega)) trivial rfl ?_ | refine r_ixw sl_49 ty_55 rfl rfl (by omega) (by omega) trivial rfl ?_
  first | refine r_lda ty_55 rfl rfl rfl rfl trivial rfl ?_ | refine r_ldra ty_55 rfl rfl rfl trivial rfl ?_ | refine r_ldoa ty_55 rfl rfl (by assumption) rfl rfl trivial rfl ?_
  refine r_alloc z_55 rfl trivial rfl ?_
  first | refine r_st ty_55 rfl rfl rfl rfl rfl rfl rfl trivial ?_ | refine r_sto ty_55 rfl rfl rfl rfl (by assumption) rfl rfl rfl trivial ?_
  refine reg_nil ?_
  refine awp_seq ?_
  refine awp_draw mix rfl ?_
  first | refine r_fld fld_55_0 rfl trivial rfl ?_ | refine r_fldr fld_55_0 rfl trivial rfl ?_
  first | refine r_ld ty_53 rfl rfl rfl trivial rfl ?_ | refine r_ldr ty_53 rfl rfl trivial rfl ?_ | refine r_ldo ty_53 rfl rfl (by assumption) rfl trivial rfl ?_
  first | refine r_nilck rfl trivial rfl ?_ | refine r_nilckr rfl trivial rfl ?_ | refine r_nilckf rfl trivial rfl ?_
  first | refine r_ld ty_3 rfl rfl rfl trivial rfl ?_ | refine r_ldr ty_3 rfl rfl trivial rfl ?_ | refine r_ldo ty_3 rfl rfl (by assumption) rfl trivial rfl ?_
  first | refine r_fld fld_55_1 rfl trivial rfl ?_ | refine r_fldr fld_55_1 rfl trivial rfl ?_
  first | refine r_ld ty_3 rfl rfl rfl trivial rfl ?_ | refine r_ldr ty_3 rfl rfl trivial rfl ?_ | refine r_ldo ty_3 rfl rfl (by assumption) rfl trivial rfl ?_
  refine r_lss rfl rfl trivial rfl ?_
  refine r_mv rfl trivial rfl ?_
  first | refine reg_split_dec 27 rfl (fun h1 => ?_) (fun h1 => ?_) | refine reg_split 27 rfl (fun h1 => ?_) (fun h1 => ?_)
  · refine r_skip ⟨_, rfl, .inl rfl⟩ rfl ?_
    refine r_skip ⟨_, rfl, .inl rfl⟩ rfl ?_
    refine r_skip ⟨_, rfl, .inl rfl⟩ rfl ?_
    refine r_skip ⟨_, rfl, .inl rfl⟩ rfl ?_
    refine r_skip ⟨_, rfl, .inl rfl⟩ rfl ?_
    refine r_skip ⟨_, rfl, .inl rfl⟩ rfl ?_
    refine r_skip ⟨_, rfl, .inl rfl⟩ rfl ?_
    refine r_pkt rfl rfl trivial rfl ?_
    refine reg_nil ⟨rfl, ?_⟩
    refine awp_cond_t rfl ?_
    refine awp_seq ?_
    refine awp_region ?_
    refine r_as rfl trivial rfl ?_
    refine reg_nil ?_
    refine awp_ret ?_
    refine fin0 (.cons (.tmp rfl) .nil) (by first | exact .fv | exact .frz rfl rfl trivial | exact .nil | exact .aggf' rfl | exact .aggf) ?_
    (simp_all [checkEv, fieldsOf, restEv] <;> omega)
  · first | refine r_fld fld_55_0 rfl ⟨_, rfl, rfl⟩ rfl ?_ | refine r_fldr fld_55_0 rfl ⟨_, rfl, rfl⟩ rfl ?_
    first | refine r_ld ty_53 rfl rfl rfl ⟨_, rfl, rfl⟩ rfl ?_ | refine r_ldr ty_53 rfl rfl ⟨_, rfl, rfl⟩ rfl ?_ | refine r_ldo ty_53 rfl rfl (by assumption) rfl ⟨_, rfl, rfl⟩ rfl ?_
    first | refine r_nilck rfl ⟨_, rfl, rfl⟩ rfl ?_ | refine r_nilckr rfl ⟨_, rfl, rfl⟩ rfl ?_ | refine r_nilckf rfl ⟨_, rfl, rfl⟩ rfl ?_
    first | refine r_ld ty_3 rfl rfl rfl ⟨_, rfl, rfl⟩ rfl ?_ | refine r_ldr ty_3 rfl rfl ⟨_, rfl, rfl⟩ rfl ?_ | refine r_ldo ty_3 rfl rfl (by assumption) rfl ⟨_, rfl, rfl⟩ rfl ?_
    first | refine r_fld fld_55_2 rfl ⟨_, rfl, rfl⟩ rfl ?_ | refine r_fldr fld_55_2 rfl ⟨_, rfl, rfl⟩ rfl ?_
    first | refine r_ld ty_3 rfl rfl rfl ⟨_, rfl, rfl⟩ rfl ?_ | refine r_ldr ty_3 rfl rfl ⟨_, rfl, rfl⟩ rfl ?_ | refine r_ldo ty_3 rfl rfl (by assumption) rfl ⟨_, rfl, rfl⟩ rfl ?_
    refine r_gtr rfl rfl ⟨_, rfl, rfl⟩ rfl ?_
    refine r_pkf rfl rfl trivial rfl ?_
    refine reg_nil ⟨rfl, ?_⟩
    first | refine awp_cond_dec rfl (fun h2 => ?_) (fun h2 => ?_) | refine awp_cond rfl (fun h2 => ?_) (fun h2 => ?_)
    · refine awp_seq ?_
      refine awp_region ?_
      refine r_as rfl trivial rfl ?_
      refine reg_nil ?_
      refine awp_ret ?_
      refine fin0 (.cons (.tmp rfl) .nil) (by first | exact .fv | exact .frz rfl rfl trivial | exact .nil | exact .aggf' rfl | exact .aggf) ?_
      (simp_all [checkEv, fieldsOf, restEv] <;> omega)
    · refine awp_skip ?_
      refine awp_region ?_
      refine r_add rfl rfl (rng64 (by omega)) trivial rfl ?_
      refine r_mv rfl trivial rfl ?_
      refine reg_nil ?_
      refine unr_succ ?_
      refine awp_seq ?_
      refine awp_region ?_
      refine r_lss rfl rfl trivial rfl ?_
      refine reg_nil ?_
      refine awp_seq ?_
      refine awp_cond_t rfl ?_
      refine awp_skip ?_
      refine awp_seq ?_
      refine awp_block ?_
      refine awp_seq ?_
      refine awp_region ?_
      first | refine r_ixr sl_49 ty_55 rfl rfl (by omega) (by first | exact map_get (by omega) | exact map_geti (by omega)) trivial rfl ?_ | refine r_ixw sl_49 ty_55 rfl rfl (by omega) (by omega) trivial rfl ?_
      first | refine r_lda ty_55 rfl rfl rfl rfl trivial rfl ?_ | refine r_ldra ty_55 rfl rfl rfl trivial rfl ?_ | refine r_ldoa ty_55 rfl rfl (by assumption) rfl rfl trivial rfl ?_
      refine r_alloc z_55 rfl trivial rfl ?_
      first | refine r_st ty_55 rfl rfl rfl rfl rfl rfl rfl trivial ?_ | refine r_sto ty_55 rfl rfl rfl rfl (by assumption) rfl rfl rfl trivial ?_
      refine reg_nil ?_
      refine awp_seq ?_
      refine awp_draw mix rfl ?_
      first | refine r_fld fld_55_0 rfl trivial rfl ?_ | refine r_fldr fld_55_0 rfl trivial rfl ?_
      first | refine r_ld ty_53 rfl rfl rfl trivial rfl ?_ | refine r_ldr ty_53 rfl rfl trivial rfl ?_ | refine r_ldo ty_53 rfl rfl (by assumption) rfl trivial rfl ?_
      first | refine r_nilck rfl trivial rfl ?_ | refine r_nilckr rfl trivial rfl ?_ | refine r_nilckf rfl trivial rfl ?_
      first | refine r_ld ty_3 rfl rfl rfl trivial rfl ?_ | refine r_ldr ty_3 rfl rfl trivial rfl ?_ | refine r_ldo ty_3 rfl rfl (by assumption) rfl trivial rfl ?_
      first | refine r_fld fld_55_1 rfl trivial rfl ?_ | refine r_fldr fld_55_1 rfl trivial rfl ?_
      first | refine r_ld ty_3 rfl rfl rfl trivial rfl ?_ | refine r_ldr ty_3 rfl rfl trivial rfl ?_ | refine r_ldo ty_3 rfl rfl (by assumption) rfl trivial rfl ?_
      refine r_lss rfl rfl trivial rfl ?_
      refine r_mv rfl trivial rfl ?_
      first | refine reg_split_dec 27 rfl (fun h3 => ?_) (fun h3 => ?_) | refine reg_split 27 rfl (fun h3 => ?_) (fun h3 => ?_)
      · refine r_skip ⟨_, rfl, .inl rfl⟩ rfl ?_
        refine r_skip ⟨_, rfl, .inl rfl⟩ rfl ?_
        refine r_skip ⟨_, rfl, .inl rfl⟩ rfl ?_
        refine r_skip ⟨_, rfl, .inl rfl⟩ rfl ?_
        refine r_skip ⟨_, rfl, .inl rfl⟩ rfl ?_
        refine r_skip ⟨_, rfl, .inl rfl⟩ rfl ?_
        refine r_skip ⟨_, rfl, .inl rfl⟩ rfl ?_
        refine r_pkt rfl rfl trivial rfl ?_
        refine reg_nil ⟨rfl, ?_⟩
        refine awp_cond_t rfl ?_
        refine awp_seq ?_
        refine awp_region ?_
        refine r_as rfl trivial rfl ?_
        refine reg_nil ?_
        refine awp_ret ?_
        refine fin0 (.cons (.tmp rfl) .nil) (by first | exact .fv | exact .frz rfl rfl trivial | exact .nil | exact .aggf' rfl | exact .aggf) ?_
        (simp_all [checkEv, fieldsOf, restEv] <;> omega)
      · first | refine r_fld fld_55_0 rfl ⟨_, rfl, rfl⟩ rfl ?_ | refine r_fldr fld_55_0 rfl ⟨_, rfl, rfl⟩ rfl ?_
        first | refine r_ld ty_53 rfl rfl rfl ⟨_, rfl, rfl⟩ rfl ?_ | refine r_ldr ty_53 rfl rfl ⟨_, rfl, rfl⟩ rfl ?_ | refine r_ldo ty_53 rfl rfl (by assumption) rfl ⟨_, rfl, rfl⟩ rfl ?_
        first | refine r_nilck rfl ⟨_, rfl, rfl⟩ rfl ?_ | refine r_nilckr rfl ⟨_, rfl, rfl⟩ rfl ?_ | refine r_nilckf rfl ⟨_, rfl, rfl⟩ rfl ?_
        first | refine r_ld ty_3 rfl rfl rfl ⟨_, rfl, rfl⟩ rfl ?_ | refine r_ldr ty_3 rfl rfl ⟨_, rfl, rfl⟩ rfl ?_ | refine r_ldo ty_3 rfl rfl (by assumption) rfl ⟨_, rfl, rfl⟩ rfl ?_
        first | refine r_fld fld_55_2 rfl ⟨_, rfl, rfl⟩ rfl ?_ | refine r_fldr fld_55_2 rfl ⟨_, rfl, rfl⟩ rfl ?_
        first | refine r_ld ty_3 rfl rfl rfl ⟨_, rfl, rfl⟩ rfl ?_ | refine r_ldr ty_3 rfl rfl ⟨_, rfl, rfl⟩ rfl ?_ | refine r_ldo ty_3 rfl rfl (by assumption) rfl ⟨_, rfl, rfl⟩ rfl ?_
        refine r_gtr rfl rfl ⟨_, rfl, rfl⟩ rfl ?_
        refine r_pkf rfl rfl trivial rfl ?_
        refine reg_nil ⟨rfl, ?_⟩
        first | refine awp_cond_dec rfl (fun h4 => ?_) (fun h4 => ?_) | refine awp_cond rfl (fun h4 => ?_) (fun h4 => ?_)
        · refine awp_seq ?_
          refine awp_region ?_
          refine r_as rfl trivial rfl ?_
          refine reg_nil ?_
          refine awp_ret ?_
          refine fin0 (.cons (.tmp rfl) .nil) (by first | exact .fv | exact .frz rfl rfl trivial | exact .nil | exact .aggf' rfl | exact .aggf) ?_
          (simp_all [checkEv, fieldsOf, restEv] <;> omega)
        · refine awp_skip ?_
          refine awp_region ?_
          refine r_add rfl rfl (rng64 (by omega)) trivial rfl ?_
          refine r_mv rfl trivial rfl ?_
          refine reg_nil ?_
          refine unr_succ ?_
          refine awp_seq ?_
          refine awp_region ?_
          refine r_lss rfl rfl trivial rfl ?_
          refine reg_nil ?_
          refine awp_seq ?_
          refine awp_cond_f rfl ?_
          refine awp_exit ?_
          refine awp_seq ?_
          refine awp_seq ?_
          refine awp_region ?_
          first | refine r_lda ty_37 rfl rfl rfl rfl trivial rfl ?_ | refine r_ldra ty_37 rfl rfl rfl trivial rfl ?_ | refine r_ldoa ty_37 rfl rfl (by assumption) rfl rfl trivial rfl ?_
          refine r_call (rest_2 key slot gen good request backend weight) cb_21 rfl rfl rfl ?_ trivial rfl ?_
          · (repeat (first | exact .nil | refine .cons .fv ?_ | refine .cons (.aggf' rfl) ?_ | refine .cons .nil ?_ | refine .cons (.ren rfl) ?_))
          refine r_build pl_37 z_37 rfl rfl trivial rfl ?_
          refine r_nes flat_37 (by decide) agg_37 eqg_37 rfl rfl rfl rfl rfl rfl (eqVs_ev ⟨0, key, 0, 0, good, request, backend, weight⟩ zeroEv) trivial rfl ?_
          refine reg_nil ?_
          first | refine awp_cond_dec rfl (fun h5 => ?_) (fun h5 => ?_) | refine awp_cond rfl (fun h5 => ?_) (fun h5 => ?_)
          · refine awp_seq ?_
            refine awp_region ?_
            refine r_as rfl trivial rfl ?_
            refine reg_nil ?_
            refine awp_ret ?_
            refine fin0 (.cons (.tmp rfl) .nil) (by first | exact .fv | exact .frz rfl rfl trivial | exact .nil | exact .aggf' rfl | exact .aggf) ?_
            (simp_all [checkEv, fieldsOf, restEv] <;> omega)
          · refine awp_skip ?_
            refine awp_seq ?_
            refine awp_region ?_
            refine r_as rfl trivial rfl ?_
            refine reg_nil ?_
            refine awp_ret ?_
            refine fin0 (.cons (.tmp rfl) .nil) (by first | exact .fv | exact .frz rfl rfl trivial | exact .nil | exact .aggf' rfl | exact .aggf) ?_
            (simp_all [checkEv, fieldsOf, restEv] <;> omega)
set_option maxRecDepth 100000 in
theorem check_3 (key slot gen : Int) (good : Bool) (request backend weight : Int) : Fun Tryd.prog 11 [.agg (fvs (encEv ⟨3, key, slot, gen, good, request, backend, weight⟩))] [] [] (iA (checkEv ⟨3, key, slot, gen, good, request, backend, weight⟩)) [] := by
  refine fun_of_awp (rl := [.tmp 2]) Tryd.func11 rfl Tryd.results11 Tryd.ntmps11 0 rfl (by simp) ?_
  intro w0 own0 ρ0 F hz
  refine awp_seq ?_
  refine awp_region ?_
  refine r_box rfl rfl rfl trivial rfl ?_
  refine r_as rfl trivial rfl ?_
  refine reg_nil ?_
  refine awp_seq ?_
  refine awp_region ?_
  refine r_alloc z_3 rfl trivial rfl ?_
  first | refine r_st ty_3 rfl rfl rfl rfl rfl rfl rfl trivial ?_ | refine r_sto ty_3 rfl rfl rfl rfl (by assumption) rfl rfl rfl trivial ?_
  refine reg_nil ?_
  refine awp_seq ?_
  refine awp_region ?_
  refine r_callh [(0, 0), (1, 1), (2, 2)] 3 3 (fields_3 key slot gen good request backend weight 0) cb_20 rfl rfl rfl ?_ (.cons rfl (.cons rfl .nil)) rfl rfl rfl rfl trivial rfl ?_
  · (repeat (first | exact .nil | refine .cons .fv ?_ | refine .cons (.aggf' rfl) ?_ | refine .cons .nil ?_ | refine .cons (.ren rfl) ?_))
  refine r_mv rfl trivial rfl ?_
  refine r_ext rfl rfl trivial rfl ?_
  refine r_ext rfl rfl trivial rfl ?_
  refine r_as rfl trivial rfl ?_
  refine r_as rfl trivial rfl ?_
  refine reg_nil ?_
  refine awp_seq ?_
  refine awp_seq ?_
  refine awp_region ?_
  refine r_mv rfl trivial rfl ?_
  first | refine r_notd rfl trivial rfl ?_ | refine r_not rfl trivial rfl ?_
  refine reg_nil ?_
  refine awp_cond_f rfl ?_
  refine awp_skip ?_
  refine awp_seq ?_
  refine awp_seq ?_
  refine awp_region ?_
  refine r_mv rfl trivial rfl ?_
  first | refine r_lenr sl_49 rfl trivial rfl ?_ | refine r_lenw sl_49 rfl trivial rfl ?_ | refine r_len0 sl_49 rfl trivial rfl ?_
  refine r_mv rfl trivial rfl ?_
  refine reg_nil ?_
  refine awp_block ?_
  refine awp_unroll 3 ?_
  refine unr_succ ?_
  refine awp_seq ?_
  refine awp_region ?_
  refine r_lss rfl rfl trivial rfl ?_
  refine reg_nil ?_
  refine awp_seq ?_
  refine awp_cond_t rfl ?_
  refine awp_skip ?_
  refine awp_seq ?_
  refine awp_block ?_
  refine awp_seq ?_
  refine awp_region ?_
  first | refine r_ixr sl_49 ty_55 rfl rfl (by omega) (by first | exact map_get (by omega) | exact map_geti (by omega)) trivial rfl ?_ | refine r_ixw sl_49 ty_55 rfl rfl (by omega) (by omega) trivial rfl ?_
  first | refine r_lda ty_55 rfl rfl rfl rfl trivial rfl ?_ | refine r_ldra ty_55 rfl rfl rfl trivial rfl ?_ | refine r_ldoa ty_55 rfl rfl (by assumption) rfl rfl trivial rfl ?_
  refine r_alloc z_55 rfl trivial rfl ?_
  first | refine r_st ty_55 rfl rfl rfl rfl rfl rfl rfl trivial ?_ | refine r_sto ty_55 rfl rfl rfl rfl (by assumption) rfl rfl rfl trivial ?_
  refine reg_nil ?_
  refine awp_seq ?_
  refine awp_draw mix rfl ?_
  first | refine r_fld fld_55_0 rfl trivial rfl ?_ | refine r_fldr fld_55_0 rfl trivial rfl ?_
  first | refine r_ld ty_53 rfl rfl rfl trivial rfl ?_ | refine r_ldr ty_53 rfl rfl trivial rfl ?_ | refine r_ldo ty_53 rfl rfl (by assumption) rfl trivial rfl ?_
  first | refine r_nilck rfl trivial rfl ?_ | refine r_nilckr rfl trivial rfl ?_ | refine r_nilckf rfl trivial rfl ?_
  first | refine r_ld ty_3 rfl rfl rfl trivial rfl ?_ | refine r_ldr ty_3 rfl rfl trivial rfl ?_ | refine r_ldo ty_3 rfl rfl (by assumption) rfl trivial rfl ?_
  first | refine r_fld fld_55_1 rfl trivial rfl ?_ | refine r_fldr fld_55_1 rfl trivial rfl ?_
  first | refine r_ld ty_3 rfl rfl rfl trivial rfl ?_ | refine r_ldr ty_3 rfl rfl trivial rfl ?_ | refine r_ldo ty_3 rfl rfl (by assumption) rfl trivial rfl ?_
  refine r_lss rfl rfl trivial rfl ?_
  refine r_mv rfl trivial rfl ?_
  first | refine reg_split_dec 27 rfl (fun h1 => ?_) (fun h1 => ?_) | refine reg_split 27 rfl (fun h1 => ?_) (fun h1 => ?_)
  · refine r_skip ⟨_, rfl, .inl rfl⟩ rfl ?_
    refine r_skip ⟨_, rfl, .inl rfl⟩ rfl ?_
    refine r_skip ⟨_, rfl, .inl rfl⟩ rfl ?_
    refine r_skip ⟨_, rfl, .inl rfl⟩ rfl ?_
    refine r_skip ⟨_, rfl, .inl rfl⟩ rfl ?_
    refine r_skip ⟨_, rfl, .inl rfl⟩ rfl ?_
    refine r_skip ⟨_, rfl, .inl rfl⟩ rfl ?_
    refine r_pkt rfl rfl trivial rfl ?_
    refine reg_nil ⟨rfl, ?_⟩
    refine awp_cond_t rfl ?_
    refine awp_seq ?_
    refine awp_region ?_
    refine r_as rfl trivial rfl ?_
    refine reg_nil ?_
    refine awp_ret ?_
    refine fin0 (.cons (.tmp rfl) .nil) (by first | exact .fv | exact .frz rfl rfl trivial | exact .nil | exact .aggf' rfl | exact .aggf) ?_
    (simp_all [checkEv, fieldsOf, restEv] <;> omega)
  · first | refine r_fld fld_55_0 rfl ⟨_, rfl, rfl⟩ rfl ?_ | refine r_fldr fld_55_0 rfl ⟨_, rfl, rfl⟩ rfl ?_
    first | refine r_ld ty_53 rfl rfl rfl ⟨_, rfl, rfl⟩ rfl ?_ | refine r_ldr ty_53 rfl rfl ⟨_, rfl, rfl⟩ rfl ?_ | refine r_ldo ty_53 rfl rfl (by assumption) rfl ⟨_, rfl, rfl⟩ rfl ?_
    first | refine r_nilck rfl ⟨_, rfl, rfl⟩ rfl ?_ | refine r_nilckr rfl ⟨_, rfl, rfl⟩ rfl ?_ | refine r_nilckf rfl ⟨_, rfl, rfl⟩ rfl ?_
    first | refine r_ld ty_3 rfl rfl rfl ⟨_, rfl, rfl⟩ rfl ?_ | refine r_ldr ty_3 rfl rfl ⟨_, rfl, rfl⟩ rfl ?_ | refine r_ldo ty_3 rfl rfl (by assumption) rfl ⟨_, rfl, rfl⟩ rfl ?_
    first | refine r_fld fld_55_2 rfl ⟨_, rfl, rfl⟩ rfl ?_ | refine r_fldr fld_55_2 rfl ⟨_, rfl, rfl⟩ rfl ?_
    first | refine r_ld ty_3 rfl rfl rfl ⟨_, rfl, rfl⟩ rfl ?_ | refine r_ldr ty_3 rfl rfl ⟨_, rfl, rfl⟩ rfl ?_ | refine r_ldo ty_3 rfl rfl (by assumption) rfl ⟨_, rfl, rfl⟩ rfl ?_
    refine r_gtr rfl rfl ⟨_, rfl, rfl⟩ rfl ?_
    refine r_pkf rfl rfl trivial rfl ?_
    refine reg_nil ⟨rfl, ?_⟩
    first | refine awp_cond_dec rfl (fun h2 => ?_) (fun h2 => ?_) | refine awp_cond rfl (fun h2 => ?_) (fun h2 => ?_)
    · refine awp_seq ?_
      refine awp_region ?_
      refine r_as rfl trivial rfl ?_
      refine reg_nil ?_
      refine awp_ret ?_
      refine fin0 (.cons (.tmp rfl) .nil) (by first | exact .fv | exact .frz rfl rfl trivial | exact .nil | exact .aggf' rfl | exact .aggf) ?_
      (simp_all [checkEv, fieldsOf, restEv] <;> omega)
    · refine awp_skip ?_
      refine awp_region ?_
      refine r_add rfl rfl (rng64 (by omega)) trivial rfl ?_
      refine r_mv rfl trivial rfl ?_
      refine reg_nil ?_
      refine unr_succ ?_
      refine awp_seq ?_
      refine awp_region ?_
      refine r_lss rfl rfl trivial rfl ?_
      refine reg_nil ?_
      refine awp_seq ?_
      refine awp_cond_t rfl ?_
      refine awp_skip ?_
      refine awp_seq ?_
      refine awp_block ?_
      refine awp_seq ?_
      refine awp_region ?_
      first | refine r_ixr sl_49 ty_55 rfl rfl (by omega) (by first | exact map_get (by omega) | exact map_geti (by omega)) trivial rfl ?_ | refine r_ixw sl_49 ty_55 rfl rfl (by omega) (by omega) trivial rfl ?_
      first | refine r_lda ty_55 rfl rfl rfl rfl trivial rfl ?_ | refine r_ldra ty_55 rfl rfl rfl trivial rfl ?_ | refine r_ldoa ty_55 rfl rfl (by assumption) rfl rfl trivial rfl ?_
      refine r_alloc z_55 rfl trivial rfl ?_
      first | refine r_st ty_55 rfl rfl rfl rfl rfl rfl rfl trivial ?_ | refine r_sto ty_55 rfl rfl rfl rfl (by assumption) rfl rfl rfl trivial ?_
      refine reg_nil ?_
      refine awp_seq ?_
      refine awp_draw mix rfl ?_
      first | refine r_fld fld_55_0 rfl trivial rfl ?_ | refine r_fldr fld_55_0 rfl trivial rfl ?_
      first | refine r_ld ty_53 rfl rfl rfl trivial rfl ?_ | refine r_ldr ty_53 rfl rfl trivial rfl ?_ | refine r_ldo ty_53 rfl rfl (by assumption) rfl trivial rfl ?_
      first | refine r_nilck rfl trivial rfl ?_ | refine r_nilckr rfl trivial rfl ?_ | refine r_nilckf rfl trivial rfl ?_
      first | refine r_ld ty_3 rfl rfl rfl trivial rfl ?_ | refine r_ldr ty_3 rfl rfl trivial rfl ?_ | refine r_ldo ty_3 rfl rfl (by assumption) rfl trivial rfl ?_
      first | refine r_fld fld_55_1 rfl trivial rfl ?_ | refine r_fldr fld_55_1 rfl trivial rfl ?_
      first | refine r_ld ty_3 rfl rfl rfl trivial rfl ?_ | refine r_ldr ty_3 rfl rfl trivial rfl ?_ | refine r_ldo ty_3 rfl rfl (by assumption) rfl trivial rfl ?_
      refine r_lss rfl rfl trivial rfl ?_
      refine r_mv rfl trivial rfl ?_
      first | refine reg_split_dec 27 rfl (fun h3 => ?_) (fun h3 => ?_) | refine reg_split 27 rfl (fun h3 => ?_) (fun h3 => ?_)
      · refine r_skip ⟨_, rfl, .inl rfl⟩ rfl ?_
        refine r_skip ⟨_, rfl, .inl rfl⟩ rfl ?_
        refine r_skip ⟨_, rfl, .inl rfl⟩ rfl ?_
        refine r_skip ⟨_, rfl, .inl rfl⟩ rfl ?_
        refine r_skip ⟨_, rfl, .inl rfl⟩ rfl ?_
        refine r_skip ⟨_, rfl, .inl rfl⟩ rfl ?_
        refine r_skip ⟨_, rfl, .inl rfl⟩ rfl ?_
        refine r_pkt rfl rfl trivial rfl ?_
        refine reg_nil ⟨rfl, ?_⟩
        refine awp_cond_t rfl ?_
        refine awp_seq ?_
        refine awp_region ?_
        refine r_as rfl trivial rfl ?_
        refine reg_nil ?_
        refine awp_ret ?_
        refine fin0 (.cons (.tmp rfl) .nil) (by first | exact .fv | exact .frz rfl rfl trivial | exact .nil | exact .aggf' rfl | exact .aggf) ?_
        (simp_all [checkEv, fieldsOf, restEv] <;> omega)
      · first | refine r_fld fld_55_0 rfl ⟨_, rfl, rfl⟩ rfl ?_ | refine r_fldr fld_55_0 rfl ⟨_, rfl, rfl⟩ rfl ?_
        first | refine r_ld ty_53 rfl rfl rfl ⟨_, rfl, rfl⟩ rfl ?_ | refine r_ldr ty_53 rfl rfl ⟨_, rfl, rfl⟩ rfl ?_ | refine r_ldo ty_53 rfl rfl (by assumption) rfl ⟨_, rfl, rfl⟩ rfl ?_
        first | refine r_nilck rfl ⟨_, rfl, rfl⟩ rfl ?_ | refine r_nilckr rfl ⟨_, rfl, rfl⟩ rfl ?_ | refine r_nilckf rfl ⟨_, rfl, rfl⟩ rfl ?_
        first | refine r_ld ty_3 rfl rfl rfl ⟨_, rfl, rfl⟩ rfl ?_ | refine r_ldr ty_3 rfl rfl ⟨_, rfl, rfl⟩ rfl ?_ | refine r_ldo ty_3 rfl rfl (by assumption) rfl ⟨_, rfl, rfl⟩ rfl ?_
        first | refine r_fld fld_55_2 rfl ⟨_, rfl, rfl⟩ rfl ?_ | refine r_fldr fld_55_2 rfl ⟨_, rfl, rfl⟩ rfl ?_
        first | refine r_ld ty_3 rfl rfl rfl ⟨_, rfl, rfl⟩ rfl ?_ | refine r_ldr ty_3 rfl rfl ⟨_, rfl, rfl⟩ rfl ?_ | refine r_ldo ty_3 rfl rfl (by assumption) rfl ⟨_, rfl, rfl⟩ rfl ?_
        refine r_gtr rfl rfl ⟨_, rfl, rfl⟩ rfl ?_
        refine r_pkf rfl rfl trivial rfl ?_
        refine reg_nil ⟨rfl, ?_⟩
        first | refine awp_cond_dec rfl (fun h4 => ?_) (fun h4 => ?_) | refine awp_cond rfl (fun h4 => ?_) (fun h4 => ?_)
        · refine awp_seq ?_
          refine awp_region ?_
          refine r_as rfl trivial rfl ?_
          refine reg_nil ?_
          refine awp_ret ?_
          refine fin0 (.cons (.tmp rfl) .nil) (by first | exact .fv | exact .frz rfl rfl trivial | exact .nil | exact .aggf' rfl | exact .aggf) ?_
          (simp_all [checkEv, fieldsOf, restEv] <;> omega)
        · refine awp_skip ?_
          refine awp_region ?_
          refine r_add rfl rfl (rng64 (by omega)) trivial rfl ?_
          refine r_mv rfl trivial rfl ?_
          refine reg_nil ?_
          refine unr_succ ?_
          refine awp_seq ?_
          refine awp_region ?_
          refine r_lss rfl rfl trivial rfl ?_
          refine reg_nil ?_
          refine awp_seq ?_
          refine awp_cond_f rfl ?_
          refine awp_exit ?_
          refine awp_seq ?_
          refine awp_seq ?_
          refine awp_region ?_
          first | refine r_lda ty_37 rfl rfl rfl rfl trivial rfl ?_ | refine r_ldra ty_37 rfl rfl rfl trivial rfl ?_ | refine r_ldoa ty_37 rfl rfl (by assumption) rfl rfl trivial rfl ?_
          refine r_call (rest_3 key slot gen good request backend weight) cb_21 rfl rfl rfl ?_ trivial rfl ?_
          · (repeat (first | exact .nil | refine .cons .fv ?_ | refine .cons (.aggf' rfl) ?_ | refine .cons .nil ?_ | refine .cons (.ren rfl) ?_))
          refine r_build pl_37 z_37 rfl rfl trivial rfl ?_
          refine r_nes flat_37 (by decide) agg_37 eqg_37 rfl rfl rfl rfl rfl rfl (eqVs_ev ⟨0, key, 0, 0, good, request, backend, weight⟩ zeroEv) trivial rfl ?_
          refine reg_nil ?_
          first | refine awp_cond_dec rfl (fun h5 => ?_) (fun h5 => ?_) | refine awp_cond rfl (fun h5 => ?_) (fun h5 => ?_)
          · refine awp_seq ?_
            refine awp_region ?_
            refine r_as rfl trivial rfl ?_
            refine reg_nil ?_
            refine awp_ret ?_
            refine fin0 (.cons (.tmp rfl) .nil) (by first | exact .fv | exact .frz rfl rfl trivial | exact .nil | exact .aggf' rfl | exact .aggf) ?_
            (simp_all [checkEv, fieldsOf, restEv] <;> omega)
          · refine awp_skip ?_
            refine awp_seq ?_
            refine awp_region ?_
            refine r_as rfl trivial rfl ?_
            refine reg_nil ?_
            refine awp_ret ?_
            refine fin0 (.cons (.tmp rfl) .nil) (by first | exact .fv | exact .frz rfl rfl trivial | exact .nil | exact .aggf' rfl | exact .aggf) ?_
            (simp_all [checkEv, fieldsOf, restEv] <;> omega)
set_option maxRecDepth 100000 in
theorem check_4 (key slot gen : Int) (good : Bool) (request backend weight : Int) : Fun Tryd.prog 11 [.agg (fvs (encEv ⟨4, key, slot, gen, good, request, backend, weight⟩))] [] [] (iA (checkEv ⟨4, key, slot, gen, good, request, backend, weight⟩)) [] := by
  refine fun_of_awp (rl := [.tmp 2]) Tryd.func11 rfl Tryd.results11 Tryd.ntmps11 0 rfl (by simp) ?_
  intro w0 own0 ρ0 F hz
  refine awp_seq ?_
  refine awp_region ?_
  refine r_box rfl rfl rfl trivial rfl ?_
  refine r_as rfl trivial rfl ?_
  refine reg_nil ?_
  refine awp_seq ?_
  refine awp_region ?_
  refine r_alloc z_3 rfl trivial rfl ?_
  first | refine r_st ty_3 rfl rfl rfl rfl rfl rfl rfl trivial ?_ | refine r_sto ty_3 rfl rfl rfl rfl (by assumption) rfl rfl rfl trivial ?_
  refine reg_nil ?_
  refine awp_seq ?_
  refine awp_region ?_
  refine r_callh [(0, 0), (1, 1), (2, 2)] 3 3 (fields_4 key slot gen good request backend weight 0) cb_20 rfl rfl rfl ?_ (.cons rfl (.cons rfl .nil)) rfl rfl rfl rfl trivial rfl ?_
  · (repeat (first | exact .nil | refine .cons .fv ?_ | refine .cons (.aggf' rfl) ?_ | refine .cons .nil ?_ | refine .cons (.ren rfl) ?_))
  refine r_mv rfl trivial rfl ?_
  refine r_ext rfl rfl trivial rfl ?_
  refine r_ext rfl rfl trivial rfl ?_
  refine r_as rfl trivial rfl ?_
  refine r_as rfl trivial rfl ?_
  refine reg_nil ?_
  refine awp_seq ?_
  refine awp_seq ?_
  refine awp_region ?_
  refine r_mv rfl trivial rfl ?_
  first | refine r_notd rfl trivial rfl ?_ | refine r_not rfl trivial rfl ?_
  refine reg_nil ?_
  refine awp_cond_f rfl ?_
  refine awp_skip ?_
  refine awp_seq ?_
  refine awp_seq ?_
  refine awp_region ?_
  refine r_mv rfl trivial rfl ?_
  first | refine r_lenr sl_49 rfl trivial rfl ?_ | refine r_lenw sl_49 rfl trivial rfl ?_ | refine r_len0 sl_49 rfl trivial rfl ?_
  refine r_mv rfl trivial rfl ?_
  refine reg_nil ?_
  refine awp_block ?_
  refine awp_unroll 4 ?_
  refine unr_succ ?_
  refine awp_seq ?_
  refine awp_region ?_
  refine r_lss rfl rfl trivial rfl ?_
  refine reg_nil ?_
  refine awp_seq ?_
  refine awp_cond_t rfl ?_
  refine awp_skip ?_
  refine awp_seq ?_
  refine awp_block ?_
  refine awp_seq ?_
  refine awp_region ?_
  first | refine r_ixr sl_49 ty_55 rfl rfl (by omega) (by first | exact map_get (by omega) | exact map_geti (by omega)) trivial rfl ?_ | refine r_ixw sl_49 ty_55 rfl rfl (by omega) (by omega) trivial rfl ?_
  first | refine r_lda ty_55 rfl rfl rfl rfl trivial rfl ?_ | refine r_ldra ty_55 rfl rfl rfl trivial rfl ?_ | refine r_ldoa ty_55 rfl rfl (by assumption) rfl rfl trivial rfl ?_
  refine r_alloc z_55 rfl trivial rfl ?_
  first | refine r_st ty_55 rfl rfl rfl rfl rfl rfl rfl trivial ?_ | refine r_sto ty_55 rfl rfl rfl rfl (by assumption) rfl rfl rfl trivial ?_
  refine reg_nil ?_
  refine awp_seq ?_
  refine awp_draw mix rfl ?_
  first | refine r_fld fld_55_0 rfl trivial rfl ?_ | refine r_fldr fld_55_0 rfl trivial rfl ?_
  first | refine r_ld ty_53 rfl rfl rfl trivial rfl ?_ | refine r_ldr ty_53 rfl rfl trivial rfl ?_ | refine r_ldo ty_53 rfl rfl (by assumption) rfl trivial rfl ?_
  first | refine r_nilck rfl trivial rfl ?_ | refine r_nilckr rfl trivial rfl ?_ | refine r_nilckf rfl trivial rfl ?_
  first | refine r_ld ty_3 rfl rfl rfl trivial rfl ?_ | refine r_ldr ty_3 rfl rfl trivial rfl ?_ | refine r_ldo ty_3 rfl rfl (by assumption) rfl trivial rfl ?_
  first | refine r_fld fld_55_1 rfl trivial rfl ?_ | refine r_fldr fld_55_1 rfl trivial rfl ?_
  first | refine r_ld ty_3 rfl rfl rfl trivial rfl ?_ | refine r_ldr ty_3 rfl rfl trivial rfl ?_ | refine r_ldo ty_3 rfl rfl (by assumption) rfl trivial rfl ?_
  refine r_lss rfl rfl trivial rfl ?_
  refine r_mv rfl trivial rfl ?_
  first | refine reg_split_dec 27 rfl (fun h1 => ?_) (fun h1 => ?_) | refine reg_split 27 rfl (fun h1 => ?_) (fun h1 => ?_)
  · refine r_skip ⟨_, rfl, .inl rfl⟩ rfl ?_
    refine r_skip ⟨_, rfl, .inl rfl⟩ rfl ?_
    refine r_skip ⟨_, rfl, .inl rfl⟩ rfl ?_
    refine r_skip ⟨_, rfl, .inl rfl⟩ rfl ?_
    refine r_skip ⟨_, rfl, .inl rfl⟩ rfl ?_
    refine r_skip ⟨_, rfl, .inl rfl⟩ rfl ?_
    refine r_skip ⟨_, rfl, .inl rfl⟩ rfl ?_
    refine r_pkt rfl rfl trivial rfl ?_
    refine reg_nil ⟨rfl, ?_⟩
    refine awp_cond_t rfl ?_
    refine awp_seq ?_
    refine awp_region ?_
    refine r_as rfl trivial rfl ?_
    refine reg_nil ?_
    refine awp_ret ?_
    refine fin0 (.cons (.tmp rfl) .nil) (by first | exact .fv | exact .frz rfl rfl trivial | exact .nil | exact .aggf' rfl | exact .aggf) ?_
    (simp_all [checkEv, fieldsOf, restEv] <;> omega)
  · first | refine r_fld fld_55_0 rfl ⟨_, rfl, rfl⟩ rfl ?_ | refine r_fldr fld_55_0 rfl ⟨_, rfl, rfl⟩ rfl ?_
    first | refine r_ld ty_53 rfl rfl rfl ⟨_, rfl, rfl⟩ rfl ?_ | refine r_ldr ty_53 rfl rfl ⟨_, rfl, rfl⟩ rfl ?_ | refine r_ldo ty_53 rfl rfl (by assumption) rfl ⟨_, rfl, rfl⟩ rfl ?_
    first | refine r_nilck rfl ⟨_, rfl, rfl⟩ rfl ?_ | refine r_nilckr rfl ⟨_, rfl, rfl⟩ rfl ?_ | refine r_nilckf rfl ⟨_, rfl, rfl⟩ rfl ?_
    first | refine r_ld ty_3 rfl rfl rfl ⟨_, rfl, rfl⟩ rfl ?_ | refine r_ldr ty_3 rfl rfl ⟨_, rfl, rfl⟩ rfl ?_ | refine r_ldo ty_3 rfl rfl (by assumption) rfl ⟨_, rfl, rfl⟩ rfl ?_
    first | refine r_fld fld_55_2 rfl ⟨_, rfl, rfl⟩ rfl ?_ | refine r_fldr fld_55_2 rfl ⟨_, rfl, rfl⟩ rfl ?_
    first | refine r_ld ty_3 rfl rfl rfl ⟨_, rfl, rfl⟩ rfl ?_ | refine r_ldr ty_3 rfl rfl ⟨_, rfl, rfl⟩ rfl ?_ | refine r_ldo ty_3 rfl rfl (by assumption) rfl ⟨_, rfl, rfl⟩ rfl ?_
    refine r_gtr rfl rfl ⟨_, rfl, rfl⟩ rfl ?_
    refine r_pkf rfl rfl trivial rfl ?_
    refine reg_nil ⟨rfl, ?_⟩
    first | refine awp_cond_dec rfl (fun h2 => ?_) (fun h2 => ?_) | refine awp_cond rfl (fun h2 => ?_) (fun h2 => ?_)
    · refine awp_seq ?_
      refine awp_region ?_
      refine r_as rfl trivial rfl ?_
      refine reg_nil ?_
      refine awp_ret ?_
      refine fin0 (.cons (.tmp rfl) .nil) (by first | exact .fv | exact .frz rfl rfl trivial | exact .nil | exact .aggf' rfl | exact .aggf) ?_
      (simp_all [checkEv, fieldsOf, restEv] <;> omega)
    · refine awp_skip ?_
      refine awp_region ?_
      refine r_add rfl rfl (rng64 (by omega)) trivial rfl ?_
      refine r_mv rfl trivial rfl ?_
      refine reg_nil ?_
      refine unr_succ ?_
      refine awp_seq ?_
      refine awp_region ?_
      refine r_lss rfl rfl trivial rfl ?_
      refine reg_nil ?_
      refine awp_seq ?_
      refine awp_cond_t rfl ?_
      refine awp_skip ?_
      refine awp_seq ?_
      refine awp_block ?_
      refine awp_seq ?_
      refine awp_region ?_
      first | refine r_ixr sl_49 ty_55 rfl rfl (by omega) (by first | exact map_get (by omega) | exact map_geti (by omega)) trivial rfl ?_ | refine r_ixw sl_49 ty_55 rfl rfl (by omega) (by omega) trivial rfl ?_
      first | refine r_lda ty_55 rfl rfl rfl rfl trivial rfl ?_ | refine r_ldra ty_55 rfl rfl rfl trivial rfl ?_ | refine r_ldoa ty_55 rfl rfl (by assumption) rfl rfl trivial rfl ?_
      refine r_alloc z_55 rfl trivial rfl ?_
      first | refine r_st ty_55 rfl rfl rfl rfl rfl rfl rfl trivial ?_ | refine r_sto ty_55 rfl rfl rfl rfl (by assumption) rfl rfl rfl trivial ?_
      refine reg_nil ?_
      refine awp_seq ?_
      refine awp_draw mix rfl ?_
      first | refine r_fld fld_55_0 rfl trivial rfl ?_ | refine r_fldr fld_55_0 rfl trivial rfl ?_
      first | refine r_ld ty_53 rfl rfl rfl trivial rfl ?_ | refine r_ldr ty_53 rfl rfl trivial rfl ?_ | refine r_ldo ty_53 rfl rfl (by assumption) rfl trivial rfl ?_
      first | refine r_nilck rfl trivial rfl ?_ | refine r_nilckr rfl trivial rfl ?_ | refine r_nilckf rfl trivial rfl ?_
      first | refine r_ld ty_3 rfl rfl rfl trivial rfl ?_ | refine r_ldr ty_3 rfl rfl trivial rfl ?_ | refine r_ldo ty_3 rfl rfl (by assumption) rfl trivial rfl ?_
      first | refine r_fld fld_55_1 rfl trivial rfl ?_ | refine r_fldr fld_55_1 rfl trivial rfl ?_
      first | refine r_ld ty_3 rfl rfl rfl trivial rfl ?_ | refine r_ldr ty_3 rfl rfl trivial rfl ?_ | refine r_ldo ty_3 rfl rfl (by assumption) rfl trivial rfl ?_
      refine r_lss rfl rfl trivial rfl ?_
      refine r_mv rfl trivial rfl ?_
      first | refine reg_split_dec 27 rfl (fun h3 => ?_) (fun h3 => ?_) | refine reg_split 27 rfl (fun h3 => ?_) (fun h3 => ?_)
      · refine r_skip ⟨_, rfl, .inl rfl⟩ rfl ?_
        refine r_skip ⟨_, rfl, .inl rfl⟩ rfl ?_
        refine r_skip ⟨_, rfl, .inl rfl⟩ rfl ?_
        refine r_skip ⟨_, rfl, .inl rfl⟩ rfl ?_
        refine r_skip ⟨_, rfl, .inl rfl⟩ rfl ?_
        refine r_skip ⟨_, rfl, .inl rfl⟩ rfl ?_
        refine r_skip ⟨_, rfl, .inl rfl⟩ rfl ?_
        refine r_pkt rfl rfl trivial rfl ?_
        refine reg_nil ⟨rfl, ?_⟩
        refine awp_cond_t rfl ?_
        refine awp_seq ?_
        refine awp_region ?_
        refine r_as rfl trivial rfl ?_
        refine reg_nil ?_
        refine awp_ret ?_
        refine fin0 (.cons (.tmp rfl) .nil) (by first | exact .fv | exact .frz rfl rfl trivial | exact .nil | exact .aggf' rfl | exact .aggf) ?_
        (simp_all [checkEv, fieldsOf, restEv] <;> omega)
      · first | refine r_fld fld_55_0 rfl ⟨_, rfl, rfl⟩ rfl ?_ | refine r_fldr fld_55_0 rfl ⟨_, rfl, rfl⟩ rfl ?_
        first | refine r_ld ty_53 rfl rfl rfl ⟨_, rfl, rfl⟩ rfl ?_ | refine r_ldr ty_53 rfl rfl ⟨_, rfl, rfl⟩ rfl ?_ | refine r_ldo ty_53 rfl rfl (by assumption) rfl ⟨_, rfl, rfl⟩ rfl ?_
        first | refine r_nilck rfl ⟨_, rfl, rfl⟩ rfl ?_ | refine r_nilckr rfl ⟨_, rfl, rfl⟩ rfl ?_ | refine r_nilckf rfl ⟨_, rfl, rfl⟩ rfl ?_
        first | refine r_ld ty_3 rfl rfl rfl ⟨_, rfl, rfl⟩ rfl ?_ | refine r_ldr ty_3 rfl rfl ⟨_, rfl, rfl⟩ rfl ?_ | refine r_ldo ty_3 rfl rfl (by assumption) rfl ⟨_, rfl, rfl⟩ rfl ?_
        first | refine r_fld fld_55_2 rfl ⟨_, rfl, rfl⟩ rfl ?_ | refine r_fldr fld_55_2 rfl ⟨_, rfl, rfl⟩ rfl ?_
        first | refine r_ld ty_3 rfl rfl rfl ⟨_, rfl, rfl⟩ rfl ?_ | refine r_ldr ty_3 rfl rfl ⟨_, rfl, rfl⟩ rfl ?_ | refine r_ldo ty_3 rfl rfl (by assumption) rfl ⟨_, rfl, rfl⟩ rfl ?_
        refine r_gtr rfl rfl ⟨_, rfl, rfl⟩ rfl ?_
        refine r_pkf rfl rfl trivial rfl ?_
        refine reg_nil ⟨rfl, ?_⟩
        first | refine awp_cond_dec rfl (fun h4 => ?_) (fun h4 => ?_) | refine awp_cond rfl (fun h4 => ?_) (fun h4 => ?_)
        · refine awp_seq ?_
          refine awp_region ?_
          refine r_as rfl trivial rfl ?_
          refine reg_nil ?_
          refine awp_ret ?_
          refine fin0 (.cons (.tmp rfl) .nil) (by first | exact .fv | exact .frz rfl rfl trivial | exact .nil | exact .aggf' rfl | exact .aggf) ?_
          (simp_all [checkEv, fieldsOf, restEv] <;> omega)
        · refine awp_skip ?_
          refine awp_region ?_
          refine r_add rfl rfl (rng64 (by omega)) trivial rfl ?_
          refine r_mv rfl trivial rfl ?_
          refine reg_nil ?_
          refine unr_succ ?_
          refine awp_seq ?_
          refine awp_region ?_
          refine r_lss rfl rfl trivial rfl ?_
          refine reg_nil ?_
          refine awp_seq ?_
          refine awp_cond_t rfl ?_
          refine awp_skip ?_
          refine awp_seq ?_
          refine awp_block ?_
          refine awp_seq ?_
          refine awp_region ?_
          first | refine r_ixr sl_49 ty_55 rfl rfl (by omega) (by first | exact map_get (by omega) | exact map_geti (by omega)) trivial rfl ?_ | refine r_ixw sl_49 ty_55 rfl rfl (by omega) (by omega) trivial rfl ?_
          first | refine r_lda ty_55 rfl rfl rfl rfl trivial rfl ?_ | refine r_ldra ty_55 rfl rfl rfl trivial rfl ?_ | refine r_ldoa ty_55 rfl rfl (by assumption) rfl rfl trivial rfl ?_
          refine r_alloc z_55 rfl trivial rfl ?_
          first | refine r_st ty_55 rfl rfl rfl rfl rfl rfl rfl trivial ?_ | refine r_sto ty_55 rfl rfl rfl rfl (by assumption) rfl rfl rfl trivial ?_
          refine reg_nil ?_
          refine awp_seq ?_
          refine awp_draw mix rfl ?_
          first | refine r_fld fld_55_0 rfl trivial rfl ?_ | refine r_fldr fld_55_0 rfl trivial rfl ?_
          first | refine r_ld ty_53 rfl rfl rfl trivial rfl ?_ | refine r_ldr ty_53 rfl rfl trivial rfl ?_ | refine r_ldo ty_53 rfl rfl (by assumption) rfl trivial rfl ?_
          first | refine r_nilck rfl trivial rfl ?_ | refine r_nilckr rfl trivial rfl ?_ | refine r_nilckf rfl trivial rfl ?_
          first | refine r_ld ty_3 rfl rfl rfl trivial rfl ?_ | refine r_ldr ty_3 rfl rfl trivial rfl ?_ | refine r_ldo ty_3 rfl rfl (by assumption) rfl trivial rfl ?_
          first | refine r_fld fld_55_1 rfl trivial rfl ?_ | refine r_fldr fld_55_1 rfl trivial rfl ?_
          first | refine r_ld ty_3 rfl rfl rfl trivial rfl ?_ | refine r_ldr ty_3 rfl rfl trivial rfl ?_ | refine r_ldo ty_3 rfl rfl (by assumption) rfl trivial rfl ?_
          refine r_lss rfl rfl trivial rfl ?_
          refine r_mv rfl trivial rfl ?_
          first | refine reg_split_dec 27 rfl (fun h5 => ?_) (fun h5 => ?_) | refine reg_split 27 rfl (fun h5 => ?_) (fun h5 => ?_)
          · refine r_skip ⟨_, rfl, .inl rfl⟩ rfl ?_
            refine r_skip ⟨_, rfl, .inl rfl⟩ rfl ?_
            refine r_skip ⟨_, rfl, .inl rfl⟩ rfl ?_
            refine r_skip ⟨_, rfl, .inl rfl⟩ rfl ?_
            refine r_skip ⟨_, rfl, .inl rfl⟩ rfl ?_
            refine r_skip ⟨_, rfl, .inl rfl⟩ rfl ?_
            refine r_skip ⟨_, rfl, .inl rfl⟩ rfl ?_
            refine r_pkt rfl rfl trivial rfl ?_
            refine reg_nil ⟨rfl, ?_⟩
            refine awp_cond_t rfl ?_
            refine awp_seq ?_
            refine awp_region ?_
            refine r_as rfl trivial rfl ?_
            refine reg_nil ?_
            refine awp_ret ?_
            refine fin0 (.cons (.tmp rfl) .nil) (by first | exact .fv | exact .frz rfl rfl trivial | exact .nil | exact .aggf' rfl | exact .aggf) ?_
            (simp_all [checkEv, fieldsOf, restEv] <;> omega)
          · first | refine r_fld fld_55_0 rfl ⟨_, rfl, rfl⟩ rfl ?_ | refine r_fldr fld_55_0 rfl ⟨_, rfl, rfl⟩ rfl ?_
            first | refine r_ld ty_53 rfl rfl rfl ⟨_, rfl, rfl⟩ rfl ?_ | refine r_ldr ty_53 rfl rfl ⟨_, rfl, rfl⟩ rfl ?_ | refine r_ldo ty_53 rfl rfl (by assumption) rfl ⟨_, rfl, rfl⟩ rfl ?_
            first | refine r_nilck rfl ⟨_, rfl, rfl⟩ rfl ?_ | refine r_nilckr rfl ⟨_, rfl, rfl⟩ rfl ?_ | refine r_nilckf rfl ⟨_, rfl, rfl⟩ rfl ?_
            first | refine r_ld ty_3 rfl rfl rfl ⟨_, rfl, rfl⟩ rfl ?_ | refine r_ldr ty_3 rfl rfl ⟨_, rfl, rfl⟩ rfl ?_ | refine r_ldo ty_3 rfl rfl (by assumption) rfl ⟨_, rfl, rfl⟩ rfl ?_
            first | refine r_fld fld_55_2 rfl ⟨_, rfl, rfl⟩ rfl ?_ | refine r_fldr fld_55_2 rfl ⟨_, rfl, rfl⟩ rfl ?_
            first | refine r_ld ty_3 rfl rfl rfl ⟨_, rfl, rfl⟩ rfl ?_ | refine r_ldr ty_3 rfl rfl ⟨_, rfl, rfl⟩ rfl ?_ | refine r_ldo ty_3 rfl rfl (by assumption) rfl ⟨_, rfl, rfl⟩ rfl ?_
            refine r_gtr rfl rfl ⟨_, rfl, rfl⟩ rfl ?_
            refine r_pkf rfl rfl trivial rfl ?_
            refine reg_nil ⟨rfl, ?_⟩
            first | refine awp_cond_dec rfl (fun h6 => ?_) (fun h6 => ?_) | refine awp_cond rfl (fun h6 => ?_) (fun h6 => ?_)
            · refine awp_seq ?_
              refine awp_region ?_
              refine r_as rfl trivial rfl ?_
              refine reg_nil ?_
              refine awp_ret ?_
              refine fin0 (.cons (.tmp rfl) .nil) (by first | exact .fv | exact .frz rfl rfl trivial | exact .nil | exact .aggf' rfl | exact .aggf) ?_
              (simp_all [checkEv, fieldsOf, restEv] <;> omega)
            · refine awp_skip ?_
              refine awp_region ?_
              refine r_add rfl rfl (rng64 (by omega)) trivial rfl ?_
              refine r_mv rfl trivial rfl ?_
              refine reg_nil ?_
              refine unr_succ ?_
              refine awp_seq ?_
              refine awp_region ?_
              refine r_lss rfl rfl trivial rfl ?_
              refine reg_nil ?_
              refine awp_seq ?_
              refine awp_cond_f rfl ?_
              refine awp_exit ?_
              refine awp_seq ?_
              refine awp_seq ?_
              refine awp_region ?_
              first | refine r_lda ty_37 rfl rfl rfl rfl trivial rfl ?_ | refine r_ldra ty_37 rfl rfl rfl trivial rfl ?_ | refine r_ldoa ty_37 rfl rfl (by assumption) rfl rfl trivial rfl ?_
              refine r_call (rest_4 key slot gen good request backend weight) cb_21 rfl rfl rfl ?_ trivial rfl ?_
              · (repeat (first | exact .nil | refine .cons .fv ?_ | refine .cons (.aggf' rfl) ?_ | refine .cons .nil ?_ | refine .cons (.ren rfl) ?_))
              refine r_build pl_37 z_37 rfl rfl trivial rfl ?_
              refine r_nes flat_37 (by decide) agg_37 eqg_37 rfl rfl rfl rfl rfl rfl (eqVs_ev ⟨0, key, 0, 0, false, request, backend, weight⟩ zeroEv) trivial rfl ?_
              refine reg_nil ?_
              first | refine awp_cond_dec rfl (fun h7 => ?_) (fun h7 => ?_) | refine awp_cond rfl (fun h7 => ?_) (fun h7 => ?_)
              · refine awp_seq ?_
                refine awp_region ?_
                refine r_as rfl trivial rfl ?_
                refine reg_nil ?_
                refine awp_ret ?_
                refine fin0 (.cons (.tmp rfl) .nil) (by first | exact .fv | exact .frz rfl rfl trivial | exact .nil | exact .aggf' rfl | exact .aggf) ?_
                (simp_all [checkEv, fieldsOf, restEv] <;> omega)
              · refine awp_skip ?_
                refine awp_seq ?_
                refine awp_region ?_
                refine r_as rfl trivial rfl ?_
                refine reg_nil ?_
                refine awp_ret ?_
                refine fin0 (.cons (.tmp rfl) .nil) (by first | exact .fv | exact .frz rfl rfl trivial | exact .nil | exact .aggf' rfl | exact .aggf) ?_
                (simp_all [checkEv, fieldsOf, restEv] <;> omega)
set_option maxRecDepth 100000 in
theorem check_5 (key slot gen : Int) (good : Bool) (request backend weight : Int) : Fun Tryd.prog 11 [.agg (fvs (encEv ⟨5, key, slot, gen, good, request, backend, weight⟩))] [] [] (iA (checkEv ⟨5, key, slot, gen, good, request, backend, weight⟩)) [] := by
  refine fun_of_awp (rl := [.tmp 2]) Tryd.func11 rfl Tryd.results11 Tryd.ntmps11 0 rfl (by simp) ?_
  intro w0 own0 ρ0 F hz
  refine awp_seq ?_
  refine awp_region ?_
  refine r_box rfl rfl rfl trivial rfl ?_
  refine r_as rfl trivial rfl ?_
  refine reg_nil ?_
  refine awp_seq ?_
  refine awp_region ?_
  refine r_alloc z_3 rfl trivial rfl ?_
  first | refine r_st ty_3 rfl rfl rfl rfl rfl rfl rfl trivial ?_ | refine r_sto ty_3 rfl rfl rfl rfl (by assumption) rfl rfl rfl trivial ?_
  refine reg_nil ?_
  refine awp_seq ?_
  refine awp_region ?_
  refine r_callh [(0, 0), (1, 1), (2, 2)] 3 3 (fields_5 key slot gen good request backend weight 0) cb_20 rfl rfl rfl ?_ (.cons rfl (.cons rfl .nil)) rfl rfl rfl rfl trivial rfl ?_
  · (repeat (first | exact .nil | refine .cons .fv ?_ | refine .cons (.aggf' rfl) ?_ | refine .cons .nil ?_ | refine .cons (.ren rfl) ?_))
  refine r_mv rfl trivial rfl ?_
  refine r_ext rfl rfl trivial rfl ?_
  refine r_ext rfl rfl trivial rfl ?_
  refine r_as rfl trivial rfl ?_
  refine r_as rfl trivial rfl ?_
  refine reg_nil ?_
  refine awp_seq ?_
  refine awp_seq ?_
  refine awp_region ?_
  refine r_mv rfl trivial rfl ?_
  first | refine r_notd rfl trivial rfl ?_ | refine r_not rfl trivial rfl ?_
  refine reg_nil ?_
  refine awp_cond_f rfl ?_
  refine awp_skip ?_
  refine awp_seq ?_
  refine awp_seq ?_
  refine awp_region ?_
  refine r_mv rfl trivial rfl ?_
  first | refine r_lenr sl_49 rfl trivial rfl ?_ | refine r_lenw sl_49 rfl trivial rfl ?_ | refine r_len0 sl_49 rfl trivial rfl ?_
  refine r_mv rfl trivial rfl ?_
  refine reg_nil ?_
  refine awp_block ?_
  refine awp_unroll 4 ?_
  refine unr_succ ?_
  refine awp_seq ?_
  refine awp_region ?_
  refine r_lss rfl rfl trivial rfl ?_
  refine reg_nil ?_
  refine awp_seq ?_
  refine awp_cond_t rfl ?_
  refine awp_skip ?_
  refine awp_seq ?_
  refine awp_block ?_
  refine awp_seq ?_
  refine awp_region ?_
  first | refine r_ixr sl_49 ty_55 rfl rfl (by omega) (by first | exact map_get (by omega) | exact map_geti (by omega)) trivial rfl ?_ | refine r_ixw sl_49 ty_55 rfl rfl (by omega) (by omega) trivial rfl ?_
  first | refine r_lda ty_55 rfl rfl rfl rfl trivial rfl ?_ | refine r_ldra ty_55 rfl rfl rfl trivial rfl ?_ | refine r_ldoa ty_55 rfl rfl (by assumption) rfl rfl trivial rfl ?_
  refine r_alloc z_55 rfl trivial rfl ?_
  first | refine r_st ty_55 rfl rfl rfl rfl rfl rfl rfl trivial ?_ | refine r_sto ty_55 rfl rfl rfl rfl (by assumption) rfl rfl rfl trivial ?_
  refine reg_nil ?_
  refine awp_seq ?_
  refine awp_draw mix rfl ?_
  first | refine r_fld fld_55_0 rfl trivial rfl ?_ | refine r_fldr fld_55_0 rfl trivial rfl ?_
  first | refine r_ld ty_53 rfl rfl rfl trivial rfl ?_ | refine r_ldr ty_53 rfl rfl trivial rfl ?_ | refine r_ldo ty_53 rfl rfl (by assumption) rfl trivial rfl ?_
  first | refine r_nilck rfl trivial rfl ?_ | refine r_nilckr rfl trivial rfl ?_ | refine r_nilckf rfl trivial rfl ?_
  first | refine r_ld ty_3 rfl rfl rfl trivial rfl ?_ | refine r_ldr ty_3 rfl rfl trivial rfl ?_ | refine r_ldo ty_3 rfl rfl (by assumption) rfl trivial rfl ?_
  first | refine r_fld fld_55_1 rfl trivial rfl ?_ | refine r_fldr fld_55_1 rfl trivial rfl ?_
  first | refine r_ld ty_3 rfl rfl rfl trivial rfl ?_ | refine r_ldr ty_3 rfl rfl trivial rfl ?_ | refine r_ldo ty_3 rfl rfl (by assumption) rfl trivial rfl ?_
  refine r_lss rfl rfl trivial rfl ?_
  refine r_mv rfl trivial rfl ?_
  first | refine reg_split_dec 27 rfl (fun h1 => ?_) (fun h1 => ?_) | refine reg_split 27 rfl (fun h1 => ?_) (fun h1 => ?_)
  · refine r_skip ⟨_, rfl, .inl rfl⟩ rfl ?_
    refine r_skip ⟨_, rfl, .inl rfl⟩ rfl ?_
    refine r_skip ⟨_, rfl, .inl rfl⟩ rfl ?_
    refine r_skip ⟨_, rfl, .inl rfl⟩ rfl ?_
    refine r_skip ⟨_, rfl, .inl rfl⟩ rfl ?_
    refine r_skip ⟨_, rfl, .inl rfl⟩ rfl ?_
    refine r_skip ⟨_, rfl, .inl rfl⟩ rfl ?_
    refine r_pkt rfl rfl trivial rfl ?_
    refine reg_nil ⟨rfl, ?_⟩
    refine awp_cond_t rfl ?_
    refine awp_seq ?_
    refine awp_region ?_
    refine r_as rfl trivial rfl ?_
    refine reg_nil ?_
    refine awp_ret ?_
    refine fin0 (.cons (.tmp rfl) .nil) (by first | exact .fv | exact .frz rfl rfl trivial | exact .nil | exact .aggf' rfl | exact .aggf) ?_
    (simp_all [checkEv, fieldsOf, restEv] <;> omega)
  · first | refine r_fld fld_55_0 rfl ⟨_, rfl, rfl⟩ rfl ?_ | refine r_fldr fld_55_0 rfl ⟨_, rfl, rfl⟩ rfl ?_
    first | refine r_ld ty_53 rfl rfl rfl ⟨_, rfl, rfl⟩ rfl ?_ | refine r_ldr ty_53 rfl rfl ⟨_, rfl, rfl⟩ rfl ?_ | refine r_ldo ty_53 rfl rfl (by assumption) rfl ⟨_, rfl, rfl⟩ rfl ?_
    first | refine r_nilck rfl ⟨_, rfl, rfl⟩ rfl ?_ | refine r_nilckr rfl ⟨_, rfl, rfl⟩ rfl ?_ | refine r_nilckf rfl ⟨_, rfl, rfl⟩ rfl ?_
    first | refine r_ld ty_3 rfl rfl rfl ⟨_, rfl, rfl⟩ rfl ?_ | refine r_ldr ty_3 rfl rfl ⟨_, rfl, rfl⟩ rfl ?_ | refine r_ldo ty_3 rfl rfl (by assumption) rfl ⟨_, rfl, rfl⟩ rfl ?_
    first | refine r_fld fld_55_2 rfl ⟨_, rfl, rfl⟩ rfl ?_ | refine r_fldr fld_55_2 rfl ⟨_, rfl, rfl⟩ rfl ?_
    first | refine r_ld ty_3 rfl rfl rfl ⟨_, rfl, rfl⟩ rfl ?_ | refine r_ldr ty_3 rfl rfl ⟨_, rfl, rfl⟩ rfl ?_ | refine r_ldo ty_3 rfl rfl (by assumption) rfl ⟨_, rfl, rfl⟩ rfl ?_
    refine r_gtr rfl rfl ⟨_, rfl, rfl⟩ rfl ?_
    refine r_pkf rfl rfl trivial rfl ?_
    refine reg_nil ⟨rfl, ?_⟩
    first | refine awp_cond_dec rfl (fun h2 => ?_) (fun h2 => ?_) | refine awp_cond rfl (fun h2 => ?_) (fun h2 => ?_)
    · refine awp_seq ?_
      refine awp_region ?_
      refine r_as rfl trivial rfl ?_
      refine reg_nil ?_
      refine awp_ret ?_
      refine fin0 (.cons (.tmp rfl) .nil) (by first | exact .fv | exact .frz rfl rfl trivial | exact .nil | exact .aggf' rfl | exact .aggf) ?_
      (simp_all [checkEv, fieldsOf, restEv] <;> omega)
    · refine awp_skip ?_
      refine awp_region ?_
      refine r_add rfl rfl (rng64 (by omega)) trivial rfl ?_
      refine r_mv rfl trivial rfl ?_
      refine reg_nil ?_
      refine unr_succ ?_
      refine awp_seq ?_
      refine awp_region ?_
      refine r_lss rfl rfl trivial rfl ?_
      refine reg_nil ?_
      refine awp_seq ?_
      refine awp_cond_t rfl ?_
      refine awp_skip ?_
      refine awp_seq ?_
      refine awp_block ?_
      refine awp_seq ?_
      refine awp_region ?_
      first | refine r_ixr sl_49 ty_55 rfl rfl (by omega) (by first | exact map_get (by omega) | exact map_geti (by omega)) trivial rfl ?_ | refine r_ixw sl_49 ty_55 rfl rfl (by omega) (by omega) trivial rfl ?_
      first | refine r_lda ty_55 rfl rfl rfl rfl trivial rfl ?_ | refine r_ldra ty_55 rfl rfl rfl trivial rfl ?_ | refine r_ldoa ty_55 rfl rfl (by assumption) rfl rfl trivial rfl ?_
      refine r_alloc z_55 rfl trivial rfl ?_
      first | refine r_st ty_55 rfl rfl rfl rfl rfl rfl rfl trivial ?_ | refine r_sto ty_55 rfl rfl rfl rfl (by assumption) rfl rfl rfl trivial ?_
      refine reg_nil ?_
      refine awp_seq ?_
      refine awp_draw mix rfl ?_
      first | refine r_fld fld_55_0 rfl trivial rfl ?_ | refine r_fldr fld_55_0 rfl trivial rfl ?_
      first | refine r_ld ty_53 rfl rfl rfl trivial rfl ?_ | refine r_ldr ty_53 rfl rfl trivial rfl ?_ | refine r_ldo ty_53 rfl rfl (by assumption) rfl trivial rfl ?_
      first | refine r_nilck rfl trivial rfl ?_ | refine r_nilckr rfl trivial rfl ?_ | refine r_nilckf rfl trivial rfl ?_
      first | refine r_ld ty_3 rfl rfl rfl trivial rfl ?_ | refine r_ldr ty_3 rfl rfl trivial rfl ?_ | refine r_ldo ty_3 rfl rfl (by assumption) rfl trivial rfl ?_
      first | refine r_fld fld_55_1 rfl trivial rfl ?_ | refine r_fldr fld_55_1 rfl trivial rfl ?_
      first | refine r_ld ty_3 rfl rfl rfl trivial rfl ?_ | refine r_ldr ty_3 rfl rfl trivial rfl ?_ | refine r_ldo ty_3 rfl rfl (by assumption) rfl trivial rfl ?_
      refine r_lss rfl rfl trivial rfl ?_
      refine r_mv rfl trivial rfl ?_
      first | refine reg_split_dec 27 rfl (fun h3 => ?_) (fun h3 => ?_) | refine reg_split 27 rfl (fun h3 => ?_) (fun h3 => ?_)
      · refine r_skip ⟨_, rfl, .inl rfl⟩ rfl ?_
        refine r_skip ⟨_, rfl, .inl rfl⟩ rfl ?_
        refine r_skip ⟨_, rfl, .inl rfl⟩ rfl ?_
        refine r_skip ⟨_, rfl, .inl rfl⟩ rfl ?_
        refine r_skip ⟨_, rfl, .inl rfl⟩ rfl ?_
        refine r_skip ⟨_, rfl, .inl rfl⟩ rfl ?_
        refine r_skip ⟨_, rfl, .inl rfl⟩ rfl ?_
        refine r_pkt rfl rfl trivial rfl ?_
        refine reg_nil ⟨rfl, ?_⟩
        refine awp_cond_t rfl ?_
        refine awp_seq ?_
        refine awp_region ?_
        refine r_as rfl trivial rfl ?_
        refine reg_nil ?_
        refine awp_ret ?_
        refine fin0 (.cons (.tmp rfl) .nil) (by first | exact .fv | exact .frz rfl rfl trivial | exact .nil | exact .aggf' rfl | exact .aggf) ?_
        (simp_all [checkEv, fieldsOf, restEv] <;> omega)
      · first | refine r_fld fld_55_0 rfl ⟨_, rfl, rfl⟩ rfl ?_ | refine r_fldr fld_55_0 rfl ⟨_, rfl, rfl⟩ rfl ?_
        first | refine r_ld ty_53 rfl rfl rfl ⟨_, rfl, rfl⟩ rfl ?_ | refine r_ldr ty_53 rfl rfl ⟨_, rfl, rfl⟩ rfl ?_ | refine r_ldo ty_53 rfl rfl (by assumption) rfl ⟨_, rfl, rfl⟩ rfl ?_
        first | refine r_nilck rfl ⟨_, rfl, rfl⟩ rfl ?_ | refine r_nilckr rfl ⟨_, rfl, rfl⟩ rfl ?_ | refine r_nilckf rfl ⟨_, rfl, rfl⟩ rfl ?_
        first | refine r_ld ty_3 rfl rfl rfl ⟨_, rfl, rfl⟩ rfl ?_ | refine r_ldr ty_3 rfl rfl ⟨_, rfl, rfl⟩ rfl ?_ | refine r_ldo ty_3 rfl rfl (by assumption) rfl ⟨_, rfl, rfl⟩ rfl ?_
        first | refine r_fld fld_55_2 rfl ⟨_, rfl, rfl⟩ rfl ?_ | refine r_fldr fld_55_2 rfl ⟨_, rfl, rfl⟩ rfl ?_
        first | refine r_ld ty_3 rfl rfl rfl ⟨_, rfl, rfl⟩ rfl ?_ | refine r_ldr ty_3 rfl rfl ⟨_, rfl, rfl⟩ rfl ?_ | refine r_ldo ty_3 rfl rfl (by assumption) rfl ⟨_, rfl, rfl⟩ rfl ?_
        refine r_gtr rfl rfl ⟨_, rfl, rfl⟩ rfl ?_
        refine r_pkf rfl rfl trivial rfl ?_
        refine reg_nil ⟨rfl, ?_⟩
        first | refine awp_cond_dec rfl (fun h4 => ?_) (fun h4 => ?_) | refine awp_cond rfl (fun h4 => ?_) (fun h4 => ?_)
        · refine awp_seq ?_
          refine awp_region ?_
          refine r_as rfl trivial rfl ?_
          refine reg_nil ?_
          refine awp_ret ?_
          refine fin0 (.cons (.tmp rfl) .nil) (by first | exact .fv | exact .frz rfl rfl trivial | exact .nil | exact .aggf' rfl | exact .aggf) ?_
          (simp_all [checkEv, fieldsOf, restEv] <;> omega)
        · refine awp_skip ?_
          refine awp_region ?_
          refine r_add rfl rfl (rng64 (by omega)) trivial rfl ?_
          refine r_mv rfl trivial rfl ?_
          refine reg_nil ?_
          refine unr_succ ?_
          refine awp_seq ?_
          refine awp_region ?_
          refine r_lss rfl rfl trivial rfl ?_
          refine reg_nil ?_
          refine awp_seq ?_
          refine awp_cond_t rfl ?_
          refine awp_skip ?_
          refine awp_seq ?_
          refine awp_block ?_
          refine awp_seq ?_
          refine awp_region ?_
          first | refine r_ixr sl_49 ty_55 rfl rfl (by omega) (by first | exact map_get (by omega) | exact map_geti (by omega)) trivial rfl ?_ | refine r_ixw sl_49 ty_55 rfl rfl (by omega) (by omega) trivial rfl ?_
          first | refine r_lda ty_55 rfl rfl rfl rfl trivial rfl ?_ | refine r_ldra ty_55 rfl rfl rfl trivial rfl ?_ | refine r_ldoa ty_55 rfl rfl (by assumption) rfl rfl trivial rfl ?_
          refine r_alloc z_55 rfl trivial rfl ?_
          first | refine r_st ty_55 rfl rfl rfl rfl rfl rfl rfl trivial ?_ | refine r_sto ty_55 rfl rfl rfl rfl (by assumption) rfl rfl rfl trivial ?_
          refine reg_nil ?_
          refine awp_seq ?_
          refine awp_draw mix rfl ?_
          first | refine r_fld fld_55_0 rfl trivial rfl ?_ | refine r_fldr fld_55_0 rfl trivial rfl ?_
          first | refine r_ld ty_53 rfl rfl rfl trivial rfl ?_ | refine r_ldr ty_53 rfl rfl trivial rfl ?_ | refine r_ldo ty_53 rfl rfl (by assumption) rfl trivial rfl ?_
          first | refine r_nilck rfl trivial rfl ?_ | refine r_nilckr rfl trivial rfl ?_ | refine r_nilckf rfl trivial rfl ?_
          first | refine r_ld ty_3 rfl rfl rfl trivial rfl ?_ | refine r_ldr ty_3 rfl rfl trivial rfl ?_ | refine r_ldo ty_3 rfl rfl (by assumption) rfl trivial rfl ?_
          first | refine r_fld fld_55_1 rfl trivial rfl ?_ | refine r_fldr fld_55_1 rfl trivial rfl ?_
          first | refine r_ld ty_3 rfl rfl rfl trivial rfl ?_ | refine r_ldr ty_3 rfl rfl trivial rfl ?_ | refine r_ldo ty_3 rfl rfl (by assumption) rfl trivial rfl ?_
          refine r_lss rfl rfl trivial rfl ?_
          refine r_mv rfl trivial rfl ?_
          first | refine reg_split_dec 27 rfl (fun h5 => ?_) (fun h5 => ?_) | refine reg_split 27 rfl (fun h5 => ?_) (fun h5 => ?_)
          · refine r_skip ⟨_, rfl, .inl rfl⟩ rfl ?_
            refine r_skip ⟨_, rfl, .inl rfl⟩ rfl ?_
            refine r_skip ⟨_, rfl, .inl rfl⟩ rfl ?_
            refine r_skip ⟨_, rfl, .inl rfl⟩ rfl ?_
            refine r_skip ⟨_, rfl, .inl rfl⟩ rfl ?_
            refine r_skip ⟨_, rfl, .inl rfl⟩ rfl ?_
            refine r_skip ⟨_, rfl, .inl rfl⟩ rfl ?_
            refine r_pkt rfl rfl trivial rfl ?_
            refine reg_nil ⟨rfl, ?_⟩
            refine awp_cond_t rfl ?_
            refine awp_seq ?_
            refine awp_region ?_
            refine r_as rfl trivial rfl ?_
            refine reg_nil ?_
            refine awp_ret ?_
            refine fin0 (.cons (.tmp rfl) .nil) (by first | exact .fv | exact .frz rfl rfl trivial | exact .nil | exact .aggf' rfl | exact .aggf) ?_
            (simp_all [checkEv, fieldsOf, restEv] <;> omega)
          · first | refine r_fld fld_55_0 rfl ⟨_, rfl, rfl⟩ rfl ?_ | refine r_fldr fld_55_0 rfl ⟨_, rfl, rfl⟩ rfl ?_
            first | refine r_ld ty_53 rfl rfl rfl ⟨_, rfl, rfl⟩ rfl ?_ | refine r_ldr ty_53 rfl rfl ⟨_, rfl, rfl⟩ rfl ?_ | refine r_ldo ty_53 rfl rfl (by assumption) rfl ⟨_, rfl, rfl⟩ rfl ?_
            first | refine r_nilck rfl ⟨_, rfl, rfl⟩ rfl ?_ | refine r_nilckr rfl ⟨_, rfl, rfl⟩ rfl ?_ | refine r_nilckf rfl ⟨_, rfl, rfl⟩ rfl ?_
            first | refine r_ld ty_3 rfl rfl rfl ⟨_, rfl, rfl⟩ rfl ?_ | refine r_ldr ty_3 rfl rfl ⟨_, rfl, rfl⟩ rfl ?_ | refine r_ldo ty_3 rfl rfl (by assumption) rfl ⟨_, rfl, rfl⟩ rfl ?_
            first | refine r_fld fld_55_2 rfl ⟨_, rfl, rfl⟩ rfl ?_ | refine r_fldr fld_55_2 rfl ⟨_, rfl, rfl⟩ rfl ?_
            first | refine r_ld ty_3 rfl rfl rfl ⟨_, rfl, rfl⟩ rfl ?_ | refine r_ldr ty_3 rfl rfl ⟨_, rfl, rfl⟩ rfl ?_ | refine r_ldo ty_3 rfl rfl (by assumption) rfl ⟨_, rfl, rfl⟩ rfl ?_
            refine r_gtr rfl rfl ⟨_, rfl, rfl⟩ rfl ?_
            refine r_pkf rfl rfl trivial rfl ?_
            refine reg_nil ⟨rfl, ?_⟩
            first | refine awp_cond_dec rfl (fun h6 => ?_) (fun h6 => ?_) | refine awp_cond rfl (fun h6 => ?_) (fun h6 => ?_)
            · refine awp_seq ?_
              refine awp_region ?_
              refine r_as rfl trivial rfl ?_
              refine reg_nil ?_
              refine awp_ret ?_
              refine fin0 (.cons (.tmp rfl) .nil) (by first | exact .fv | exact .frz rfl rfl trivial | exact .nil | exact .aggf' rfl | exact .aggf) ?_
              (simp_all [checkEv, fieldsOf, restEv] <;> omega)
            · refine awp_skip ?_
              refine awp_region ?_
              refine r_add rfl rfl (rng64 (by omega)) trivial rfl ?_
              refine r_mv rfl trivial rfl ?_
              refine reg_nil ?_
              refine unr_succ ?_
              refine awp_seq ?_
              refine awp_region ?_
              refine r_lss rfl rfl trivial rfl ?_
              refine reg_nil ?_
              refine awp_seq ?_
              refine awp_cond_f rfl ?_
              refine awp_exit ?_
              refine awp_seq ?_
              refine awp_seq ?_
              refine awp_region ?_
              first | refine r_lda ty_37 rfl rfl rfl rfl trivial rfl ?_ | refine r_ldra ty_37 rfl rfl rfl trivial rfl ?_ | refine r_ldoa ty_37 rfl rfl (by assumption) rfl rfl trivial rfl ?_
              refine r_call (rest_5 key slot gen good request backend weight) cb_21 rfl rfl rfl ?_ trivial rfl ?_
              · (repeat (first | exact .nil | refine .cons .fv ?_ | refine .cons (.aggf' rfl) ?_ | refine .cons .nil ?_ | refine .cons (.ren rfl) ?_))
              refine r_build pl_37 z_37 rfl rfl trivial rfl ?_
              refine r_nes flat_37 (by decide) agg_37 eqg_37 rfl rfl rfl rfl rfl rfl (eqVs_ev ⟨0, key, slot, gen, good, 0, 0, 0⟩ zeroEv) trivial rfl ?_
              refine reg_nil ?_
              first | refine awp_cond_dec rfl (fun h7 => ?_) (fun h7 => ?_) | refine awp_cond rfl (fun h7 => ?_) (fun h7 => ?_)
              · refine awp_seq ?_
                refine awp_region ?_
                refine r_as rfl trivial rfl ?_
                refine reg_nil ?_
                refine awp_ret ?_
                refine fin0 (.cons (.tmp rfl) .nil) (by first | exact .fv | exact .frz rfl rfl trivial | exact .nil | exact .aggf' rfl | exact .aggf) ?_
                (simp_all [checkEv, fieldsOf, restEv] <;> omega)
              · refine awp_skip ?_
                refine awp_seq ?_
                refine awp_region ?_
                refine r_as rfl trivial rfl ?_
                refine reg_nil ?_
                refine awp_ret ?_
                refine fin0 (.cons (.tmp rfl) .nil) (by first | exact .fv | exact .frz rfl rfl trivial | exact .nil | exact .aggf' rfl | exact .aggf) ?_
                (simp_all [checkEv, fieldsOf, restEv] <;> omega)
set_option maxRecDepth 100000 in
theorem check_6 (key slot gen : Int) (good : Bool) (request backend weight : Int) : Fun Tryd.prog 11 [.agg (fvs (encEv ⟨6, key, slot, gen, good, request, backend, weight⟩))] [] [] (iA (checkEv ⟨6, key, slot, gen, good, request, backend, weight⟩)) [] := by
  refine fun_of_awp (rl := [.tmp 2]) Tryd.func11 rfl Tryd.results11 Tryd.ntmps11 0 rfl (by simp) ?_
  intro w0 own0 ρ0 F hz
  refine awp_seq ?_
  refine awp_region ?_
  refine r_box rfl rfl rfl trivial rfl ?_
  refine r_as rfl trivial rfl ?_
  refine reg_nil ?_
  refine awp_seq ?_
  refine awp_region ?_
  refine r_alloc z_3 rfl trivial rfl ?_
  first | refine r_st ty_3 rfl rfl rfl rfl rfl rfl rfl trivial ?_ | refine r_sto ty_3 rfl rfl rfl rfl (by assumption) rfl rfl rfl trivial ?_
  refine reg_nil ?_
  refine awp_seq ?_
  refine awp_region ?_
  refine r_callh [(0, 0), (1, 1), (2, 2)] 3 3 (fields_6 key slot gen good request backend weight 0) cb_20 rfl rfl rfl ?_ (.cons rfl (.cons rfl .nil)) rfl rfl rfl rfl trivial rfl ?_
  · (repeat (first | exact .nil | refine .cons .fv ?_ | refine .cons (.aggf' rfl) ?_ | refine .cons .nil ?_ | refine .cons (.ren rfl) ?_))
  refine r_mv rfl trivial rfl ?_
  refine r_ext rfl rfl trivial rfl ?_
  refine r_ext rfl rfl trivial rfl ?_
  refine r_as rfl trivial rfl ?_
  refine r_as rfl trivial rfl ?_
  refine reg_nil ?_
  refine awp_seq ?_
  refine awp_seq ?_
  refine awp_region ?_
  refine r_mv rfl trivial rfl ?_
  first | refine r_notd rfl trivial rfl ?_ | refine r_not rfl trivial rfl ?_
  refine reg_nil ?_
  refine awp_cond_f rfl ?_
  refine awp_skip ?_
  refine awp_seq ?_
  refine awp_seq ?_
  refine awp_region ?_
  refine r_mv rfl trivial rfl ?_
  first | refine r_lenr sl_49 rfl trivial rfl ?_ | refine r_lenw sl_49 rfl trivial rfl ?_ | refine r_len0 sl_49 rfl trivial rfl ?_
  refine r_mv rfl trivial rfl ?_
  refine reg_nil ?_
  refine awp_block ?_
  refine awp_unroll 3 ?_
  refine unr_succ ?_
  refine awp_seq ?_
  refine awp_region ?_
  refine r_lss rfl rfl trivial rfl ?_
  refine reg_nil ?_
  refine awp_seq ?_
  refine awp_cond_t rfl ?_
  refine awp_skip ?_
  refine awp_seq ?_
  refine awp_block ?_
  refine awp_seq ?_
  refine awp_region ?_
  first | refine r_ixr sl_49 ty_55 rfl rfl (by omega) (by first | exact map_get (by omega) | exact map_geti (by omega)) trivial rfl ?_ | refine r_ixw sl_49 ty_55 rfl rfl (by omega) (by omega) trivial rfl ?_
  first | refine r_lda ty_55 rfl rfl rfl rfl trivial rfl ?_ | refine r_ldra ty_55 rfl rfl rfl trivial rfl ?_ | refine r_ldoa ty_55 rfl rfl (by assumption) rfl rfl trivial rfl ?_
  refine r_alloc z_55 rfl trivial rfl ?_
  first | refine r_st ty_55 rfl rfl rfl rfl rfl rfl rfl trivial ?_ | refine r_sto ty_55 rfl rfl rfl rfl (by assumption) rfl rfl rfl trivial ?_
  refine reg_nil ?_
  refine awp_seq ?_
  refine awp_draw mix rfl ?_
  first | refine r_fld fld_55_0 rfl trivial rfl ?_ | refine r_fldr fld_55_0 rfl trivial rfl ?_
  first | refine r_ld ty_53 rfl rfl rfl trivial rfl ?_ | refine r_ldr ty_53 rfl rfl trivial rfl ?_ | refine r_ldo ty_53 rfl rfl (by assumption) rfl trivial rfl ?_
  first | refine r_nilck rfl trivial rfl ?_ | refine r_nilckr rfl trivial rfl ?_ | refine r_nilckf rfl trivial rfl ?_
  first | refine r_ld ty_3 rfl rfl rfl trivial rfl ?_ | refine r_ldr ty_3 rfl rfl trivial rfl ?_ | refine r_ldo ty_3 rfl rfl (by assumption) rfl trivial rfl ?_
  first | refine r_fld fld_55_1 rfl trivial rfl ?_ | refine r_fldr fld_55_1 rfl trivial rfl ?_
  first | refine r_ld ty_3 rfl rfl rfl trivial rfl ?_ | refine r_ldr ty_3 rfl rfl trivial rfl ?_ | refine r_ldo ty_3 rfl rfl (by assumption) rfl trivial rfl ?_
  refine r_lss rfl rfl trivial rfl ?_
  refine r_mv rfl trivial rfl ?_
  first | refine reg_split_dec 27 rfl (fun h1 => ?_) (fun h1 => ?_) | refine reg_split 27 rfl (fun h1 => ?_) (fun h1 => ?_)
  · refine r_skip ⟨_, rfl, .inl rfl⟩ rfl ?_
    refine r_skip ⟨_, rfl, .inl rfl⟩ rfl ?_
    refine r_skip ⟨_, rfl, .inl rfl⟩ rfl ?_
    refine r_skip ⟨_, rfl, .inl rfl⟩ rfl ?_
    refine r_skip ⟨_, rfl, .inl rfl⟩ rfl ?_
    refine r_skip ⟨_, rfl, .inl rfl⟩ rfl ?_
    refine r_skip ⟨_, rfl, .inl rfl⟩ rfl ?_
    refine r_pkt rfl rfl trivial rfl ?_
    refine reg_nil ⟨rfl, ?_⟩
    refine awp_cond_t rfl ?_
    refine awp_seq ?_
    refine awp_region ?_
    refine r_as rfl trivial rfl ?_
    refine reg_nil ?_
    refine awp_ret ?_
    refine fin0 (.cons (.tmp rfl) .nil) (by first | exact .fv | exact .frz rfl rfl trivial | exact .nil | exact .aggf' rfl | exact .aggf) ?_
    (simp_all [checkEv, fieldsOf, restEv] <;> omega)
  · first | refine r_fld fld_55_0 rfl ⟨_, rfl, rfl⟩ rfl ?_ | refine r_fldr fld_55_0 rfl ⟨_, rfl, rfl⟩ rfl ?_
    first | refine r_ld ty_53 rfl rfl rfl ⟨_, rfl, rfl⟩ rfl ?_ | refine r_ldr ty_53 rfl rfl ⟨_, rfl, rfl⟩ rfl ?_ | refine r_ldo ty_53 rfl rfl (by assumption) rfl ⟨_, rfl, rfl⟩ rfl ?_
    first | refine r_nilck rfl ⟨_, rfl, rfl⟩ rfl ?_ | refine r_nilckr rfl ⟨_, rfl, rfl⟩ rfl ?_ | refine r_nilckf rfl ⟨_, rfl, rfl⟩ rfl ?_
    first | refine r_ld ty_3 rfl rfl rfl ⟨_, rfl, rfl⟩ rfl ?_ | refine r_ldr ty_3 rfl rfl ⟨_, rfl, rfl⟩ rfl ?_ | refine r_ldo ty_3 rfl rfl (by assumption) rfl ⟨_, rfl, rfl⟩ rfl ?_
    first | refine r_fld fld_55_2 rfl ⟨_, rfl, rfl⟩ rfl ?_ | refine r_fldr fld_55_2 rfl ⟨_, rfl, rfl⟩ rfl ?_
    first | refine r_ld ty_3 rfl rfl rfl ⟨_, rfl, rfl⟩ rfl ?_ | refine r_ldr ty_3 rfl rfl ⟨_, rfl, rfl⟩ rfl ?_ | refine r_ldo ty_3 rfl rfl (by assumption) rfl ⟨_, rfl, rfl⟩ rfl ?_
    refine r_gtr rfl rfl ⟨_, rfl, rfl⟩ rfl ?_
    refine r_pkf rfl rfl trivial rfl ?_
    refine reg_nil ⟨rfl, ?_⟩
    first | refine awp_cond_dec rfl (fun h2 => ?_) (fun h2 => ?_) | refine awp_cond rfl (fun h2 => ?_) (fun h2 => ?_)
    · refine awp_seq ?_
      refine awp_region ?_
      refine r_as rfl trivial rfl ?_
      refine reg_nil ?_
      refine awp_ret ?_
      refine fin0 (.cons (.tmp rfl) .nil) (by first | exact .fv | exact .frz rfl rfl trivial | exact .nil | exact .aggf' rfl | exact .aggf) ?_
      (simp_all [checkEv, fieldsOf, restEv] <;> omega)
    · refine awp_skip ?_
      refine awp_region ?_
      refine r_add rfl rfl (rng64 (by omega)) trivial rfl ?_
      refine r_mv rfl trivial rfl ?_
      refine reg_nil ?_
      refine unr_succ ?_
      refine awp_seq ?_
      refine awp_region ?_
      refine r_lss rfl rfl trivial rfl ?_
      refine reg_nil ?_
      refine awp_seq ?_
      refine awp_cond_t rfl ?_
      refine awp_skip ?_
      refine awp_seq ?_
      refine awp_block ?_
      refine awp_seq ?_
      refine awp_region ?_
      first | refine r_ixr sl_49 ty_55 rfl rfl (by omega) (by first | exact map_get (by omega) | exact map_geti (by omega)) trivial rfl ?_ | refine r_ixw sl_49 ty_55 rfl rfl (by omega) (by omega) trivial rfl ?_
      first | refine r_lda ty_55 rfl rfl rfl rfl trivial rfl ?_ | refine r_ldra ty_55 rfl rfl rfl trivial rfl ?_ | refine r_ldoa ty_55 rfl rfl (by assumption) rfl rfl trivial rfl ?_
      refine r_alloc z_55 rfl trivial rfl ?_
      first | refine r_st ty_55 rfl rfl rfl rfl rfl rfl rfl trivial ?_ | refine r_sto ty_55 rfl rfl rfl rfl (by assumption) rfl rfl rfl trivial ?_
      refine reg_nil ?_
      refine awp_seq ?_
      refine awp_draw mix rfl ?_
      first | refine r_fld fld_55_0 rfl trivial rfl ?_ | refine r_fldr fld_55_0 rfl trivial rfl ?_
      first | refine r_ld ty_53 rfl rfl rfl trivial rfl ?_ | refine r_ldr ty_53 rfl rfl trivial rfl ?_ | refine r_ldo ty_53 rfl rfl (by assumption) rfl trivial rfl ?_
      first | refine r_nilck rfl trivial rfl ?_ | refine r_nilckr rfl trivial rfl ?_ | refine r_nilckf rfl trivial rfl ?_
      first | refine r_ld ty_3 rfl rfl rfl trivial rfl ?_ | refine r_ldr ty_3 rfl rfl trivial rfl ?_ | refine r_ldo ty_3 rfl rfl (by assumption) rfl trivial rfl ?_
      first | refine r_fld fld_55_1 rfl trivial rfl ?_ | refine r_fldr fld_55_1 rfl trivial rfl ?_
      first | refine r_ld ty_3 rfl rfl rfl trivial rfl ?_ | refine r_ldr ty_3 rfl rfl trivial rfl ?_ | refine r_ldo ty_3 rfl rfl (by assumption) rfl trivial rfl ?_
      refine r_lss rfl rfl trivial rfl ?_
      refine r_mv rfl trivial rfl ?_
      first | refine reg_split_dec 27 rfl (fun h3 => ?_) (fun h3 => ?_) | refine reg_split 27 rfl (fun h3 => ?_) (fun h3 => ?_)
      · refine r_skip ⟨_, rfl, .inl rfl⟩ rfl ?_
        refine r_skip ⟨_, rfl, .inl rfl⟩ rfl ?_
        refine r_skip ⟨_, rfl, .inl rfl⟩ rfl ?_
        refine r_skip ⟨_, rfl, .inl rfl⟩ rfl ?_
        refine r_skip ⟨_, rfl, .inl rfl⟩ rfl ?_
        refine r_skip ⟨_, rfl, .inl rfl⟩ rfl ?_
        refine r_skip ⟨_, rfl, .inl rfl⟩ rfl ?_
        refine r_pkt rfl rfl trivial rfl ?_
        refine reg_nil ⟨rfl, ?_⟩
        refine awp_cond_t rfl ?_
        refine awp_seq ?_
        refine awp_region ?_
        refine r_as rfl trivial rfl ?_
        refine reg_nil ?_
        refine awp_ret ?_
        refine fin0 (.cons (.tmp rfl) .nil) (by first | exact .fv | exact .frz rfl rfl trivial | exact .nil | exact .aggf' rfl | exact .aggf) ?_
        (simp_all [checkEv, fieldsOf, restEv] <;> omega)
      · first | refine r_fld fld_55_0 rfl ⟨_, rfl, rfl⟩ rfl ?_ | refine r_fldr fld_55_0 rfl ⟨_, rfl, rfl⟩ rfl ?_
        first | refine r_ld ty_53 rfl rfl rfl ⟨_, rfl, rfl⟩ rfl ?_ | refine r_ldr ty_53 rfl rfl ⟨_, rfl, rfl⟩ rfl ?_ | refine r_ldo ty_53 rfl rfl (by assumption) rfl ⟨_, rfl, rfl⟩ rfl ?_
        first | refine r_nilck rfl ⟨_, rfl, rfl⟩ rfl ?_ | refine r_nilckr rfl ⟨_, rfl, rfl⟩ rfl ?_ | refine r_nilckf rfl ⟨_, rfl, rfl⟩ rfl ?_
        first | refine r_ld ty_3 rfl rfl rfl ⟨_, rfl, rfl⟩ rfl ?_ | refine r_ldr ty_3 rfl rfl ⟨_, rfl, rfl⟩ rfl ?_ | refine r_ldo ty_3 rfl rfl (by assumption) rfl ⟨_, rfl, rfl⟩ rfl ?_
        first | refine r_fld fld_55_2 rfl ⟨_, rfl, rfl⟩ rfl ?_ | refine r_fldr fld_55_2 rfl ⟨_, rfl, rfl⟩ rfl ?_
        first | refine r_ld ty_3 rfl rfl rfl ⟨_, rfl, rfl⟩ rfl ?_ | refine r_ldr ty_3 rfl rfl ⟨_, rfl, rfl⟩ rfl ?_ | refine r_ldo ty_3 rfl rfl (by assumption) rfl ⟨_, rfl, rfl⟩ rfl ?_
        refine r_gtr rfl rfl ⟨_, rfl, rfl⟩ rfl ?_
        refine r_pkf rfl rfl trivial rfl ?_
        refine reg_nil ⟨rfl, ?_⟩
        first | refine awp_cond_dec rfl (fun h4 => ?_) (fun h4 => ?_) | refine awp_cond rfl (fun h4 => ?_) (fun h4 => ?_)
        · refine awp_seq ?_
          refine awp_region ?_
          refine r_as rfl trivial rfl ?_
          refine reg_nil ?_
          refine awp_ret ?_
          refine fin0 (.cons (.tmp rfl) .nil) (by first | exact .fv | exact .frz rfl rfl trivial | exact .nil | exact .aggf' rfl | exact .aggf) ?_
          (simp_all [checkEv, fieldsOf, restEv] <;> omega)
        · refine awp_skip ?_
          refine awp_region ?_
          refine r_add rfl rfl (rng64 (by omega)) trivial rfl ?_
          refine r_mv rfl trivial rfl ?_
          refine reg_nil ?_
          refine unr_succ ?_
          refine awp_seq ?_
          refine awp_region ?_
          refine r_lss rfl rfl trivial rfl ?_
          refine reg_nil ?_
          refine awp_seq ?_
          refine awp_cond_f rfl ?_
          refine awp_exit ?_
          refine awp_seq ?_
          refine awp_seq ?_
          refine awp_region ?_
          first | refine r_lda ty_37 rfl rfl rfl rfl trivial rfl ?_ | refine r_ldra ty_37 rfl rfl rfl trivial rfl ?_ | refine r_ldoa ty_37 rfl rfl (by assumption) rfl rfl trivial rfl ?_
          refine r_call (rest_6 key slot gen good request backend weight) cb_21 rfl rfl rfl ?_ trivial rfl ?_
          · (repeat (first | exact .nil | refine .cons .fv ?_ | refine .cons (.aggf' rfl) ?_ | refine .cons .nil ?_ | refine .cons (.ren rfl) ?_))
          refine r_build pl_37 z_37 rfl rfl trivial rfl ?_
          refine r_nes flat_37 (by decide) agg_37 eqg_37 rfl rfl rfl rfl rfl rfl (eqVs_ev ⟨0, key, slot, gen, good, 0, 0, weight⟩ zeroEv) trivial rfl ?_
          refine reg_nil ?_
          first | refine awp_cond_dec rfl (fun h5 => ?_) (fun h5 => ?_) | refine awp_cond rfl (fun h5 => ?_) (fun h5 => ?_)
          · refine awp_seq ?_
            refine awp_region ?_
            refine r_as rfl trivial rfl ?_
            refine reg_nil ?_
            refine awp_ret ?_
            refine fin0 (.cons (.tmp rfl) .nil) (by first | exact .fv | exact .frz rfl rfl trivial | exact .nil | exact .aggf' rfl | exact .aggf) ?_
            (simp_all [checkEv, fieldsOf, restEv] <;> omega)
          · refine awp_skip ?_
            refine awp_seq ?_
            refine awp_region ?_
            refine r_as rfl trivial rfl ?_
            refine reg_nil ?_
            refine awp_ret ?_
            refine fin0 (.cons (.tmp rfl) .nil) (by first | exact .fv | exact .frz rfl rfl trivial | exact .nil | exact .aggf' rfl | exact .aggf) ?_
            (simp_all [checkEv, fieldsOf, restEv] <;> omega)
set_option maxRecDepth 100000 in
theorem check_7 (key slot gen : Int) (good : Bool) (request backend weight : Int) : Fun Tryd.prog 11 [.agg (fvs (encEv ⟨7, key, slot, gen, good, request, backend, weight⟩))] [] [] (iA (checkEv ⟨7, key, slot, gen, good, request, backend, weight⟩)) [] := by
  refine fun_of_awp (rl := [.tmp 2]) Tryd.func11 rfl Tryd.results11 Tryd.ntmps11 0 rfl (by simp) ?_
  intro w0 own0 ρ0 F hz
  refine awp_seq ?_
  refine awp_region ?_
  refine r_box rfl rfl rfl trivial rfl ?_
  refine r_as rfl trivial rfl ?_
  refine reg_nil ?_
  refine awp_seq ?_
  refine awp_region ?_
  refine r_alloc z_3 rfl trivial rfl ?_
  first | refine r_st ty_3 rfl rfl rfl rfl rfl rfl rfl trivial ?_ | refine r_sto ty_3 rfl rfl rfl rfl (by assumption) rfl rfl rfl trivial ?_
  refine reg_nil ?_
  refine awp_seq ?_
  refine awp_region ?_
  refine r_callh [(0, 0), (1, 1)] 2 2 (fields_7 key slot gen good request backend weight 0) cb_20 rfl rfl rfl ?_ (.cons rfl (.cons rfl .nil)) rfl rfl rfl rfl trivial rfl ?_
  · (repeat (first | exact .nil | refine .cons .fv ?_ | refine .cons (.aggf' rfl) ?_ | refine .cons .nil ?_ | refine .cons (.ren rfl) ?_))
  refine r_mv rfl trivial rfl ?_
  refine r_ext rfl rfl trivial rfl ?_
  refine r_ext rfl rfl trivial rfl ?_
  refine r_as rfl trivial rfl ?_
  refine r_as rfl trivial rfl ?_
  refine reg_nil ?_
  refine awp_seq ?_
  refine awp_seq ?_
  refine awp_region ?_
  refine r_mv rfl trivial rfl ?_
  first | refine r_notd rfl trivial rfl ?_ | refine r_not rfl trivial rfl ?_
  refine reg_nil ?_
  refine awp_cond_f rfl ?_
  refine awp_skip ?_
  refine awp_seq ?_
  refine awp_seq ?_
  refine awp_region ?_
  refine r_mv rfl trivial rfl ?_
  first | refine r_lenr sl_49 rfl trivial rfl ?_ | refine r_lenw sl_49 rfl trivial rfl ?_ | refine r_len0 sl_49 rfl trivial rfl ?_
  refine r_mv rfl trivial rfl ?_
  refine reg_nil ?_
  refine awp_block ?_
  refine awp_unroll 1 ?_
  refine unr_succ ?_
  refine awp_seq ?_
  refine awp_region ?_
  refine r_lss rfl rfl trivial rfl ?_
  refine reg_nil ?_
  refine awp_seq ?_
  refine awp_cond_f rfl ?_
  refine awp_exit ?_
  refine awp_seq ?_
  refine awp_seq ?_
  refine awp_region ?_
  first | refine r_lda ty_37 rfl rfl rfl rfl trivial rfl ?_ | refine r_ldra ty_37 rfl rfl rfl trivial rfl ?_ | refine r_ldoa ty_37 rfl rfl (by assumption) rfl rfl trivial rfl ?_
  refine r_call (rest_7 key slot gen good request backend weight) cb_21 rfl rfl rfl ?_ trivial rfl ?_
  · (repeat (first | exact .nil | refine .cons .fv ?_ | refine .cons (.aggf' rfl) ?_ | refine .cons .nil ?_ | refine .cons (.ren rfl) ?_))
  refine r_build pl_37 z_37 rfl rfl trivial rfl ?_
  refine r_nes flat_37 (by decide) agg_37 eqg_37 rfl rfl rfl rfl rfl rfl (eqVs_ev ⟨0, key, slot, gen, good, request, backend, weight⟩ zeroEv) trivial rfl ?_
  refine reg_nil ?_
  first | refine awp_cond_dec rfl (fun h1 => ?_) (fun h1 => ?_) | refine awp_cond rfl (fun h1 => ?_) (fun h1 => ?_)
  · refine awp_seq ?_
    refine awp_region ?_
    refine r_as rfl trivial rfl ?_
    refine reg_nil ?_
    refine awp_ret ?_
    refine fin0 (.cons (.tmp rfl) .nil) (by first | exact .fv | exact .frz rfl rfl trivial | exact .nil | exact .aggf' rfl | exact .aggf) ?_
    (simp_all [checkEv, fieldsOf, restEv] <;> omega)
  · refine awp_skip ?_
    refine awp_seq ?_
    refine awp_region ?_
    refine r_as rfl trivial rfl ?_
    refine reg_nil ?_
    refine awp_ret ?_
    refine fin0 (.cons (.tmp rfl) .nil) (by first | exact .fv | exact .frz rfl rfl trivial | exact .nil | exact .aggf' rfl | exact .aggf) ?_
    (simp_all [checkEv, fieldsOf, restEv] <;> omega)
set_option maxRecDepth 100000 in
theorem check_0 (e : Ev) (hk : e.kind < 1 ∨ 7 < e.kind) : Fun Tryd.prog 11 [.agg (fvs (encEv e))] [] [] (iA (checkEv e)) [] := by
  refine fun_of_awp (rl := [.tmp 2]) Tryd.func11 rfl Tryd.results11 Tryd.ntmps11 0 rfl (by simp) ?_
  intro w0 own0 ρ0 F hz
  refine awp_seq ?_
  refine awp_region ?_
  refine r_box rfl rfl rfl trivial rfl ?_
  refine r_as rfl trivial rfl ?_
  refine reg_nil ?_
  refine awp_seq ?_
  refine awp_region ?_
  refine r_alloc z_3 rfl trivial rfl ?_
  first | refine r_st ty_3 rfl rfl rfl rfl rfl rfl rfl trivial ?_ | refine r_sto ty_3 rfl rfl rfl rfl (by assumption) rfl rfl rfl trivial ?_
  refine reg_nil ?_
  refine awp_seq ?_
  refine awp_region ?_
  refine r_callh [(0, 0), (1, 1)] 2 2 (fields_0 e 0 hk) cb_20 rfl rfl rfl ?_ (.cons rfl (.cons rfl .nil)) rfl rfl rfl rfl trivial rfl ?_
  · (repeat (first | exact .nil | refine .cons .fv ?_ | refine .cons (.aggf' rfl) ?_ | refine .cons .nil ?_ | refine .cons (.ren rfl) ?_))
  refine r_mv rfl trivial rfl ?_
  refine r_ext rfl rfl trivial rfl ?_
  refine r_ext rfl rfl trivial rfl ?_
  refine r_as rfl trivial rfl ?_
  refine r_as rfl trivial rfl ?_
  refine reg_nil ?_
  refine awp_seq ?_
  refine awp_seq ?_
  refine awp_region ?_
  refine r_mv rfl trivial rfl ?_
  first | refine r_notd rfl trivial rfl ?_ | refine r_not rfl trivial rfl ?_
  refine reg_nil ?_
  refine awp_cond_t rfl ?_
  refine awp_seq ?_
  refine awp_region ?_
  refine r_as rfl trivial rfl ?_
  refine reg_nil ?_
  refine awp_ret ?_
  refine fin0 (.cons (.tmp rfl) .nil) (by first | exact .fv | exact .frz rfl rfl trivial | exact .nil | exact .aggf' rfl | exact .aggf) ?_
  simp [checkEv, hk]
theorem check_ok (e : Ev) : Fun Tryd.prog 11 [.agg (fvs (encEv e))] [] [] (iA (checkEv e)) [] := by
  by_cases hk : e.kind < 1 ∨ 7 < e.kind
  · exact check_0 e hk
  obtain ⟨kind, key, slot, gen, good, request, backend, weight⟩ := e
  simp only at hk
  have : kind = 1 ∨ kind = 2 ∨ kind = 3 ∨ kind = 4 ∨ kind = 5 ∨ kind = 6 ∨ kind = 7 := by omega
  rcases this with rfl | rfl | rfl | rfl | rfl | rfl | rfl
  · exact check_1 key slot gen good request backend weight
  · exact check_2 key slot gen good request backend weight
  · exact check_3 key slot gen good request backend weight
  · exact check_4 key slot gen good request backend weight
  · exact check_5 key slot gen good request backend weight
  · exact check_6 key slot gen good request backend weight
  · exact check_7 key slot gen good request backend weight
end Go.Uw.D
