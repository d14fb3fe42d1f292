/- A helper text of this claim: lemmas of an abstract machine over the model, or walks in it. Own work of an AI agent. -/
import Derived.Test.YtkcjomglcjhkgaaDoorD4
set_option linter.unusedVariables false
set_option linter.unusedSimpArgs false
namespace Go.Uw.D
set_option linter.unusedSimpArgs false
open Go Go.Uw Go.Proofs
def wordL (k : Int) : List UInt8 :=
  if k = 1 then [111, 112, 101, 110] else if k = 2 then [100, 97, 116, 97] else if k = 3 then [99, 108, 111, 115, 101] else if k = 4 then [97, 110, 115, 119, 101, 114]
  else if k = 5 then [106, 111, 105, 110] else if k = 6 then [114, 101, 116, 105, 114, 101] else if k = 7 then [116, 105, 99, 107] else []
def decL (n : Nat) : List UInt8 := if h : n < 10 then [UInt8.ofNat (48 + n)] else decL (n / 10) ++ [UInt8.ofNat (48 + n % 10)]
termination_by n
decreasing_by omega
theorem decL_small {n : Nat} (h : n < 10) : decL n = [UInt8.ofNat (48 + n)] := by rw [decL]; simp [h]
theorem decL_big {n : Nat} (h : ¬ n < 10) : decL n = decL (n / 10) ++ [UInt8.ofNat (48 + n % 10)] := by rw [decL]; simp [h]
theorem decL_len (n : Nat) : (decL n).length ≤ n + 1 := by
  induction n using Nat.strongRecOn with
  | _ n ih =>
    by_cases h : n < 10
    · rw [decL_small h]; simp
    · rw [decL_big h]; have := ih (n / 10) (by omega); simp; omega
theorem dig_rows (m : Nat) (h : m < 256) : [[FV.lit (.int .u8 (m : Int))]] = bytesF [UInt8.ofNat m] := by
  simp [bytesF]; omega
def fieldVals (e : Ev) : List Int :=
  if e.kind = 1 then [e.key] else if e.kind = 2 ∨ e.kind = 3 ∨ e.kind = 4 then [e.slot, e.gen] else if e.kind = 5 then [e.request, e.backend, e.weight]
  else if e.kind = 6 then [e.request, e.backend] else []
def lineL (e : Ev) : List UInt8 :=
  (fieldVals e).foldl (fun s n => s ++ [32] ++ decL n.toNat) (wordL e.kind) ++ (if e.kind = 4 then (if e.good then [32, 103, 111, 111, 100] else [32, 98, 97, 100]) else [])

set_option maxRecDepth 100000 in
theorem word_ok (k : Int) : Fun Tryd.prog 29 [iA k] [] [] (sA (wordL k)) [] := by
  refine fun_of_awp (rl := [.tmp 2]) Tryd.func29 rfl Tryd.results29 Tryd.ntmps29 0 rfl (by simp) ?_
  intro w0 own0 ρ0 F hz
  refine awp_seq ?_
  refine awp_region ?_
  refine r_as rfl trivial rfl ?_
  refine reg_nil ?_
  refine awp_seq ?_
  refine awp_seq ?_
  refine awp_region ?_
  refine r_mv rfl trivial rfl ?_
  refine reg_nil ?_
  refine awp_block ?_
  refine awp_seq ?_
  refine awp_region ?_
  refine r_eqi rfl rfl trivial rfl ?_
  refine r_as rfl trivial rfl ?_
  refine reg_nil ?_
  first | refine awp_cond_dec rfl (fun h1 => ?_) (fun h1 => ?_) | refine awp_cond rfl (fun h1 => ?_) (fun h1 => ?_)
  · refine awp_seq ?_
    refine awp_region ?_
    refine r_as rfl trivial rfl ?_
    refine reg_nil ?_
    refine awp_ret ?_
    refine fin0 (.cons (.tmp rfl) .nil) (by first | exact .fv | exact .frz rfl rfl trivial | exact .nil | exact .aggf' rfl | exact .aggf) ?_
    simp_all [wordL]
  · refine awp_seq ?_
    refine awp_region ?_
    refine r_eqi rfl rfl trivial rfl ?_
    refine r_as rfl trivial rfl ?_
    refine reg_nil ?_
    first | refine awp_cond_dec rfl (fun h2 => ?_) (fun h2 => ?_) | refine awp_cond rfl (fun h2 => ?_) (fun h2 => ?_)
    · refine awp_seq ?_
      refine awp_region ?_
      refine r_as rfl trivial rfl ?_
      refine reg_nil ?_
      refine awp_ret ?_
      refine fin0 (.cons (.tmp rfl) .nil) (by first | exact .fv | exact .frz rfl rfl trivial | exact .nil | exact .aggf' rfl | exact .aggf) ?_
      simp_all [wordL]
    · refine awp_seq ?_
      refine awp_region ?_
      refine r_eqi rfl rfl trivial rfl ?_
      refine r_as rfl trivial rfl ?_
      refine reg_nil ?_
      first | refine awp_cond_dec rfl (fun h3 => ?_) (fun h3 => ?_) | refine awp_cond rfl (fun h3 => ?_) (fun h3 => ?_)
      · refine awp_seq ?_
        refine awp_region ?_
        refine r_as rfl trivial rfl ?_
        refine reg_nil ?_
        refine awp_ret ?_
        refine fin0 (.cons (.tmp rfl) .nil) (by first | exact .fv | exact .frz rfl rfl trivial | exact .nil | exact .aggf' rfl | exact .aggf) ?_
        simp_all [wordL]
      · refine awp_seq ?_
        refine awp_region ?_
        refine r_eqi rfl rfl trivial rfl ?_
        refine r_as rfl trivial rfl ?_
        refine reg_nil ?_
        first | refine awp_cond_dec rfl (fun h4 => ?_) (fun h4 => ?_) | refine awp_cond rfl (fun h4 => ?_) (fun h4 => ?_)
        · refine awp_seq ?_
          refine awp_region ?_
          refine r_as rfl trivial rfl ?_
          refine reg_nil ?_
          refine awp_ret ?_
          refine fin0 (.cons (.tmp rfl) .nil) (by first | exact .fv | exact .frz rfl rfl trivial | exact .nil | exact .aggf' rfl | exact .aggf) ?_
          simp_all [wordL]
        · refine awp_seq ?_
          refine awp_region ?_
          refine r_eqi rfl rfl trivial rfl ?_
          refine r_as rfl trivial rfl ?_
          refine reg_nil ?_
          first | refine awp_cond_dec rfl (fun h5 => ?_) (fun h5 => ?_) | refine awp_cond rfl (fun h5 => ?_) (fun h5 => ?_)
          · refine awp_seq ?_
            refine awp_region ?_
            refine r_as rfl trivial rfl ?_
            refine reg_nil ?_
            refine awp_ret ?_
            refine fin0 (.cons (.tmp rfl) .nil) (by first | exact .fv | exact .frz rfl rfl trivial | exact .nil | exact .aggf' rfl | exact .aggf) ?_
            simp_all [wordL]
          · refine awp_seq ?_
            refine awp_region ?_
            refine r_eqi rfl rfl trivial rfl ?_
            refine r_as rfl trivial rfl ?_
            refine reg_nil ?_
            first | refine awp_cond_dec rfl (fun h6 => ?_) (fun h6 => ?_) | refine awp_cond rfl (fun h6 => ?_) (fun h6 => ?_)
            · refine awp_seq ?_
              refine awp_region ?_
              refine r_as rfl trivial rfl ?_
              refine reg_nil ?_
              refine awp_ret ?_
              refine fin0 (.cons (.tmp rfl) .nil) (by first | exact .fv | exact .frz rfl rfl trivial | exact .nil | exact .aggf' rfl | exact .aggf) ?_
              simp_all [wordL]
            · refine awp_seq ?_
              refine awp_region ?_
              refine r_eqi rfl rfl trivial rfl ?_
              refine r_as rfl trivial rfl ?_
              refine reg_nil ?_
              first | refine awp_cond_dec rfl (fun h7 => ?_) (fun h7 => ?_) | refine awp_cond rfl (fun h7 => ?_) (fun h7 => ?_)
              · refine awp_seq ?_
                refine awp_region ?_
                refine r_as rfl trivial rfl ?_
                refine reg_nil ?_
                refine awp_ret ?_
                refine fin0 (.cons (.tmp rfl) .nil) (by first | exact .fv | exact .frz rfl rfl trivial | exact .nil | exact .aggf' rfl | exact .aggf) ?_
                simp_all [wordL]
              · refine awp_skip ?_
                refine awp_seq ?_
                refine awp_region ?_
                refine r_as rfl trivial rfl ?_
                refine reg_nil ?_
                refine awp_ret ?_
                refine fin0 (.cons (.tmp rfl) .nil) (by first | exact .fv | exact .frz rfl rfl trivial | exact .nil | exact .aggf' rfl | exact .aggf) ?_
                simp_all [wordL]
set_option maxRecDepth 100000 in
theorem dec_nat : ∀ (n : Nat) (hn : (n : Int) ≤ 9223372036854775807), Fun Tryd.prog 30 [iA n] [] [] (sA (decL n)) [] := by
  intro n
  induction n using Nat.strongRecOn
  rename_i n ih
  intro hn
  refine fun_of_awp (rl := [.tmp 2]) Tryd.func30 rfl Tryd.results30 Tryd.ntmps30 0 rfl (by simp) ?_
  intro w0 own0 ρ0 F hz
  refine awp_seq ?_
  refine awp_region ?_
  refine r_as rfl trivial rfl ?_
  refine reg_nil ?_
  refine awp_seq ?_
  refine awp_seq ?_
  refine awp_region ?_
  refine r_mv rfl trivial rfl ?_
  refine r_lss rfl rfl trivial rfl ?_
  refine reg_nil ?_
  first | refine awp_cond_dec rfl (fun h1 => ?_) (fun h1 => ?_) | refine awp_cond rfl (fun h1 => ?_) (fun h1 => ?_)
  · refine awp_seq ?_
    refine awp_region ?_
    refine r_mv rfl trivial rfl ?_
    refine r_add rfl rfl (rng64 (by omega)) trivial rfl ?_
    refine r_convi in_3 in_5 rfl (by simp [IntKind.min, IntKind.max, IntKind.bits, IntKind.signed]; omega) trivial rfl ?_
    refine r_bslice (rs := [[_]]) sl_33 ty_5 rfl z_5 rfl rfl rfl rfl rfl rfl rfl trivial rfl ?_
    refine r_b2s sl_33 u8_5 us_9 rfl rfl (show _ = bytesF [UInt8.ofNat (48 + n)] by rw [show (48 + (n : Int)) = ((48 + n : Nat) : Int) by omega]; exact dig_rows _ (by omega)) rfl trivial rfl ?_
    refine r_as rfl trivial rfl ?_
    refine reg_nil ?_
    refine awp_ret ?_
    refine fin0 (.cons (.tmp rfl) .nil) (by first | exact .fv | exact .frz rfl rfl trivial | exact .nil | exact .aggf' rfl | exact .aggf) ?_
    rw [decL_small (n := n) (by omega)]
  · refine awp_skip ?_
    refine awp_seq ?_
    refine awp_draw mix rfl ?_
    refine r_mv rfl trivial rfl ?_
    refine r_quo rfl rfl (by omega) (by omega) trivial rfl ?_
    refine r_call (ih (n / 10) (by omega) (by omega)) cb_30 rfl rfl rfl ?_ trivial rfl ?_
    · (repeat (first | exact .nil | refine .cons .fv ?_ | refine .cons (.aggf' rfl) ?_ | refine .cons .nil ?_ | refine .cons (.ren rfl) ?_))
    refine r_mv rfl trivial rfl ?_
    refine r_rem rfl rfl (by omega) (by omega) trivial rfl ?_
    refine r_add rfl rfl (rng64 (by omega)) trivial rfl ?_
    refine r_convi in_3 in_5 rfl (by simp [IntKind.min, IntKind.max, IntKind.bits, IntKind.signed]; omega) trivial rfl ?_
    refine r_bslice (rs := [[_]]) sl_33 ty_5 rfl z_5 rfl rfl rfl rfl rfl rfl rfl trivial rfl ?_
    refine r_b2s sl_33 u8_5 us_9 rfl rfl (show _ = bytesF [UInt8.ofNat (48 + n % 10)] by rw [show (48 + (n : Int) % 10) = ((48 + n % 10 : Nat) : Int) by omega]; exact dig_rows _ (by omega)) rfl trivial rfl ?_
    refine r_cat rfl rfl (by have := decL_len (n / 10); simp; omega) trivial rfl ?_
    refine r_as rfl trivial rfl ?_
    refine reg_nil ⟨rfl, ?_⟩
    refine awp_ret ?_
    refine fin0 (.cons (.tmp rfl) .nil) (by first | exact .fv | exact .frz rfl rfl trivial | exact .nil | exact .aggf' rfl | exact .aggf) ?_
    rw [decL_big (n := n) (by omega)]
theorem dec_ok (n : Int) (h0 : 0 ≤ n) (h1 : n ≤ 9223372036854775807) : Fun Tryd.prog 30 [iA n] [] [] (sA (decL n.toNat)) [] := by
  have := dec_nat n.toNat (by omega)
  rwa [Int.toNat_of_nonneg h0] at this
set_option maxRecDepth 100000 in
theorem line_1 (key slot gen : Int) (good : Bool) (request backend weight : Int) (hkey : 0 ≤ key ∧ key ≤ 4294967295) : Fun Tryd.prog 16 [.agg (fvs (encEv ⟨1, key, slot, gen, good, request, backend, weight⟩))] [] [] (sA (lineL ⟨1, key, slot, gen, good, request, backend, weight⟩)) [] := by
  refine fun_of_awp (rl := [.tmp 2]) Tryd.func16 rfl Tryd.results16 Tryd.ntmps16 0 rfl (by simp) ?_
  intro w0 own0 ρ0 F hz
  refine awp_seq ?_
  refine awp_region ?_
  refine r_box rfl rfl rfl trivial rfl ?_
  refine r_as rfl trivial rfl ?_
  refine reg_nil ?_
  refine awp_seq ?_
  refine awp_region ?_
  first | refine r_lda ty_37 rfl rfl rfl rfl trivial rfl ?_ | refine r_ldra ty_37 rfl rfl rfl trivial rfl ?_ | refine r_ldoa ty_37 rfl rfl (by assumption) rfl rfl trivial rfl ?_
  refine r_call (numbers_1 key slot gen good request backend weight) cb_26 rfl rfl rfl ?_ trivial rfl ?_
  · (repeat (first | exact .nil | refine .cons .fv ?_ | refine .cons (.aggf' rfl) ?_ | refine .cons .nil ?_ | refine .cons (.ren rfl) ?_))
  refine r_mv rfl trivial rfl ?_
  refine r_ext rfl rfl trivial rfl ?_
  refine r_ext rfl rfl trivial rfl ?_
  refine r_ext rfl rfl trivial rfl ?_
  refine r_ext rfl rfl trivial rfl ?_
  refine r_as rfl trivial rfl ?_
  refine r_as rfl trivial rfl ?_
  refine r_as rfl trivial rfl ?_
  refine r_as rfl trivial rfl ?_
  refine reg_nil ?_
  refine awp_seq ?_
  refine awp_region ?_
  first | refine r_fld fld_37_0 rfl trivial rfl ?_ | refine r_fldr fld_37_0 rfl trivial rfl ?_
  first | refine r_ld ty_3 rfl rfl rfl trivial rfl ?_ | refine r_ldr ty_3 rfl rfl trivial rfl ?_ | refine r_ldo ty_3 rfl rfl (by assumption) rfl trivial rfl ?_
  refine r_call (word_ok 1) cb_29 rfl rfl rfl ?_ trivial rfl ?_
  · (repeat (first | exact .nil | refine .cons .fv ?_ | refine .cons (.aggf' rfl) ?_ | refine .cons .nil ?_ | refine .cons (.ren rfl) ?_))
  refine r_as rfl trivial rfl ?_
  refine reg_nil ?_
  refine awp_seq ?_
  refine awp_seq ?_
  refine awp_region ?_
  refine r_as rfl trivial rfl ?_
  refine reg_nil ?_
  refine awp_block ?_
  refine awp_unroll 2 ?_
  refine unr_succ ?_
  refine awp_seq ?_
  refine awp_seq ?_
  refine awp_region ?_
  refine r_mv rfl trivial rfl ?_
  refine r_mv rfl trivial rfl ?_
  first | refine r_lenr sl_63 rfl trivial rfl ?_ | refine r_lenw sl_63 rfl trivial rfl ?_ | refine r_len0 sl_63 rfl trivial rfl ?_
  refine r_lss rfl rfl trivial rfl ?_
  refine reg_nil ?_
  refine awp_cond_t rfl ?_
  refine awp_skip ?_
  refine awp_seq ?_
  refine awp_block ?_
  refine awp_seq ?_
  refine awp_seq ?_
  refine awp_region ?_
  first | refine r_fld fld_37_0 rfl trivial rfl ?_ | refine r_fldr fld_37_0 rfl trivial rfl ?_
  first | refine r_ld ty_3 rfl rfl rfl trivial rfl ?_ | refine r_ldr ty_3 rfl rfl trivial rfl ?_ | refine r_ldo ty_3 rfl rfl (by assumption) rfl trivial rfl ?_
  refine r_eqi rfl rfl trivial rfl ?_
  refine r_mv rfl trivial rfl ?_
  refine r_skip ⟨_, rfl, .inl rfl⟩ rfl ?_
  refine r_skip ⟨_, rfl, .inl rfl⟩ rfl ?_
  refine r_pkf rfl rfl trivial rfl ?_
  refine reg_nil ?_
  refine awp_cond_f rfl ?_
  refine awp_skip ?_
  refine awp_region ?_
  refine r_mv rfl trivial rfl ?_
  refine r_cat rfl rfl (by have lkey := decL_len key.toNat; simp [wordL] <;> omega) trivial rfl ?_
  refine r_mv rfl trivial rfl ?_
  refine r_mv rfl trivial rfl ?_
  first | refine r_ixr sl_63 ty_3 rfl rfl (by decide) rfl trivial rfl ?_ | refine r_ixw sl_63 ty_3 rfl rfl (by decide) (by omega) trivial rfl ?_
  first | refine r_ld ty_3 rfl rfl rfl trivial rfl ?_ | refine r_ldr ty_3 rfl rfl trivial rfl ?_ | refine r_ldo ty_3 rfl rfl (by assumption) rfl trivial rfl ?_
  refine r_call (dec_ok key (by omega) (by omega)) cb_30 rfl rfl rfl ?_ trivial rfl ?_
  · (repeat (first | exact .nil | refine .cons .fv ?_ | refine .cons (.aggf' rfl) ?_ | refine .cons .nil ?_ | refine .cons (.ren rfl) ?_))
  refine r_cat rfl rfl (by have lkey := decL_len key.toNat; simp [wordL] <;> omega) trivial rfl ?_
  refine r_as rfl trivial rfl ?_
  refine reg_nil ?_
  refine awp_region ?_
  refine r_mv rfl trivial rfl ?_
  refine r_add rfl rfl (rng64 (by omega)) trivial rfl ?_
  refine r_as rfl trivial rfl ?_
  refine reg_nil ?_
  refine unr_succ ?_
  refine awp_seq ?_
  refine awp_seq ?_
  refine awp_region ?_
  refine r_mv rfl trivial rfl ?_
  refine r_mv rfl trivial rfl ?_
  first | refine r_lenr sl_63 rfl trivial rfl ?_ | refine r_lenw sl_63 rfl trivial rfl ?_ | refine r_len0 sl_63 rfl trivial rfl ?_
  refine r_lss rfl rfl trivial rfl ?_
  refine reg_nil ?_
  refine awp_cond_f rfl ?_
  refine awp_exit ?_
  refine awp_seq ?_
  refine awp_seq ?_
  refine awp_region ?_
  first | refine r_fld fld_37_0 rfl trivial rfl ?_ | refine r_fldr fld_37_0 rfl trivial rfl ?_
  first | refine r_ld ty_3 rfl rfl rfl trivial rfl ?_ | refine r_ldr ty_3 rfl rfl trivial rfl ?_ | refine r_ldo ty_3 rfl rfl (by assumption) rfl trivial rfl ?_
  refine r_eqi rfl rfl trivial rfl ?_
  refine r_mv rfl trivial rfl ?_
  refine r_skip ⟨_, rfl, .inl rfl⟩ rfl ?_
  refine r_skip ⟨_, rfl, .inl rfl⟩ rfl ?_
  refine r_pkf rfl rfl trivial rfl ?_
  refine reg_nil ?_
  refine awp_cond_f rfl ?_
  refine awp_skip ?_
  refine awp_seq ?_
  refine awp_seq ?_
  refine awp_region ?_
  first | refine r_fld fld_37_0 rfl trivial rfl ?_ | refine r_fldr fld_37_0 rfl trivial rfl ?_
  first | refine r_ld ty_3 rfl rfl rfl trivial rfl ?_ | refine r_ldr ty_3 rfl rfl trivial rfl ?_ | refine r_ldo ty_3 rfl rfl (by assumption) rfl trivial rfl ?_
  refine r_eqi rfl rfl trivial rfl ?_
  refine r_mv rfl trivial rfl ?_
  refine r_skip ⟨_, rfl, .inl rfl⟩ rfl ?_
  refine r_skip ⟨_, rfl, .inl rfl⟩ rfl ?_
  refine r_skip ⟨_, rfl, .inl rfl⟩ rfl ?_
  refine r_pkf rfl rfl trivial rfl ?_
  refine reg_nil ?_
  refine awp_cond_f rfl ?_
  refine awp_skip ?_
  refine awp_seq ?_
  refine awp_region ?_
  refine r_mv rfl trivial rfl ?_
  refine r_as rfl trivial rfl ?_
  refine reg_nil ?_
  refine awp_ret ?_
  refine fin0 (.cons (.tmp rfl) .nil) (by first | exact .fv | exact .frz rfl rfl trivial | exact .nil | exact .aggf' rfl | exact .aggf) ?_
  simp [lineL, fieldVals, wordL]
set_option maxRecDepth 100000 in
theorem line_2 (key slot gen : Int) (good : Bool) (request backend weight : Int) (hslot : 0 ≤ slot ∧ slot ≤ 39) (hgen : 0 ≤ gen ∧ gen ≤ 1048576) : Fun Tryd.prog 16 [.agg (fvs (encEv ⟨2, key, slot, gen, good, request, backend, weight⟩))] [] [] (sA (lineL ⟨2, key, slot, gen, good, request, backend, weight⟩)) [] := by
  refine fun_of_awp (rl := [.tmp 2]) Tryd.func16 rfl Tryd.results16 Tryd.ntmps16 0 rfl (by simp) ?_
  intro w0 own0 ρ0 F hz
  refine awp_seq ?_
  refine awp_region ?_
  refine r_box rfl rfl rfl trivial rfl ?_
  refine r_as rfl trivial rfl ?_
  refine reg_nil ?_
  refine awp_seq ?_
  refine awp_region ?_
  first | refine r_lda ty_37 rfl rfl rfl rfl trivial rfl ?_ | refine r_ldra ty_37 rfl rfl rfl trivial rfl ?_ | refine r_ldoa ty_37 rfl rfl (by assumption) rfl rfl trivial rfl ?_
  refine r_call (numbers_2 key slot gen good request backend weight) cb_26 rfl rfl rfl ?_ trivial rfl ?_
  · (repeat (first | exact .nil | refine .cons .fv ?_ | refine .cons (.aggf' rfl) ?_ | refine .cons .nil ?_ | refine .cons (.ren rfl) ?_))
  refine r_mv rfl trivial rfl ?_
  refine r_ext rfl rfl trivial rfl ?_
  refine r_ext rfl rfl trivial rfl ?_
  refine r_ext rfl rfl trivial rfl ?_
  refine r_ext rfl rfl trivial rfl ?_
  refine r_as rfl trivial rfl ?_
  refine r_as rfl trivial rfl ?_
  refine r_as rfl trivial rfl ?_
  refine r_as rfl trivial rfl ?_
  refine reg_nil ?_
  refine awp_seq ?_
  refine awp_region ?_
  first | refine r_fld fld_37_0 rfl trivial rfl ?_ | refine r_fldr fld_37_0 rfl trivial rfl ?_
  first | refine r_ld ty_3 rfl rfl rfl trivial rfl ?_ | refine r_ldr ty_3 rfl rfl trivial rfl ?_ | refine r_ldo ty_3 rfl rfl (by assumption) rfl trivial rfl ?_
  refine r_call (word_ok 2) cb_29 rfl rfl rfl ?_ trivial rfl ?_
  · (repeat (first | exact .nil | refine .cons .fv ?_ | refine .cons (.aggf' rfl) ?_ | refine .cons .nil ?_ | refine .cons (.ren rfl) ?_))
  refine r_as rfl trivial rfl ?_
  refine reg_nil ?_
  refine awp_seq ?_
  refine awp_seq ?_
  refine awp_region ?_
  refine r_as rfl trivial rfl ?_
  refine reg_nil ?_
  refine awp_block ?_
  refine awp_unroll 3 ?_
  refine unr_succ ?_
  refine awp_seq ?_
  refine awp_seq ?_
  refine awp_region ?_
  refine r_mv rfl trivial rfl ?_
  refine r_mv rfl trivial rfl ?_
  first | refine r_lenr sl_63 rfl trivial rfl ?_ | refine r_lenw sl_63 rfl trivial rfl ?_ | refine r_len0 sl_63 rfl trivial rfl ?_
  refine r_lss rfl rfl trivial rfl ?_
  refine reg_nil ?_
  refine awp_cond_t rfl ?_
  refine awp_skip ?_
  refine awp_seq ?_
  refine awp_block ?_
  refine awp_seq ?_
  refine awp_seq ?_
  refine awp_region ?_
  first | refine r_fld fld_37_0 rfl trivial rfl ?_ | refine r_fldr fld_37_0 rfl trivial rfl ?_
  first | refine r_ld ty_3 rfl rfl rfl trivial rfl ?_ | refine r_ldr ty_3 rfl rfl trivial rfl ?_ | refine r_ldo ty_3 rfl rfl (by assumption) rfl trivial rfl ?_
  refine r_eqi rfl rfl trivial rfl ?_
  refine r_mv rfl trivial rfl ?_
  refine r_skip ⟨_, rfl, .inl rfl⟩ rfl ?_
  refine r_skip ⟨_, rfl, .inl rfl⟩ rfl ?_
  refine r_pkf rfl rfl trivial rfl ?_
  refine reg_nil ?_
  refine awp_cond_f rfl ?_
  refine awp_skip ?_
  refine awp_region ?_
  refine r_mv rfl trivial rfl ?_
  refine r_cat rfl rfl (by have lslot := decL_len slot.toNat; have lgen := decL_len gen.toNat; simp [wordL] <;> omega) trivial rfl ?_
  refine r_mv rfl trivial rfl ?_
  refine r_mv rfl trivial rfl ?_
  first | refine r_ixr sl_63 ty_3 rfl rfl (by decide) rfl trivial rfl ?_ | refine r_ixw sl_63 ty_3 rfl rfl (by decide) (by omega) trivial rfl ?_
  first | refine r_ld ty_3 rfl rfl rfl trivial rfl ?_ | refine r_ldr ty_3 rfl rfl trivial rfl ?_ | refine r_ldo ty_3 rfl rfl (by assumption) rfl trivial rfl ?_
  refine r_call (dec_ok slot (by omega) (by omega)) cb_30 rfl rfl rfl ?_ trivial rfl ?_
  · (repeat (first | exact .nil | refine .cons .fv ?_ | refine .cons (.aggf' rfl) ?_ | refine .cons .nil ?_ | refine .cons (.ren rfl) ?_))
  refine r_cat rfl rfl (by have lslot := decL_len slot.toNat; have lgen := decL_len gen.toNat; simp [wordL] <;> omega) trivial rfl ?_
  refine r_as rfl trivial rfl ?_
  refine reg_nil ?_
  refine awp_region ?_
  refine r_mv rfl trivial rfl ?_
  refine r_add rfl rfl (rng64 (by omega)) trivial rfl ?_
  refine r_as rfl trivial rfl ?_
  refine reg_nil ?_
  refine unr_succ ?_
  refine awp_seq ?_
  refine awp_seq ?_
  refine awp_region ?_
  refine r_mv rfl trivial rfl ?_
  refine r_mv rfl trivial rfl ?_
  first | refine r_lenr sl_63 rfl trivial rfl ?_ | refine r_lenw sl_63 rfl trivial rfl ?_ | refine r_len0 sl_63 rfl trivial rfl ?_
  refine r_lss rfl rfl trivial rfl ?_
  refine reg_nil ?_
  refine awp_cond_t rfl ?_
  refine awp_skip ?_
  refine awp_seq ?_
  refine awp_block ?_
  refine awp_seq ?_
  refine awp_seq ?_
  refine awp_region ?_
  first | refine r_fld fld_37_0 rfl trivial rfl ?_ | refine r_fldr fld_37_0 rfl trivial rfl ?_
  first | refine r_ld ty_3 rfl rfl rfl trivial rfl ?_ | refine r_ldr ty_3 rfl rfl trivial rfl ?_ | refine r_ldo ty_3 rfl rfl (by assumption) rfl trivial rfl ?_
  refine r_eqi rfl rfl trivial rfl ?_
  refine r_mv rfl trivial rfl ?_
  refine r_skip ⟨_, rfl, .inl rfl⟩ rfl ?_
  refine r_skip ⟨_, rfl, .inl rfl⟩ rfl ?_
  refine r_pkf rfl rfl trivial rfl ?_
  refine reg_nil ?_
  refine awp_cond_f rfl ?_
  refine awp_skip ?_
  refine awp_region ?_
  refine r_mv rfl trivial rfl ?_
  refine r_cat rfl rfl (by have lslot := decL_len slot.toNat; have lgen := decL_len gen.toNat; simp [wordL] <;> omega) trivial rfl ?_
  refine r_mv rfl trivial rfl ?_
  refine r_mv rfl trivial rfl ?_
  first | refine r_ixr sl_63 ty_3 rfl rfl (by decide) rfl trivial rfl ?_ | refine r_ixw sl_63 ty_3 rfl rfl (by decide) (by omega) trivial rfl ?_
  first | refine r_ld ty_3 rfl rfl rfl trivial rfl ?_ | refine r_ldr ty_3 rfl rfl trivial rfl ?_ | refine r_ldo ty_3 rfl rfl (by assumption) rfl trivial rfl ?_
  refine r_call (dec_ok gen (by omega) (by omega)) cb_30 rfl rfl rfl ?_ trivial rfl ?_
  · (repeat (first | exact .nil | refine .cons .fv ?_ | refine .cons (.aggf' rfl) ?_ | refine .cons .nil ?_ | refine .cons (.ren rfl) ?_))
  refine r_cat rfl rfl (by have lslot := decL_len slot.toNat; have lgen := decL_len gen.toNat; simp [wordL] <;> omega) trivial rfl ?_
  refine r_as rfl trivial rfl ?_
  refine reg_nil ?_
  refine awp_region ?_
  refine r_mv rfl trivial rfl ?_
  refine r_add rfl rfl (rng64 (by omega)) trivial rfl ?_
  refine r_as rfl trivial rfl ?_
  refine reg_nil ?_
  refine unr_succ ?_
  refine awp_seq ?_
  refine awp_seq ?_
  refine awp_region ?_
  refine r_mv rfl trivial rfl ?_
  refine r_mv rfl trivial rfl ?_
  first | refine r_lenr sl_63 rfl trivial rfl ?_ | refine r_lenw sl_63 rfl trivial rfl ?_ | refine r_len0 sl_63 rfl trivial rfl ?_
  refine r_lss rfl rfl trivial rfl ?_
  refine reg_nil ?_
  refine awp_cond_f rfl ?_
  refine awp_exit ?_
  refine awp_seq ?_
  refine awp_seq ?_
  refine awp_region ?_
  first | refine r_fld fld_37_0 rfl trivial rfl ?_ | refine r_fldr fld_37_0 rfl trivial rfl ?_
  first | refine r_ld ty_3 rfl rfl rfl trivial rfl ?_ | refine r_ldr ty_3 rfl rfl trivial rfl ?_ | refine r_ldo ty_3 rfl rfl (by assumption) rfl trivial rfl ?_
  refine r_eqi rfl rfl trivial rfl ?_
  refine r_mv rfl trivial rfl ?_
  refine r_skip ⟨_, rfl, .inl rfl⟩ rfl ?_
  refine r_skip ⟨_, rfl, .inl rfl⟩ rfl ?_
  refine r_pkf rfl rfl trivial rfl ?_
  refine reg_nil ?_
  refine awp_cond_f rfl ?_
  refine awp_skip ?_
  refine awp_seq ?_
  refine awp_seq ?_
  refine awp_region ?_
  first | refine r_fld fld_37_0 rfl trivial rfl ?_ | refine r_fldr fld_37_0 rfl trivial rfl ?_
  first | refine r_ld ty_3 rfl rfl rfl trivial rfl ?_ | refine r_ldr ty_3 rfl rfl trivial rfl ?_ | refine r_ldo ty_3 rfl rfl (by assumption) rfl trivial rfl ?_
  refine r_eqi rfl rfl trivial rfl ?_
  refine r_mv rfl trivial rfl ?_
  refine r_skip ⟨_, rfl, .inl rfl⟩ rfl ?_
  refine r_skip ⟨_, rfl, .inl rfl⟩ rfl ?_
  refine r_skip ⟨_, rfl, .inl rfl⟩ rfl ?_
  refine r_pkf rfl rfl trivial rfl ?_
  refine reg_nil ?_
  refine awp_cond_f rfl ?_
  refine awp_skip ?_
  refine awp_seq ?_
  refine awp_region ?_
  refine r_mv rfl trivial rfl ?_
  refine r_as rfl trivial rfl ?_
  refine reg_nil ?_
  refine awp_ret ?_
  refine fin0 (.cons (.tmp rfl) .nil) (by first | exact .fv | exact .frz rfl rfl trivial | exact .nil | exact .aggf' rfl | exact .aggf) ?_
  simp [lineL, fieldVals, wordL]
set_option maxRecDepth 100000 in
theorem line_3 (key slot gen : Int) (good : Bool) (request backend weight : Int) (hslot : 0 ≤ slot ∧ slot ≤ 39) (hgen : 0 ≤ gen ∧ gen ≤ 1048576) : Fun Tryd.prog 16 [.agg (fvs (encEv ⟨3, key, slot, gen, good, request, backend, weight⟩))] [] [] (sA (lineL ⟨3, key, slot, gen, good, request, backend, weight⟩)) [] := by
  refine fun_of_awp (rl := [.tmp 2]) Tryd.func16 rfl Tryd.results16 Tryd.ntmps16 0 rfl (by simp) ?_
  intro w0 own0 ρ0 F hz
  refine awp_seq ?_
  refine awp_region ?_
  refine r_box rfl rfl rfl trivial rfl ?_
  refine r_as rfl trivial rfl ?_
  refine reg_nil ?_
  refine awp_seq ?_
  refine awp_region ?_
  first | refine r_lda ty_37 rfl rfl rfl rfl trivial rfl ?_ | refine r_ldra ty_37 rfl rfl rfl trivial rfl ?_ | refine r_ldoa ty_37 rfl rfl (by assumption) rfl rfl trivial rfl ?_
  refine r_call (numbers_3 key slot gen good request backend weight) cb_26 rfl rfl rfl ?_ trivial rfl ?_
  · (repeat (first | exact .nil | refine .cons .fv ?_ | refine .cons (.aggf' rfl) ?_ | refine .cons .nil ?_ | refine .cons (.ren rfl) ?_))
  refine r_mv rfl trivial rfl ?_
  refine r_ext rfl rfl trivial rfl ?_
  refine r_ext rfl rfl trivial rfl ?_
  refine r_ext rfl rfl trivial rfl ?_
  refine r_ext rfl rfl trivial rfl ?_
  refine r_as rfl trivial rfl ?_
  refine r_as rfl trivial rfl ?_
  refine r_as rfl trivial rfl ?_
  refine r_as rfl trivial rfl ?_
  refine reg_nil ?_
  refine awp_seq ?_
  refine awp_region ?_
  first | refine r_fld fld_37_0 rfl trivial rfl ?_ | refine r_fldr fld_37_0 rfl trivial rfl ?_
  first | refine r_ld ty_3 rfl rfl rfl trivial rfl ?_ | refine r_ldr ty_3 rfl rfl trivial rfl ?_ | refine r_ldo ty_3 rfl rfl (by assumption) rfl trivial rfl ?_
  refine r_call (word_ok 3) cb_29 rfl rfl rfl ?_ trivial rfl ?_
  · (repeat (first | exact .nil | refine .cons .fv ?_ | refine .cons (.aggf' rfl) ?_ | refine .cons .nil ?_ | refine .cons (.ren rfl) ?_))
  refine r_as rfl trivial rfl ?_
  refine reg_nil ?_
  refine awp_seq ?_
  refine awp_seq ?_
  refine awp_region ?_
  refine r_as rfl trivial rfl ?_
  refine reg_nil ?_
  refine awp_block ?_
  refine awp_unroll 3 ?_
  refine unr_succ ?_
  refine awp_seq ?_
  refine awp_seq ?_
  refine awp_region ?_
  refine r_mv rfl trivial rfl ?_
  refine r_mv rfl trivial rfl ?_
  first | refine r_lenr sl_63 rfl trivial rfl ?_ | refine r_lenw sl_63 rfl trivial rfl ?_ | refine r_len0 sl_63 rfl trivial rfl ?_
  refine r_lss rfl rfl trivial rfl ?_
  refine reg_nil ?_
  refine awp_cond_t rfl ?_
  refine awp_skip ?_
  refine awp_seq ?_
  refine awp_block ?_
  refine awp_seq ?_
  refine awp_seq ?_
  refine awp_region ?_
  first | refine r_fld fld_37_0 rfl trivial rfl ?_ | refine r_fldr fld_37_0 rfl trivial rfl ?_
  first | refine r_ld ty_3 rfl rfl rfl trivial rfl ?_ | refine r_ldr ty_3 rfl rfl trivial rfl ?_ | refine r_ldo ty_3 rfl rfl (by assumption) rfl trivial rfl ?_
  refine r_eqi rfl rfl trivial rfl ?_
  refine r_mv rfl trivial rfl ?_
  refine r_skip ⟨_, rfl, .inl rfl⟩ rfl ?_
  refine r_skip ⟨_, rfl, .inl rfl⟩ rfl ?_
  refine r_pkf rfl rfl trivial rfl ?_
  refine reg_nil ?_
  refine awp_cond_f rfl ?_
  refine awp_skip ?_
  refine awp_region ?_
  refine r_mv rfl trivial rfl ?_
  refine r_cat rfl rfl (by have lslot := decL_len slot.toNat; have lgen := decL_len gen.toNat; simp [wordL] <;> omega) trivial rfl ?_
  refine r_mv rfl trivial rfl ?_
  refine r_mv rfl trivial rfl ?_
  first | refine r_ixr sl_63 ty_3 rfl rfl (by decide) rfl trivial rfl ?_ | refine r_ixw sl_63 ty_3 rfl rfl (by decide) (by omega) trivial rfl ?_
  first | refine r_ld ty_3 rfl rfl rfl trivial rfl ?_ | refine r_ldr ty_3 rfl rfl trivial rfl ?_ | refine r_ldo ty_3 rfl rfl (by assumption) rfl trivial rfl ?_
  refine r_call (dec_ok slot (by omega) (by omega)) cb_30 rfl rfl rfl ?_ trivial rfl ?_
  · (repeat (first | exact .nil | refine .cons .fv ?_ | refine .cons (.aggf' rfl) ?_ | refine .cons .nil ?_ | refine .cons (.ren rfl) ?_))
  refine r_cat rfl rfl (by have lslot := decL_len slot.toNat; have lgen := decL_len gen.toNat; simp [wordL] <;> omega) trivial rfl ?_
  refine r_as rfl trivial rfl ?_
  refine reg_nil ?_
  refine awp_region ?_
  refine r_mv rfl trivial rfl ?_
  refine r_add rfl rfl (rng64 (by omega)) trivial rfl ?_
  refine r_as rfl trivial rfl ?_
  refine reg_nil ?_
  refine unr_succ ?_
  refine awp_seq ?_
  refine awp_seq ?_
  refine awp_region ?_
  refine r_mv rfl trivial rfl ?_
  refine r_mv rfl trivial rfl ?_
  first | refine r_lenr sl_63 rfl trivial rfl ?_ | refine r_lenw sl_63 rfl trivial rfl ?_ | refine r_len0 sl_63 rfl trivial rfl ?_
  refine r_lss rfl rfl trivial rfl ?_
  refine reg_nil ?_
  refine awp_cond_t rfl ?_
  refine awp_skip ?_
  refine awp_seq ?_
  refine awp_block ?_
  refine awp_seq ?_
  refine awp_seq ?_
  refine awp_region ?_
  first | refine r_fld fld_37_0 rfl trivial rfl ?_ | refine r_fldr fld_37_0 rfl trivial rfl ?_
  first | refine r_ld ty_3 rfl rfl rfl trivial rfl ?_ | refine r_ldr ty_3 rfl rfl trivial rfl ?_ | refine r_ldo ty_3 rfl rfl (by assumption) rfl trivial rfl ?_
  refine r_eqi rfl rfl trivial rfl ?_
  refine r_mv rfl trivial rfl ?_
  refine r_skip ⟨_, rfl, .inl rfl⟩ rfl ?_
  refine r_skip ⟨_, rfl, .inl rfl⟩ rfl ?_
  refine r_pkf rfl rfl trivial rfl ?_
  refine reg_nil ?_
  refine awp_cond_f rfl ?_
  refine awp_skip ?_
  refine awp_region ?_
  refine r_mv rfl trivial rfl ?_
  refine r_cat rfl rfl (by have lslot := decL_len slot.toNat; have lgen := decL_len gen.toNat; simp [wordL] <;> omega) trivial rfl ?_
  refine r_mv rfl trivial rfl ?_
  refine r_mv rfl trivial rfl ?_
  first | refine r_ixr sl_63 ty_3 rfl rfl (by decide) rfl trivial rfl ?_ | refine r_ixw sl_63 ty_3 rfl rfl (by decide) (by omega) trivial rfl ?_
  first | refine r_ld ty_3 rfl rfl rfl trivial rfl ?_ | refine r_ldr ty_3 rfl rfl trivial rfl ?_ | refine r_ldo ty_3 rfl rfl (by assumption) rfl trivial rfl ?_
  refine r_call (dec_ok gen (by omega) (by omega)) cb_30 rfl rfl rfl ?_ trivial rfl ?_
  · (repeat (first | exact .nil | refine .cons .fv ?_ | refine .cons (.aggf' rfl) ?_ | refine .cons .nil ?_ | refine .cons (.ren rfl) ?_))
  refine r_cat rfl rfl (by have lslot := decL_len slot.toNat; have lgen := decL_len gen.toNat; simp [wordL] <;> omega) trivial rfl ?_
  refine r_as rfl trivial rfl ?_
  refine reg_nil ?_
  refine awp_region ?_
  refine r_mv rfl trivial rfl ?_
  refine r_add rfl rfl (rng64 (by omega)) trivial rfl ?_
  refine r_as rfl trivial rfl ?_
  refine reg_nil ?_
  refine unr_succ ?_
  refine awp_seq ?_
  refine awp_seq ?_
  refine awp_region ?_
  refine r_mv rfl trivial rfl ?_
  refine r_mv rfl trivial rfl ?_
  first | refine r_lenr sl_63 rfl trivial rfl ?_ | refine r_lenw sl_63 rfl trivial rfl ?_ | refine r_len0 sl_63 rfl trivial rfl ?_
  refine r_lss rfl rfl trivial rfl ?_
  refine reg_nil ?_
  refine awp_cond_f rfl ?_
  refine awp_exit ?_
  refine awp_seq ?_
  refine awp_seq ?_
  refine awp_region ?_
  first | refine r_fld fld_37_0 rfl trivial rfl ?_ | refine r_fldr fld_37_0 rfl trivial rfl ?_
  first | refine r_ld ty_3 rfl rfl rfl trivial rfl ?_ | refine r_ldr ty_3 rfl rfl trivial rfl ?_ | refine r_ldo ty_3 rfl rfl (by assumption) rfl trivial rfl ?_
  refine r_eqi rfl rfl trivial rfl ?_
  refine r_mv rfl trivial rfl ?_
  refine r_skip ⟨_, rfl, .inl rfl⟩ rfl ?_
  refine r_skip ⟨_, rfl, .inl rfl⟩ rfl ?_
  refine r_pkf rfl rfl trivial rfl ?_
  refine reg_nil ?_
  refine awp_cond_f rfl ?_
  refine awp_skip ?_
  refine awp_seq ?_
  refine awp_seq ?_
  refine awp_region ?_
  first | refine r_fld fld_37_0 rfl trivial rfl ?_ | refine r_fldr fld_37_0 rfl trivial rfl ?_
  first | refine r_ld ty_3 rfl rfl rfl trivial rfl ?_ | refine r_ldr ty_3 rfl rfl trivial rfl ?_ | refine r_ldo ty_3 rfl rfl (by assumption) rfl trivial rfl ?_
  refine r_eqi rfl rfl trivial rfl ?_
  refine r_mv rfl trivial rfl ?_
  refine r_skip ⟨_, rfl, .inl rfl⟩ rfl ?_
  refine r_skip ⟨_, rfl, .inl rfl⟩ rfl ?_
  refine r_skip ⟨_, rfl, .inl rfl⟩ rfl ?_
  refine r_pkf rfl rfl trivial rfl ?_
  refine reg_nil ?_
  refine awp_cond_f rfl ?_
  refine awp_skip ?_
  refine awp_seq ?_
  refine awp_region ?_
  refine r_mv rfl trivial rfl ?_
  refine r_as rfl trivial rfl ?_
  refine reg_nil ?_
  refine awp_ret ?_
  refine fin0 (.cons (.tmp rfl) .nil) (by first | exact .fv | exact .frz rfl rfl trivial | exact .nil | exact .aggf' rfl | exact .aggf) ?_
  simp [lineL, fieldVals, wordL]
set_option maxRecDepth 100000 in
theorem line_4t (key slot gen : Int) (request backend weight : Int) (hslot : 0 ≤ slot ∧ slot ≤ 39) (hgen : 0 ≤ gen ∧ gen ≤ 1048576) : Fun Tryd.prog 16 [.agg (fvs (encEv ⟨4, key, slot, gen, true, request, backend, weight⟩))] [] [] (sA (lineL ⟨4, key, slot, gen, true, request, backend, weight⟩)) [] := by
  refine fun_of_awp (rl := [.tmp 2]) Tryd.func16 rfl Tryd.results16 Tryd.ntmps16 0 rfl (by simp) ?_
  intro w0 own0 ρ0 F hz
  refine awp_seq ?_
  refine awp_region ?_
  refine r_box rfl rfl rfl trivial rfl ?_
  refine r_as rfl trivial rfl ?_
  refine reg_nil ?_
  refine awp_seq ?_
  refine awp_region ?_
  first | refine r_lda ty_37 rfl rfl rfl rfl trivial rfl ?_ | refine r_ldra ty_37 rfl rfl rfl trivial rfl ?_ | refine r_ldoa ty_37 rfl rfl (by assumption) rfl rfl trivial rfl ?_
  refine r_call (numbers_4t key slot gen request backend weight) cb_26 rfl rfl rfl ?_ trivial rfl ?_
  · (repeat (first | exact .nil | refine .cons .fv ?_ | refine .cons (.aggf' rfl) ?_ | refine .cons .nil ?_ | refine .cons (.ren rfl) ?_))
  refine r_mv rfl trivial rfl ?_
  refine r_ext rfl rfl trivial rfl ?_
  refine r_ext rfl rfl trivial rfl ?_
  refine r_ext rfl rfl trivial rfl ?_
  refine r_ext rfl rfl trivial rfl ?_
  refine r_as rfl trivial rfl ?_
  refine r_as rfl trivial rfl ?_
  refine r_as rfl trivial rfl ?_
  refine r_as rfl trivial rfl ?_
  refine reg_nil ?_
  refine awp_seq ?_
  refine awp_region ?_
  first | refine r_fld fld_37_0 rfl trivial rfl ?_ | refine r_fldr fld_37_0 rfl trivial rfl ?_
  first | refine r_ld ty_3 rfl rfl rfl trivial rfl ?_ | refine r_ldr ty_3 rfl rfl trivial rfl ?_ | refine r_ldo ty_3 rfl rfl (by assumption) rfl trivial rfl ?_
  refine r_call (word_ok 4) cb_29 rfl rfl rfl ?_ trivial rfl ?_
  · (repeat (first | exact .nil | refine .cons .fv ?_ | refine .cons (.aggf' rfl) ?_ | refine .cons .nil ?_ | refine .cons (.ren rfl) ?_))
  refine r_as rfl trivial rfl ?_
  refine reg_nil ?_
  refine awp_seq ?_
  refine awp_seq ?_
  refine awp_region ?_
  refine r_as rfl trivial rfl ?_
  refine reg_nil ?_
  refine awp_block ?_
  refine awp_unroll 4 ?_
  refine unr_succ ?_
  refine awp_seq ?_
  refine awp_seq ?_
  refine awp_region ?_
  refine r_mv rfl trivial rfl ?_
  refine r_mv rfl trivial rfl ?_
  first | refine r_lenr sl_63 rfl trivial rfl ?_ | refine r_lenw sl_63 rfl trivial rfl ?_ | refine r_len0 sl_63 rfl trivial rfl ?_
  refine r_lss rfl rfl trivial rfl ?_
  refine reg_nil ?_
  refine awp_cond_t rfl ?_
  refine awp_skip ?_
  refine awp_seq ?_
  refine awp_block ?_
  refine awp_seq ?_
  refine awp_seq ?_
  refine awp_region ?_
  first | refine r_fld fld_37_0 rfl trivial rfl ?_ | refine r_fldr fld_37_0 rfl trivial rfl ?_
  first | refine r_ld ty_3 rfl rfl rfl trivial rfl ?_ | refine r_ldr ty_3 rfl rfl trivial rfl ?_ | refine r_ldo ty_3 rfl rfl (by assumption) rfl trivial rfl ?_
  refine r_eqi rfl rfl trivial rfl ?_
  refine r_mv rfl trivial rfl ?_
  refine r_mv rfl ⟨_, rfl, rfl⟩ rfl ?_
  refine r_eqi rfl rfl ⟨_, rfl, rfl⟩ rfl ?_
  refine r_pkt rfl rfl trivial rfl ?_
  refine reg_nil ?_
  refine awp_cond_f rfl ?_
  refine awp_skip ?_
  refine awp_region ?_
  refine r_mv rfl trivial rfl ?_
  refine r_cat rfl rfl (by have lslot := decL_len slot.toNat; have lgen := decL_len gen.toNat; simp [wordL] <;> omega) trivial rfl ?_
  refine r_mv rfl trivial rfl ?_
  refine r_mv rfl trivial rfl ?_
  first | refine r_ixr sl_63 ty_3 rfl rfl (by decide) rfl trivial rfl ?_ | refine r_ixw sl_63 ty_3 rfl rfl (by decide) (by omega) trivial rfl ?_
  first | refine r_ld ty_3 rfl rfl rfl trivial rfl ?_ | refine r_ldr ty_3 rfl rfl trivial rfl ?_ | refine r_ldo ty_3 rfl rfl (by assumption) rfl trivial rfl ?_
  refine r_call (dec_ok slot (by omega) (by omega)) cb_30 rfl rfl rfl ?_ trivial rfl ?_
  · (repeat (first | exact .nil | refine .cons .fv ?_ | refine .cons (.aggf' rfl) ?_ | refine .cons .nil ?_ | refine .cons (.ren rfl) ?_))
  refine r_cat rfl rfl (by have lslot := decL_len slot.toNat; have lgen := decL_len gen.toNat; simp [wordL] <;> omega) trivial rfl ?_
  refine r_as rfl trivial rfl ?_
  refine reg_nil ?_
  refine awp_region ?_
  refine r_mv rfl trivial rfl ?_
  refine r_add rfl rfl (rng64 (by omega)) trivial rfl ?_
  refine r_as rfl trivial rfl ?_
  refine reg_nil ?_
  refine unr_succ ?_
  refine awp_seq ?_
  refine awp_seq ?_
  refine awp_region ?_
  refine r_mv rfl trivial rfl ?_
  refine r_mv rfl trivial rfl ?_
  first | refine r_lenr sl_63 rfl trivial rfl ?_ | refine r_lenw sl_63 rfl trivial rfl ?_ | refine r_len0 sl_63 rfl trivial rfl ?_
  refine r_lss rfl rfl trivial rfl ?_
  refine reg_nil ?_
  refine awp_cond_t rfl ?_
  refine awp_skip ?_
  refine awp_seq ?_
  refine awp_block ?_
  refine awp_seq ?_
  refine awp_seq ?_
  refine awp_region ?_
  first | refine r_fld fld_37_0 rfl trivial rfl ?_ | refine r_fldr fld_37_0 rfl trivial rfl ?_
  first | refine r_ld ty_3 rfl rfl rfl trivial rfl ?_ | refine r_ldr ty_3 rfl rfl trivial rfl ?_ | refine r_ldo ty_3 rfl rfl (by assumption) rfl trivial rfl ?_
  refine r_eqi rfl rfl trivial rfl ?_
  refine r_mv rfl trivial rfl ?_
  refine r_mv rfl ⟨_, rfl, rfl⟩ rfl ?_
  refine r_eqi rfl rfl ⟨_, rfl, rfl⟩ rfl ?_
  refine r_pkt rfl rfl trivial rfl ?_
  refine reg_nil ?_
  refine awp_cond_f rfl ?_
  refine awp_skip ?_
  refine awp_region ?_
  refine r_mv rfl trivial rfl ?_
  refine r_cat rfl rfl (by have lslot := decL_len slot.toNat; have lgen := decL_len gen.toNat; simp [wordL] <;> omega) trivial rfl ?_
  refine r_mv rfl trivial rfl ?_
  refine r_mv rfl trivial rfl ?_
  first | refine r_ixr sl_63 ty_3 rfl rfl (by decide) rfl trivial rfl ?_ | refine r_ixw sl_63 ty_3 rfl rfl (by decide) (by omega) trivial rfl ?_
  first | refine r_ld ty_3 rfl rfl rfl trivial rfl ?_ | refine r_ldr ty_3 rfl rfl trivial rfl ?_ | refine r_ldo ty_3 rfl rfl (by assumption) rfl trivial rfl ?_
  refine r_call (dec_ok gen (by omega) (by omega)) cb_30 rfl rfl rfl ?_ trivial rfl ?_
  · (repeat (first | exact .nil | refine .cons .fv ?_ | refine .cons (.aggf' rfl) ?_ | refine .cons .nil ?_ | refine .cons (.ren rfl) ?_))
  refine r_cat rfl rfl (by have lslot := decL_len slot.toNat; have lgen := decL_len gen.toNat; simp [wordL] <;> omega) trivial rfl ?_
  refine r_as rfl trivial rfl ?_
  refine reg_nil ?_
  refine awp_region ?_
  refine r_mv rfl trivial rfl ?_
  refine r_add rfl rfl (rng64 (by omega)) trivial rfl ?_
  refine r_as rfl trivial rfl ?_
  refine reg_nil ?_
  refine unr_succ ?_
  refine awp_seq ?_
  refine awp_seq ?_
  refine awp_region ?_
  refine r_mv rfl trivial rfl ?_
  refine r_mv rfl trivial rfl ?_
  first | refine r_lenr sl_63 rfl trivial rfl ?_ | refine r_lenw sl_63 rfl trivial rfl ?_ | refine r_len0 sl_63 rfl trivial rfl ?_
  refine r_lss rfl rfl trivial rfl ?_
  refine reg_nil ?_
  refine awp_cond_t rfl ?_
  refine awp_skip ?_
  refine awp_seq ?_
  refine awp_block ?_
  refine awp_seq ?_
  refine awp_seq ?_
  refine awp_region ?_
  first | refine r_fld fld_37_0 rfl trivial rfl ?_ | refine r_fldr fld_37_0 rfl trivial rfl ?_
  first | refine r_ld ty_3 rfl rfl rfl trivial rfl ?_ | refine r_ldr ty_3 rfl rfl trivial rfl ?_ | refine r_ldo ty_3 rfl rfl (by assumption) rfl trivial rfl ?_
  refine r_eqi rfl rfl trivial rfl ?_
  refine r_mv rfl trivial rfl ?_
  refine r_mv rfl ⟨_, rfl, rfl⟩ rfl ?_
  refine r_eqi rfl rfl ⟨_, rfl, rfl⟩ rfl ?_
  refine r_pkt rfl rfl trivial rfl ?_
  refine reg_nil ?_
  refine awp_cond_t rfl ?_
  refine awp_exit ?_
  refine awp_region ?_
  refine r_mv rfl trivial rfl ?_
  refine r_add rfl rfl (rng64 (by omega)) trivial rfl ?_
  refine r_as rfl trivial rfl ?_
  refine reg_nil ?_
  refine unr_succ ?_
  refine awp_seq ?_
  refine awp_seq ?_
  refine awp_region ?_
  refine r_mv rfl trivial rfl ?_
  refine r_mv rfl trivial rfl ?_
  first | refine r_lenr sl_63 rfl trivial rfl ?_ | refine r_lenw sl_63 rfl trivial rfl ?_ | refine r_len0 sl_63 rfl trivial rfl ?_
  refine r_lss rfl rfl trivial rfl ?_
  refine reg_nil ?_
  refine awp_cond_f rfl ?_
  refine awp_exit ?_
  refine awp_seq ?_
  refine awp_seq ?_
  refine awp_region ?_
  first | refine r_fld fld_37_0 rfl trivial rfl ?_ | refine r_fldr fld_37_0 rfl trivial rfl ?_
  first | refine r_ld ty_3 rfl rfl rfl trivial rfl ?_ | refine r_ldr ty_3 rfl rfl trivial rfl ?_ | refine r_ldo ty_3 rfl rfl (by assumption) rfl trivial rfl ?_
  refine r_eqi rfl rfl trivial rfl ?_
  refine r_mv rfl trivial rfl ?_
  first | refine r_fld fld_37_4 rfl ⟨_, rfl, rfl⟩ rfl ?_ | refine r_fldr fld_37_4 rfl ⟨_, rfl, rfl⟩ rfl ?_
  first | refine r_ld ty_4 rfl rfl rfl ⟨_, rfl, rfl⟩ rfl ?_ | refine r_ldr ty_4 rfl rfl ⟨_, rfl, rfl⟩ rfl ?_ | refine r_ldo ty_4 rfl rfl (by assumption) rfl ⟨_, rfl, rfl⟩ rfl ?_
  refine r_pkt rfl rfl trivial rfl ?_
  refine reg_nil ?_
  refine awp_cond_t rfl ?_
  refine awp_region ?_
  refine r_mv rfl trivial rfl ?_
  refine r_cat rfl rfl (by have lslot := decL_len slot.toNat; have lgen := decL_len gen.toNat; simp [wordL] <;> omega) trivial rfl ?_
  refine r_as rfl trivial rfl ?_
  refine reg_nil ?_
  refine awp_seq ?_
  refine awp_seq ?_
  refine awp_region ?_
  first | refine r_fld fld_37_0 rfl trivial rfl ?_ | refine r_fldr fld_37_0 rfl trivial rfl ?_
  first | refine r_ld ty_3 rfl rfl rfl trivial rfl ?_ | refine r_ldr ty_3 rfl rfl trivial rfl ?_ | refine r_ldo ty_3 rfl rfl (by assumption) rfl trivial rfl ?_
  refine r_eqi rfl rfl trivial rfl ?_
  refine r_mv rfl trivial rfl ?_
  first | refine r_fld fld_37_4 rfl ⟨_, rfl, rfl⟩ rfl ?_ | refine r_fldr fld_37_4 rfl ⟨_, rfl, rfl⟩ rfl ?_
  first | refine r_ld ty_4 rfl rfl rfl ⟨_, rfl, rfl⟩ rfl ?_ | refine r_ldr ty_4 rfl rfl ⟨_, rfl, rfl⟩ rfl ?_ | refine r_ldo ty_4 rfl rfl (by assumption) rfl ⟨_, rfl, rfl⟩ rfl ?_
  first | refine r_notd rfl ⟨_, rfl, rfl⟩ rfl ?_ | refine r_not rfl ⟨_, rfl, rfl⟩ rfl ?_
  refine r_pkt rfl rfl trivial rfl ?_
  refine reg_nil ?_
  refine awp_cond_f rfl ?_
  refine awp_skip ?_
  refine awp_seq ?_
  refine awp_region ?_
  refine r_mv rfl trivial rfl ?_
  refine r_as rfl trivial rfl ?_
  refine reg_nil ?_
  refine awp_ret ?_
  refine fin0 (.cons (.tmp rfl) .nil) (by first | exact .fv | exact .frz rfl rfl trivial | exact .nil | exact .aggf' rfl | exact .aggf) ?_
  simp [lineL, fieldVals, wordL]
set_option maxRecDepth 100000 in
theorem line_4f (key slot gen : Int) (request backend weight : Int) (hslot : 0 ≤ slot ∧ slot ≤ 39) (hgen : 0 ≤ gen ∧ gen ≤ 1048576) : Fun Tryd.prog 16 [.agg (fvs (encEv ⟨4, key, slot, gen, false, request, backend, weight⟩))] [] [] (sA (lineL ⟨4, key, slot, gen, false, request, backend, weight⟩)) [] := by
  refine fun_of_awp (rl := [.tmp 2]) Tryd.func16 rfl Tryd.results16 Tryd.ntmps16 0 rfl (by simp) ?_
  intro w0 own0 ρ0 F hz
  refine awp_seq ?_
  refine awp_region ?_
  refine r_box rfl rfl rfl trivial rfl ?_
  refine r_as rfl trivial rfl ?_
  refine reg_nil ?_
  refine awp_seq ?_
  refine awp_region ?_
  first | refine r_lda ty_37 rfl rfl rfl rfl trivial rfl ?_ | refine r_ldra ty_37 rfl rfl rfl trivial rfl ?_ | refine r_ldoa ty_37 rfl rfl (by assumption) rfl rfl trivial rfl ?_
  refine r_call (numbers_4f key slot gen request backend weight) cb_26 rfl rfl rfl ?_ trivial rfl ?_
  · (repeat (first | exact .nil | refine .cons .fv ?_ | refine .cons (.aggf' rfl) ?_ | refine .cons .nil ?_ | refine .cons (.ren rfl) ?_))
  refine r_mv rfl trivial rfl ?_
  refine r_ext rfl rfl trivial rfl ?_
  refine r_ext rfl rfl trivial rfl ?_
  refine r_ext rfl rfl trivial rfl ?_
  refine r_ext rfl rfl trivial rfl ?_
  refine r_as rfl trivial rfl ?_
  refine r_as rfl trivial rfl ?_
  refine r_as rfl trivial rfl ?_
  refine r_as rfl trivial rfl ?_
  refine reg_nil ?_
  refine awp_seq ?_
  refine awp_region ?_
  first | refine r_fld fld_37_0 rfl trivial rfl ?_ | refine r_fldr fld_37_0 rfl trivial rfl ?_
  first | refine r_ld ty_3 rfl rfl rfl trivial rfl ?_ | refine r_ldr ty_3 rfl rfl trivial rfl ?_ | refine r_ldo ty_3 rfl rfl (by assumption) rfl trivial rfl ?_
  refine r_call (word_ok 4) cb_29 rfl rfl rfl ?_ trivial rfl ?_
  · (repeat (first | exact .nil | refine .cons .fv ?_ | refine .cons (.aggf' rfl) ?_ | refine .cons .nil ?_ | refine .cons (.ren rfl) ?_))
  refine r_as rfl trivial rfl ?_
  refine reg_nil ?_
  refine awp_seq ?_
  refine awp_seq ?_
  refine awp_region ?_
  refine r_as rfl trivial rfl ?_
  refine reg_nil ?_
  refine awp_block ?_
  refine awp_unroll 4 ?_
  refine unr_succ ?_
  refine awp_seq ?_
  refine awp_seq ?_
  refine awp_region ?_
  refine r_mv rfl trivial rfl ?_
  refine r_mv rfl trivial rfl ?_
  first | refine r_lenr sl_63 rfl trivial rfl ?_ | refine r_lenw sl_63 rfl trivial rfl ?_ | refine r_len0 sl_63 rfl trivial rfl ?_
  refine r_lss rfl rfl trivial rfl ?_
  refine reg_nil ?_
  refine awp_cond_t rfl ?_
  refine awp_skip ?_
  refine awp_seq ?_
  refine awp_block ?_
  refine awp_seq ?_
  refine awp_seq ?_
  refine awp_region ?_
  first | refine r_fld fld_37_0 rfl trivial rfl ?_ | refine r_fldr fld_37_0 rfl trivial rfl ?_
  first | refine r_ld ty_3 rfl rfl rfl trivial rfl ?_ | refine r_ldr ty_3 rfl rfl trivial rfl ?_ | refine r_ldo ty_3 rfl rfl (by assumption) rfl trivial rfl ?_
  refine r_eqi rfl rfl trivial rfl ?_
  refine r_mv rfl trivial rfl ?_
  refine r_mv rfl ⟨_, rfl, rfl⟩ rfl ?_
  refine r_eqi rfl rfl ⟨_, rfl, rfl⟩ rfl ?_
  refine r_pkt rfl rfl trivial rfl ?_
  refine reg_nil ?_
  refine awp_cond_f rfl ?_
  refine awp_skip ?_
  refine awp_region ?_
  refine r_mv rfl trivial rfl ?_
  refine r_cat rfl rfl (by have lslot := decL_len slot.toNat; have lgen := decL_len gen.toNat; simp [wordL] <;> omega) trivial rfl ?_
  refine r_mv rfl trivial rfl ?_
  refine r_mv rfl trivial rfl ?_
  first | refine r_ixr sl_63 ty_3 rfl rfl (by decide) rfl trivial rfl ?_ | refine r_ixw sl_63 ty_3 rfl rfl (by decide) (by omega) trivial rfl ?_
  first | refine r_ld ty_3 rfl rfl rfl trivial rfl ?_ | refine r_ldr ty_3 rfl rfl trivial rfl ?_ | refine r_ldo ty_3 rfl rfl (by assumption) rfl trivial rfl ?_
  refine r_call (dec_ok slot (by omega) (by omega)) cb_30 rfl rfl rfl ?_ trivial rfl ?_
  · (repeat (first | exact .nil | refine .cons .fv ?_ | refine .cons (.aggf' rfl) ?_ | refine .cons .nil ?_ | refine .cons (.ren rfl) ?_))
  refine r_cat rfl rfl (by have lslot := decL_len slot.toNat; have lgen := decL_len gen.toNat; simp [wordL] <;> omega) trivial rfl ?_
  refine r_as rfl trivial rfl ?_
  refine reg_nil ?_
  refine awp_region ?_
  refine r_mv rfl trivial rfl ?_
  refine r_add rfl rfl (rng64 (by omega)) trivial rfl ?_
  refine r_as rfl trivial rfl ?_
  refine reg_nil ?_
  refine unr_succ ?_
  refine awp_seq ?_
  refine awp_seq ?_
  refine awp_region ?_
  refine r_mv rfl trivial rfl ?_
  refine r_mv rfl trivial rfl ?_
  first | refine r_lenr sl_63 rfl trivial rfl ?_ | refine r_lenw sl_63 rfl trivial rfl ?_ | refine r_len0 sl_63 rfl trivial rfl ?_
  refine r_lss rfl rfl trivial rfl ?_
  refine reg_nil ?_
  refine awp_cond_t rfl ?_
  refine awp_skip ?_
  refine awp_seq ?_
  refine awp_block ?_
  refine awp_seq ?_
  refine awp_seq ?_
  refine awp_region ?_
  first | refine r_fld fld_37_0 rfl trivial rfl ?_ | refine r_fldr fld_37_0 rfl trivial rfl ?_
  first | refine r_ld ty_3 rfl rfl rfl trivial rfl ?_ | refine r_ldr ty_3 rfl rfl trivial rfl ?_ | refine r_ldo ty_3 rfl rfl (by assumption) rfl trivial rfl ?_
  refine r_eqi rfl rfl trivial rfl ?_
  refine r_mv rfl trivial rfl ?_
  refine r_mv rfl ⟨_, rfl, rfl⟩ rfl ?_
  refine r_eqi rfl rfl ⟨_, rfl, rfl⟩ rfl ?_
  refine r_pkt rfl rfl trivial rfl ?_
  refine reg_nil ?_
  refine awp_cond_f rfl ?_
  refine awp_skip ?_
  refine awp_region ?_
  refine r_mv rfl trivial rfl ?_
  refine r_cat rfl rfl (by have lslot := decL_len slot.toNat; have lgen := decL_len gen.toNat; simp [wordL] <;> omega) trivial rfl ?_
  refine r_mv rfl trivial rfl ?_
  refine r_mv rfl trivial rfl ?_
  first | refine r_ixr sl_63 ty_3 rfl rfl (by decide) rfl trivial rfl ?_ | refine r_ixw sl_63 ty_3 rfl rfl (by decide) (by omega) trivial rfl ?_
  first | refine r_ld ty_3 rfl rfl rfl trivial rfl ?_ | refine r_ldr ty_3 rfl rfl trivial rfl ?_ | refine r_ldo ty_3 rfl rfl (by assumption) rfl trivial rfl ?_
  refine r_call (dec_ok gen (by omega) (by omega)) cb_30 rfl rfl rfl ?_ trivial rfl ?_
  · (repeat (first | exact .nil | refine .cons .fv ?_ | refine .cons (.aggf' rfl) ?_ | refine .cons .nil ?_ | refine .cons (.ren rfl) ?_))
  refine r_cat rfl rfl (by have lslot := decL_len slot.toNat; have lgen := decL_len gen.toNat; simp [wordL] <;> omega) trivial rfl ?_
  refine r_as rfl trivial rfl ?_
  refine reg_nil ?_
  refine awp_region ?_
  refine r_mv rfl trivial rfl ?_
  refine r_add rfl rfl (rng64 (by omega)) trivial rfl ?_
  refine r_as rfl trivial rfl ?_
  refine reg_nil ?_
  refine unr_succ ?_
  refine awp_seq ?_
  refine awp_seq ?_
  refine awp_region ?_
  refine r_mv rfl trivial rfl ?_
  refine r_mv rfl trivial rfl ?_
  first | refine r_lenr sl_63 rfl trivial rfl ?_ | refine r_lenw sl_63 rfl trivial rfl ?_ | refine r_len0 sl_63 rfl trivial rfl ?_
  refine r_lss rfl rfl trivial rfl ?_
  refine reg_nil ?_
  refine awp_cond_t rfl ?_
  refine awp_skip ?_
  refine awp_seq ?_
  refine awp_block ?_
  refine awp_seq ?_
  refine awp_seq ?_
  refine awp_region ?_
  first | refine r_fld fld_37_0 rfl trivial rfl ?_ | refine r_fldr fld_37_0 rfl trivial rfl ?_
  first | refine r_ld ty_3 rfl rfl rfl trivial rfl ?_ | refine r_ldr ty_3 rfl rfl trivial rfl ?_ | refine r_ldo ty_3 rfl rfl (by assumption) rfl trivial rfl ?_
  refine r_eqi rfl rfl trivial rfl ?_
  refine r_mv rfl trivial rfl ?_
  refine r_mv rfl ⟨_, rfl, rfl⟩ rfl ?_
  refine r_eqi rfl rfl ⟨_, rfl, rfl⟩ rfl ?_
  refine r_pkt rfl rfl trivial rfl ?_
  refine reg_nil ?_
  refine awp_cond_t rfl ?_
  refine awp_exit ?_
  refine awp_region ?_
  refine r_mv rfl trivial rfl ?_
  refine r_add rfl rfl (rng64 (by omega)) trivial rfl ?_
  refine r_as rfl trivial rfl ?_
  refine reg_nil ?_
  refine unr_succ ?_
  refine awp_seq ?_
  refine awp_seq ?_
  refine awp_region ?_
  refine r_mv rfl trivial rfl ?_
  refine r_mv rfl trivial rfl ?_
  first | refine r_lenr sl_63 rfl trivial rfl ?_ | refine r_lenw sl_63 rfl trivial rfl ?_ | refine r_len0 sl_63 rfl trivial rfl ?_
  refine r_lss rfl rfl trivial rfl ?_
  refine reg_nil ?_
  refine awp_cond_f rfl ?_
  refine awp_exit ?_
  refine awp_seq ?_
  refine awp_seq ?_
  refine awp_region ?_
  first | refine r_fld fld_37_0 rfl trivial rfl ?_ | refine r_fldr fld_37_0 rfl trivial rfl ?_
  first | refine r_ld ty_3 rfl rfl rfl trivial rfl ?_ | refine r_ldr ty_3 rfl rfl trivial rfl ?_ | refine r_ldo ty_3 rfl rfl (by assumption) rfl trivial rfl ?_
  refine r_eqi rfl rfl trivial rfl ?_
  refine r_mv rfl trivial rfl ?_
  first | refine r_fld fld_37_4 rfl ⟨_, rfl, rfl⟩ rfl ?_ | refine r_fldr fld_37_4 rfl ⟨_, rfl, rfl⟩ rfl ?_
  first | refine r_ld ty_4 rfl rfl rfl ⟨_, rfl, rfl⟩ rfl ?_ | refine r_ldr ty_4 rfl rfl ⟨_, rfl, rfl⟩ rfl ?_ | refine r_ldo ty_4 rfl rfl (by assumption) rfl ⟨_, rfl, rfl⟩ rfl ?_
  refine r_pkt rfl rfl trivial rfl ?_
  refine reg_nil ?_
  refine awp_cond_f rfl ?_
  refine awp_skip ?_
  refine awp_seq ?_
  refine awp_seq ?_
  refine awp_region ?_
  first | refine r_fld fld_37_0 rfl trivial rfl ?_ | refine r_fldr fld_37_0 rfl trivial rfl ?_
  first | refine r_ld ty_3 rfl rfl rfl trivial rfl ?_ | refine r_ldr ty_3 rfl rfl trivial rfl ?_ | refine r_ldo ty_3 rfl rfl (by assumption) rfl trivial rfl ?_
  refine r_eqi rfl rfl trivial rfl ?_
  refine r_mv rfl trivial rfl ?_
  first | refine r_fld fld_37_4 rfl ⟨_, rfl, rfl⟩ rfl ?_ | refine r_fldr fld_37_4 rfl ⟨_, rfl, rfl⟩ rfl ?_
  first | refine r_ld ty_4 rfl rfl rfl ⟨_, rfl, rfl⟩ rfl ?_ | refine r_ldr ty_4 rfl rfl ⟨_, rfl, rfl⟩ rfl ?_ | refine r_ldo ty_4 rfl rfl (by assumption) rfl ⟨_, rfl, rfl⟩ rfl ?_
  first | refine r_notd rfl ⟨_, rfl, rfl⟩ rfl ?_ | refine r_not rfl ⟨_, rfl, rfl⟩ rfl ?_
  refine r_pkt rfl rfl trivial rfl ?_
  refine reg_nil ?_
  refine awp_cond_t rfl ?_
  refine awp_region ?_
  refine r_mv rfl trivial rfl ?_
  refine r_cat rfl rfl (by have lslot := decL_len slot.toNat; have lgen := decL_len gen.toNat; simp [wordL] <;> omega) trivial rfl ?_
  refine r_as rfl trivial rfl ?_
  refine reg_nil ?_
  refine awp_seq ?_
  refine awp_region ?_
  refine r_mv rfl trivial rfl ?_
  refine r_as rfl trivial rfl ?_
  refine reg_nil ?_
  refine awp_ret ?_
  refine fin0 (.cons (.tmp rfl) .nil) (by first | exact .fv | exact .frz rfl rfl trivial | exact .nil | exact .aggf' rfl | exact .aggf) ?_
  simp [lineL, fieldVals, wordL]
set_option maxRecDepth 100000 in
theorem line_5 (key slot gen : Int) (good : Bool) (request backend weight : Int) (hrequest : 0 ≤ request ∧ request ≤ 1048576) (hbackend : 0 ≤ backend ∧ backend ≤ 11) (hweight : 1 ≤ weight ∧ weight ≤ 8) : Fun Tryd.prog 16 [.agg (fvs (encEv ⟨5, key, slot, gen, good, request, backend, weight⟩))] [] [] (sA (lineL ⟨5, key, slot, gen, good, request, backend, weight⟩)) [] := by
  refine fun_of_awp (rl := [.tmp 2]) Tryd.func16 rfl Tryd.results16 Tryd.ntmps16 0 rfl (by simp) ?_
  intro w0 own0 ρ0 F hz
  refine awp_seq ?_
  refine awp_region ?_
  refine r_box rfl rfl rfl trivial rfl ?_
  refine r_as rfl trivial rfl ?_
  refine reg_nil ?_
  refine awp_seq ?_
  refine awp_region ?_
  first | refine r_lda ty_37 rfl rfl rfl rfl trivial rfl ?_ | refine r_ldra ty_37 rfl rfl rfl trivial rfl ?_ | refine r_ldoa ty_37 rfl rfl (by assumption) rfl rfl trivial rfl ?_
  refine r_call (numbers_5 key slot gen good request backend weight) cb_26 rfl rfl rfl ?_ trivial rfl ?_
  · (repeat (first | exact .nil | refine .cons .fv ?_ | refine .cons (.aggf' rfl) ?_ | refine .cons .nil ?_ | refine .cons (.ren rfl) ?_))
  refine r_mv rfl trivial rfl ?_
  refine r_ext rfl rfl trivial rfl ?_
  refine r_ext rfl rfl trivial rfl ?_
  refine r_ext rfl rfl trivial rfl ?_
  refine r_ext rfl rfl trivial rfl ?_
  refine r_as rfl trivial rfl ?_
  refine r_as rfl trivial rfl ?_
  refine r_as rfl trivial rfl ?_
  refine r_as rfl trivial rfl ?_
  refine reg_nil ?_
  refine awp_seq ?_
  refine awp_region ?_
  first | refine r_fld fld_37_0 rfl trivial rfl ?_ | refine r_fldr fld_37_0 rfl trivial rfl ?_
  first | refine r_ld ty_3 rfl rfl rfl trivial rfl ?_ | refine r_ldr ty_3 rfl rfl trivial rfl ?_ | refine r_ldo ty_3 rfl rfl (by assumption) rfl trivial rfl ?_
  refine r_call (word_ok 5) cb_29 rfl rfl rfl ?_ trivial rfl ?_
  · (repeat (first | exact .nil | refine .cons .fv ?_ | refine .cons (.aggf' rfl) ?_ | refine .cons .nil ?_ | refine .cons (.ren rfl) ?_))
  refine r_as rfl trivial rfl ?_
  refine reg_nil ?_
  refine awp_seq ?_
  refine awp_seq ?_
  refine awp_region ?_
  refine r_as rfl trivial rfl ?_
  refine reg_nil ?_
  refine awp_block ?_
  refine awp_unroll 4 ?_
  refine unr_succ ?_
  refine awp_seq ?_
  refine awp_seq ?_
  refine awp_region ?_
  refine r_mv rfl trivial rfl ?_
  refine r_mv rfl trivial rfl ?_
  first | refine r_lenr sl_63 rfl trivial rfl ?_ | refine r_lenw sl_63 rfl trivial rfl ?_ | refine r_len0 sl_63 rfl trivial rfl ?_
  refine r_lss rfl rfl trivial rfl ?_
  refine reg_nil ?_
  refine awp_cond_t rfl ?_
  refine awp_skip ?_
  refine awp_seq ?_
  refine awp_block ?_
  refine awp_seq ?_
  refine awp_seq ?_
  refine awp_region ?_
  first | refine r_fld fld_37_0 rfl trivial rfl ?_ | refine r_fldr fld_37_0 rfl trivial rfl ?_
  first | refine r_ld ty_3 rfl rfl rfl trivial rfl ?_ | refine r_ldr ty_3 rfl rfl trivial rfl ?_ | refine r_ldo ty_3 rfl rfl (by assumption) rfl trivial rfl ?_
  refine r_eqi rfl rfl trivial rfl ?_
  refine r_mv rfl trivial rfl ?_
  refine r_skip ⟨_, rfl, .inl rfl⟩ rfl ?_
  refine r_skip ⟨_, rfl, .inl rfl⟩ rfl ?_
  refine r_pkf rfl rfl trivial rfl ?_
  refine reg_nil ?_
  refine awp_cond_f rfl ?_
  refine awp_skip ?_
  refine awp_region ?_
  refine r_mv rfl trivial rfl ?_
  refine r_cat rfl rfl (by have lrequest := decL_len request.toNat; have lbackend := decL_len backend.toNat; have lweight := decL_len weight.toNat; simp [wordL] <;> omega) trivial rfl ?_
  refine r_mv rfl trivial rfl ?_
  refine r_mv rfl trivial rfl ?_
  first | refine r_ixr sl_63 ty_3 rfl rfl (by decide) rfl trivial rfl ?_ | refine r_ixw sl_63 ty_3 rfl rfl (by decide) (by omega) trivial rfl ?_
  first | refine r_ld ty_3 rfl rfl rfl trivial rfl ?_ | refine r_ldr ty_3 rfl rfl trivial rfl ?_ | refine r_ldo ty_3 rfl rfl (by assumption) rfl trivial rfl ?_
  refine r_call (dec_ok request (by omega) (by omega)) cb_30 rfl rfl rfl ?_ trivial rfl ?_
  · (repeat (first | exact .nil | refine .cons .fv ?_ | refine .cons (.aggf' rfl) ?_ | refine .cons .nil ?_ | refine .cons (.ren rfl) ?_))
  refine r_cat rfl rfl (by have lrequest := decL_len request.toNat; have lbackend := decL_len backend.toNat; have lweight := decL_len weight.toNat; simp [wordL] <;> omega) trivial rfl ?_
  refine r_as rfl trivial rfl ?_
  refine reg_nil ?_
  refine awp_region ?_
  refine r_mv rfl trivial rfl ?_
  refine r_add rfl rfl (rng64 (by omega)) trivial rfl ?_
  refine r_as rfl trivial rfl ?_
  refine reg_nil ?_
  refine unr_succ ?_
  refine awp_seq ?_
  refine awp_seq ?_
  refine awp_region ?_
  refine r_mv rfl trivial rfl ?_
  refine r_mv rfl trivial rfl ?_
  first | refine r_lenr sl_63 rfl trivial rfl ?_ | refine r_lenw sl_63 rfl trivial rfl ?_ | refine r_len0 sl_63 rfl trivial rfl ?_
  refine r_lss rfl rfl trivial rfl ?_
  refine reg_nil ?_
  refine awp_cond_t rfl ?_
  refine awp_skip ?_
  refine awp_seq ?_
  refine awp_block ?_
  refine awp_seq ?_
  refine awp_seq ?_
  refine awp_region ?_
  first | refine r_fld fld_37_0 rfl trivial rfl ?_ | refine r_fldr fld_37_0 rfl trivial rfl ?_
  first | refine r_ld ty_3 rfl rfl rfl trivial rfl ?_ | refine r_ldr ty_3 rfl rfl trivial rfl ?_ | refine r_ldo ty_3 rfl rfl (by assumption) rfl trivial rfl ?_
  refine r_eqi rfl rfl trivial rfl ?_
  refine r_mv rfl trivial rfl ?_
  refine r_skip ⟨_, rfl, .inl rfl⟩ rfl ?_
  refine r_skip ⟨_, rfl, .inl rfl⟩ rfl ?_
  refine r_pkf rfl rfl trivial rfl ?_
  refine reg_nil ?_
  refine awp_cond_f rfl ?_
  refine awp_skip ?_
  refine awp_region ?_
  refine r_mv rfl trivial rfl ?_
  refine r_cat rfl rfl (by have lrequest := decL_len request.toNat; have lbackend := decL_len backend.toNat; have lweight := decL_len weight.toNat; simp [wordL] <;> omega) trivial rfl ?_
  refine r_mv rfl trivial rfl ?_
  refine r_mv rfl trivial rfl ?_
  first | refine r_ixr sl_63 ty_3 rfl rfl (by decide) rfl trivial rfl ?_ | refine r_ixw sl_63 ty_3 rfl rfl (by decide) (by omega) trivial rfl ?_
  first | refine r_ld ty_3 rfl rfl rfl trivial rfl ?_ | refine r_ldr ty_3 rfl rfl trivial rfl ?_ | refine r_ldo ty_3 rfl rfl (by assumption) rfl trivial rfl ?_
  refine r_call (dec_ok backend (by omega) (by omega)) cb_30 rfl rfl rfl ?_ trivial rfl ?_
  · (repeat (first | exact .nil | refine .cons .fv ?_ | refine .cons (.aggf' rfl) ?_ | refine .cons .nil ?_ | refine .cons (.ren rfl) ?_))
  refine r_cat rfl rfl (by have lrequest := decL_len request.toNat; have lbackend := decL_len backend.toNat; have lweight := decL_len weight.toNat; simp [wordL] <;> omega) trivial rfl ?_
  refine r_as rfl trivial rfl ?_
  refine reg_nil ?_
  refine awp_region ?_
  refine r_mv rfl trivial rfl ?_
  refine r_add rfl rfl (rng64 (by omega)) trivial rfl ?_
  refine r_as rfl trivial rfl ?_
  refine reg_nil ?_
  refine unr_succ ?_
  refine awp_seq ?_
  refine awp_seq ?_
  refine awp_region ?_
  refine r_mv rfl trivial rfl ?_
  refine r_mv rfl trivial rfl ?_
  first | refine r_lenr sl_63 rfl trivial rfl ?_ | refine r_lenw sl_63 rfl trivial rfl ?_ | refine r_len0 sl_63 rfl trivial rfl ?_
  refine r_lss rfl rfl trivial rfl ?_
  refine reg_nil ?_
  refine awp_cond_t rfl ?_
  refine awp_skip ?_
  refine awp_seq ?_
  refine awp_block ?_
  refine awp_seq ?_
  refine awp_seq ?_
  refine awp_region ?_
  first | refine r_fld fld_37_0 rfl trivial rfl ?_ | refine r_fldr fld_37_0 rfl trivial rfl ?_
  first | refine r_ld ty_3 rfl rfl rfl trivial rfl ?_ | refine r_ldr ty_3 rfl rfl trivial rfl ?_ | refine r_ldo ty_3 rfl rfl (by assumption) rfl trivial rfl ?_
  refine r_eqi rfl rfl trivial rfl ?_
  refine r_mv rfl trivial rfl ?_
  refine r_skip ⟨_, rfl, .inl rfl⟩ rfl ?_
  refine r_skip ⟨_, rfl, .inl rfl⟩ rfl ?_
  refine r_pkf rfl rfl trivial rfl ?_
  refine reg_nil ?_
  refine awp_cond_f rfl ?_
  refine awp_skip ?_
  refine awp_region ?_
  refine r_mv rfl trivial rfl ?_
  refine r_cat rfl rfl (by have lrequest := decL_len request.toNat; have lbackend := decL_len backend.toNat; have lweight := decL_len weight.toNat; simp [wordL] <;> omega) trivial rfl ?_
  refine r_mv rfl trivial rfl ?_
  refine r_mv rfl trivial rfl ?_
  first | refine r_ixr sl_63 ty_3 rfl rfl (by decide) rfl trivial rfl ?_ | refine r_ixw sl_63 ty_3 rfl rfl (by decide) (by omega) trivial rfl ?_
  first | refine r_ld ty_3 rfl rfl rfl trivial rfl ?_ | refine r_ldr ty_3 rfl rfl trivial rfl ?_ | refine r_ldo ty_3 rfl rfl (by assumption) rfl trivial rfl ?_
  refine r_call (dec_ok weight (by omega) (by omega)) cb_30 rfl rfl rfl ?_ trivial rfl ?_
  · (repeat (first | exact .nil | refine .cons .fv ?_ | refine .cons (.aggf' rfl) ?_ | refine .cons .nil ?_ | refine .cons (.ren rfl) ?_))
  refine r_cat rfl rfl (by have lrequest := decL_len request.toNat; have lbackend := decL_len backend.toNat; have lweight := decL_len weight.toNat; simp [wordL] <;> omega) trivial rfl ?_
  refine r_as rfl trivial rfl ?_
  refine reg_nil ?_
  refine awp_region ?_
  refine r_mv rfl trivial rfl ?_
  refine r_add rfl rfl (rng64 (by omega)) trivial rfl ?_
  refine r_as rfl trivial rfl ?_
  refine reg_nil ?_
  refine unr_succ ?_
  refine awp_seq ?_
  refine awp_seq ?_
  refine awp_region ?_
  refine r_mv rfl trivial rfl ?_
  refine r_mv rfl trivial rfl ?_
  first | refine r_lenr sl_63 rfl trivial rfl ?_ | refine r_lenw sl_63 rfl trivial rfl ?_ | refine r_len0 sl_63 rfl trivial rfl ?_
  refine r_lss rfl rfl trivial rfl ?_
  refine reg_nil ?_
  refine awp_cond_f rfl ?_
  refine awp_exit ?_
  refine awp_seq ?_
  refine awp_seq ?_
  refine awp_region ?_
  first | refine r_fld fld_37_0 rfl trivial rfl ?_ | refine r_fldr fld_37_0 rfl trivial rfl ?_
  first | refine r_ld ty_3 rfl rfl rfl trivial rfl ?_ | refine r_ldr ty_3 rfl rfl trivial rfl ?_ | refine r_ldo ty_3 rfl rfl (by assumption) rfl trivial rfl ?_
  refine r_eqi rfl rfl trivial rfl ?_
  refine r_mv rfl trivial rfl ?_
  refine r_skip ⟨_, rfl, .inl rfl⟩ rfl ?_
  refine r_skip ⟨_, rfl, .inl rfl⟩ rfl ?_
  refine r_pkf rfl rfl trivial rfl ?_
  refine reg_nil ?_
  refine awp_cond_f rfl ?_
  refine awp_skip ?_
  refine awp_seq ?_
  refine awp_seq ?_
  refine awp_region ?_
  first | refine r_fld fld_37_0 rfl trivial rfl ?_ | refine r_fldr fld_37_0 rfl trivial rfl ?_
  first | refine r_ld ty_3 rfl rfl rfl trivial rfl ?_ | refine r_ldr ty_3 rfl rfl trivial rfl ?_ | refine r_ldo ty_3 rfl rfl (by assumption) rfl trivial rfl ?_
  refine r_eqi rfl rfl trivial rfl ?_
  refine r_mv rfl trivial rfl ?_
  refine r_skip ⟨_, rfl, .inl rfl⟩ rfl ?_
  refine r_skip ⟨_, rfl, .inl rfl⟩ rfl ?_
  refine r_skip ⟨_, rfl, .inl rfl⟩ rfl ?_
  refine r_pkf rfl rfl trivial rfl ?_
  refine reg_nil ?_
  refine awp_cond_f rfl ?_
  refine awp_skip ?_
  refine awp_seq ?_
  refine awp_region ?_
  refine r_mv rfl trivial rfl ?_
  refine r_as rfl trivial rfl ?_
  refine reg_nil ?_
  refine awp_ret ?_
  refine fin0 (.cons (.tmp rfl) .nil) (by first | exact .fv | exact .frz rfl rfl trivial | exact .nil | exact .aggf' rfl | exact .aggf) ?_
  simp [lineL, fieldVals, wordL]
set_option maxRecDepth 100000 in
theorem line_6 (key slot gen : Int) (good : Bool) (request backend weight : Int) (hrequest : 0 ≤ request ∧ request ≤ 1048576) (hbackend : 0 ≤ backend ∧ backend ≤ 11) : Fun Tryd.prog 16 [.agg (fvs (encEv ⟨6, key, slot, gen, good, request, backend, weight⟩))] [] [] (sA (lineL ⟨6, key, slot, gen, good, request, backend, weight⟩)) [] := by
  refine fun_of_awp (rl := [.tmp 2]) Tryd.func16 rfl Tryd.results16 Tryd.ntmps16 0 rfl (by simp) ?_
  intro w0 own0 ρ0 F hz
  refine awp_seq ?_
  refine awp_region ?_
  refine r_box rfl rfl rfl trivial rfl ?_
  refine r_as rfl trivial rfl ?_
  refine reg_nil ?_
  refine awp_seq ?_
  refine awp_region ?_
  first | refine r_lda ty_37 rfl rfl rfl rfl trivial rfl ?_ | refine r_ldra ty_37 rfl rfl rfl trivial rfl ?_ | refine r_ldoa ty_37 rfl rfl (by assumption) rfl rfl trivial rfl ?_
  refine r_call (numbers_6 key slot gen good request backend weight) cb_26 rfl rfl rfl ?_ trivial rfl ?_
  · (repeat (first | exact .nil | refine .cons .fv ?_ | refine .cons (.aggf' rfl) ?_ | refine .cons .nil ?_ | refine .cons (.ren rfl) ?_))
  refine r_mv rfl trivial rfl ?_
  refine r_ext rfl rfl trivial rfl ?_
  refine r_ext rfl rfl trivial rfl ?_
  refine r_ext rfl rfl trivial rfl ?_
  refine r_ext rfl rfl trivial rfl ?_
  refine r_as rfl trivial rfl ?_
  refine r_as rfl trivial rfl ?_
  refine r_as rfl trivial rfl ?_
  refine r_as rfl trivial rfl ?_
  refine reg_nil ?_
  refine awp_seq ?_
  refine awp_region ?_
  first | refine r_fld fld_37_0 rfl trivial rfl ?_ | refine r_fldr fld_37_0 rfl trivial rfl ?_
  first | refine r_ld ty_3 rfl rfl rfl trivial rfl ?_ | refine r_ldr ty_3 rfl rfl trivial rfl ?_ | refine r_ldo ty_3 rfl rfl (by assumption) rfl trivial rfl ?_
  refine r_call (word_ok 6) cb_29 rfl rfl rfl ?_ trivial rfl ?_
  · (repeat (first | exact .nil | refine .cons .fv ?_ | refine .cons (.aggf' rfl) ?_ | refine .cons .nil ?_ | refine .cons (.ren rfl) ?_))
  refine r_as rfl trivial rfl ?_
  refine reg_nil ?_
  refine awp_seq ?_
  refine awp_seq ?_
  refine awp_region ?_
  refine r_as rfl trivial rfl ?_
  refine reg_nil ?_
  refine awp_block ?_
  refine awp_unroll 3 ?_
  refine unr_succ ?_
  refine awp_seq ?_
  refine awp_seq ?_
  refine awp_region ?_
  refine r_mv rfl trivial rfl ?_
  refine r_mv rfl trivial rfl ?_
  first | refine r_lenr sl_63 rfl trivial rfl ?_ | refine r_lenw sl_63 rfl trivial rfl ?_ | refine r_len0 sl_63 rfl trivial rfl ?_
  refine r_lss rfl rfl trivial rfl ?_
  refine reg_nil ?_
  refine awp_cond_t rfl ?_
  refine awp_skip ?_
  refine awp_seq ?_
  refine awp_block ?_
  refine awp_seq ?_
  refine awp_seq ?_
  refine awp_region ?_
  first | refine r_fld fld_37_0 rfl trivial rfl ?_ | refine r_fldr fld_37_0 rfl trivial rfl ?_
  first | refine r_ld ty_3 rfl rfl rfl trivial rfl ?_ | refine r_ldr ty_3 rfl rfl trivial rfl ?_ | refine r_ldo ty_3 rfl rfl (by assumption) rfl trivial rfl ?_
  refine r_eqi rfl rfl trivial rfl ?_
  refine r_mv rfl trivial rfl ?_
  refine r_skip ⟨_, rfl, .inl rfl⟩ rfl ?_
  refine r_skip ⟨_, rfl, .inl rfl⟩ rfl ?_
  refine r_pkf rfl rfl trivial rfl ?_
  refine reg_nil ?_
  refine awp_cond_f rfl ?_
  refine awp_skip ?_
  refine awp_region ?_
  refine r_mv rfl trivial rfl ?_
  refine r_cat rfl rfl (by have lrequest := decL_len request.toNat; have lbackend := decL_len backend.toNat; simp [wordL] <;> omega) trivial rfl ?_
  refine r_mv rfl trivial rfl ?_
  refine r_mv rfl trivial rfl ?_
  first | refine r_ixr sl_63 ty_3 rfl rfl (by decide) rfl trivial rfl ?_ | refine r_ixw sl_63 ty_3 rfl rfl (by decide) (by omega) trivial rfl ?_
  first | refine r_ld ty_3 rfl rfl rfl trivial rfl ?_ | refine r_ldr ty_3 rfl rfl trivial rfl ?_ | refine r_ldo ty_3 rfl rfl (by assumption) rfl trivial rfl ?_
  refine r_call (dec_ok request (by omega) (by omega)) cb_30 rfl rfl rfl ?_ trivial rfl ?_
  · (repeat (first | exact .nil | refine .cons .fv ?_ | refine .cons (.aggf' rfl) ?_ | refine .cons .nil ?_ | refine .cons (.ren rfl) ?_))
  refine r_cat rfl rfl (by have lrequest := decL_len request.toNat; have lbackend := decL_len backend.toNat; simp [wordL] <;> omega) trivial rfl ?_
  refine r_as rfl trivial rfl ?_
  refine reg_nil ?_
  refine awp_region ?_
  refine r_mv rfl trivial rfl ?_
  refine r_add rfl rfl (rng64 (by omega)) trivial rfl ?_
  refine r_as rfl trivial rfl ?_
  refine reg_nil ?_
  refine unr_succ ?_
  refine awp_seq ?_
  refine awp_seq ?_
  refine awp_region ?_
  refine r_mv rfl trivial rfl ?_
  refine r_mv rfl trivial rfl ?_
  first | refine r_lenr sl_63 rfl trivial rfl ?_ | refine r_lenw sl_63 rfl trivial rfl ?_ | refine r_len0 sl_63 rfl trivial rfl ?_
  refine r_lss rfl rfl trivial rfl ?_
  refine reg_nil ?_
  refine awp_cond_t rfl ?_
  refine awp_skip ?_
  refine awp_seq ?_
  refine awp_block ?_
  refine awp_seq ?_
  refine awp_seq ?_
  refine awp_region ?_
  first | refine r_fld fld_37_0 rfl trivial rfl ?_ | refine r_fldr fld_37_0 rfl trivial rfl ?_
  first | refine r_ld ty_3 rfl rfl rfl trivial rfl ?_ | refine r_ldr ty_3 rfl rfl trivial rfl ?_ | refine r_ldo ty_3 rfl rfl (by assumption) rfl trivial rfl ?_
  refine r_eqi rfl rfl trivial rfl ?_
  refine r_mv rfl trivial rfl ?_
  refine r_skip ⟨_, rfl, .inl rfl⟩ rfl ?_
  refine r_skip ⟨_, rfl, .inl rfl⟩ rfl ?_
  refine r_pkf rfl rfl trivial rfl ?_
  refine reg_nil ?_
  refine awp_cond_f rfl ?_
  refine awp_skip ?_
  refine awp_region ?_
  refine r_mv rfl trivial rfl ?_
  refine r_cat rfl rfl (by have lrequest := decL_len request.toNat; have lbackend := decL_len backend.toNat; simp [wordL] <;> omega) trivial rfl ?_
  refine r_mv rfl trivial rfl ?_
  refine r_mv rfl trivial rfl ?_
  first | refine r_ixr sl_63 ty_3 rfl rfl (by decide) rfl trivial rfl ?_ | refine r_ixw sl_63 ty_3 rfl rfl (by decide) (by omega) trivial rfl ?_
  first | refine r_ld ty_3 rfl rfl rfl trivial rfl ?_ | refine r_ldr ty_3 rfl rfl trivial rfl ?_ | refine r_ldo ty_3 rfl rfl (by assumption) rfl trivial rfl ?_
  refine r_call (dec_ok backend (by omega) (by omega)) cb_30 rfl rfl rfl ?_ trivial rfl ?_
  · (repeat (first | exact .nil | refine .cons .fv ?_ | refine .cons (.aggf' rfl) ?_ | refine .cons .nil ?_ | refine .cons (.ren rfl) ?_))
  refine r_cat rfl rfl (by have lrequest := decL_len request.toNat; have lbackend := decL_len backend.toNat; simp [wordL] <;> omega) trivial rfl ?_
  refine r_as rfl trivial rfl ?_
  refine reg_nil ?_
  refine awp_region ?_
  refine r_mv rfl trivial rfl ?_
  refine r_add rfl rfl (rng64 (by omega)) trivial rfl ?_
  refine r_as rfl trivial rfl ?_
  refine reg_nil ?_
  refine unr_succ ?_
  refine awp_seq ?_
  refine awp_seq ?_
  refine awp_region ?_
  refine r_mv rfl trivial rfl ?_
  refine r_mv rfl trivial rfl ?_
  first | refine r_lenr sl_63 rfl trivial rfl ?_ | refine r_lenw sl_63 rfl trivial rfl ?_ | refine r_len0 sl_63 rfl trivial rfl ?_
  refine r_lss rfl rfl trivial rfl ?_
  refine reg_nil ?_
  refine awp_cond_f rfl ?_
  refine awp_exit ?_
  refine awp_seq ?_
  refine awp_seq ?_
  refine awp_region ?_
  first | refine r_fld fld_37_0 rfl trivial rfl ?_ | refine r_fldr fld_37_0 rfl trivial rfl ?_
  first | refine r_ld ty_3 rfl rfl rfl trivial rfl ?_ | refine r_ldr ty_3 rfl rfl trivial rfl ?_ | refine r_ldo ty_3 rfl rfl (by assumption) rfl trivial rfl ?_
  refine r_eqi rfl rfl trivial rfl ?_
  refine r_mv rfl trivial rfl ?_
  refine r_skip ⟨_, rfl, .inl rfl⟩ rfl ?_
  refine r_skip ⟨_, rfl, .inl rfl⟩ rfl ?_
  refine r_pkf rfl rfl trivial rfl ?_
  refine reg_nil ?_
  refine awp_cond_f rfl ?_
  refine awp_skip ?_
  refine awp_seq ?_
  refine awp_seq ?_
  refine awp_region ?_
  first | refine r_fld fld_37_0 rfl trivial rfl ?_ | refine r_fldr fld_37_0 rfl trivial rfl ?_
  first | refine r_ld ty_3 rfl rfl rfl trivial rfl ?_ | refine r_ldr ty_3 rfl rfl trivial rfl ?_ | refine r_ldo ty_3 rfl rfl (by assumption) rfl trivial rfl ?_
  refine r_eqi rfl rfl trivial rfl ?_
  refine r_mv rfl trivial rfl ?_
  refine r_skip ⟨_, rfl, .inl rfl⟩ rfl ?_
  refine r_skip ⟨_, rfl, .inl rfl⟩ rfl ?_
  refine r_skip ⟨_, rfl, .inl rfl⟩ rfl ?_
  refine r_pkf rfl rfl trivial rfl ?_
  refine reg_nil ?_
  refine awp_cond_f rfl ?_
  refine awp_skip ?_
  refine awp_seq ?_
  refine awp_region ?_
  refine r_mv rfl trivial rfl ?_
  refine r_as rfl trivial rfl ?_
  refine reg_nil ?_
  refine awp_ret ?_
  refine fin0 (.cons (.tmp rfl) .nil) (by first | exact .fv | exact .frz rfl rfl trivial | exact .nil | exact .aggf' rfl | exact .aggf) ?_
  simp [lineL, fieldVals, wordL]
set_option maxRecDepth 100000 in
theorem line_7 (key slot gen : Int) (good : Bool) (request backend weight : Int)  : Fun Tryd.prog 16 [.agg (fvs (encEv ⟨7, key, slot, gen, good, request, backend, weight⟩))] [] [] (sA (lineL ⟨7, key, slot, gen, good, request, backend, weight⟩)) [] := by
  refine fun_of_awp (rl := [.tmp 2]) Tryd.func16 rfl Tryd.results16 Tryd.ntmps16 0 rfl (by simp) ?_
  intro w0 own0 ρ0 F hz
  refine awp_seq ?_
  refine awp_region ?_
  refine r_box rfl rfl rfl trivial rfl ?_
  refine r_as rfl trivial rfl ?_
  refine reg_nil ?_
  refine awp_seq ?_
  refine awp_region ?_
  first | refine r_lda ty_37 rfl rfl rfl rfl trivial rfl ?_ | refine r_ldra ty_37 rfl rfl rfl trivial rfl ?_ | refine r_ldoa ty_37 rfl rfl (by assumption) rfl rfl trivial rfl ?_
  refine r_call (numbers_7 key slot gen good request backend weight) cb_26 rfl rfl rfl ?_ trivial rfl ?_
  · (repeat (first | exact .nil | refine .cons .fv ?_ | refine .cons (.aggf' rfl) ?_ | refine .cons .nil ?_ | refine .cons (.ren rfl) ?_))
  refine r_mv rfl trivial rfl ?_
  refine r_ext rfl rfl trivial rfl ?_
  refine r_ext rfl rfl trivial rfl ?_
  refine r_ext rfl rfl trivial rfl ?_
  refine r_ext rfl rfl trivial rfl ?_
  refine r_as rfl trivial rfl ?_
  refine r_as rfl trivial rfl ?_
  refine r_as rfl trivial rfl ?_
  refine r_as rfl trivial rfl ?_
  refine reg_nil ?_
  refine awp_seq ?_
  refine awp_region ?_
  first | refine r_fld fld_37_0 rfl trivial rfl ?_ | refine r_fldr fld_37_0 rfl trivial rfl ?_
  first | refine r_ld ty_3 rfl rfl rfl trivial rfl ?_ | refine r_ldr ty_3 rfl rfl trivial rfl ?_ | refine r_ldo ty_3 rfl rfl (by assumption) rfl trivial rfl ?_
  refine r_call (word_ok 7) cb_29 rfl rfl rfl ?_ trivial rfl ?_
  · (repeat (first | exact .nil | refine .cons .fv ?_ | refine .cons (.aggf' rfl) ?_ | refine .cons .nil ?_ | refine .cons (.ren rfl) ?_))
  refine r_as rfl trivial rfl ?_
  refine reg_nil ?_
  refine awp_seq ?_
  refine awp_seq ?_
  refine awp_region ?_
  refine r_as rfl trivial rfl ?_
  refine reg_nil ?_
  refine awp_block ?_
  refine awp_unroll 1 ?_
  refine unr_succ ?_
  refine awp_seq ?_
  refine awp_seq ?_
  refine awp_region ?_
  refine r_mv rfl trivial rfl ?_
  refine r_mv rfl trivial rfl ?_
  first | refine r_lenr sl_63 rfl trivial rfl ?_ | refine r_lenw sl_63 rfl trivial rfl ?_ | refine r_len0 sl_63 rfl trivial rfl ?_
  refine r_lss rfl rfl trivial rfl ?_
  refine reg_nil ?_
  refine awp_cond_f rfl ?_
  refine awp_exit ?_
  refine awp_seq ?_
  refine awp_seq ?_
  refine awp_region ?_
  first | refine r_fld fld_37_0 rfl trivial rfl ?_ | refine r_fldr fld_37_0 rfl trivial rfl ?_
  first | refine r_ld ty_3 rfl rfl rfl trivial rfl ?_ | refine r_ldr ty_3 rfl rfl trivial rfl ?_ | refine r_ldo ty_3 rfl rfl (by assumption) rfl trivial rfl ?_
  refine r_eqi rfl rfl trivial rfl ?_
  refine r_mv rfl trivial rfl ?_
  refine r_skip ⟨_, rfl, .inl rfl⟩ rfl ?_
  refine r_skip ⟨_, rfl, .inl rfl⟩ rfl ?_
  refine r_pkf rfl rfl trivial rfl ?_
  refine reg_nil ?_
  refine awp_cond_f rfl ?_
  refine awp_skip ?_
  refine awp_seq ?_
  refine awp_seq ?_
  refine awp_region ?_
  first | refine r_fld fld_37_0 rfl trivial rfl ?_ | refine r_fldr fld_37_0 rfl trivial rfl ?_
  first | refine r_ld ty_3 rfl rfl rfl trivial rfl ?_ | refine r_ldr ty_3 rfl rfl trivial rfl ?_ | refine r_ldo ty_3 rfl rfl (by assumption) rfl trivial rfl ?_
  refine r_eqi rfl rfl trivial rfl ?_
  refine r_mv rfl trivial rfl ?_
  refine r_skip ⟨_, rfl, .inl rfl⟩ rfl ?_
  refine r_skip ⟨_, rfl, .inl rfl⟩ rfl ?_
  refine r_skip ⟨_, rfl, .inl rfl⟩ rfl ?_
  refine r_pkf rfl rfl trivial rfl ?_
  refine reg_nil ?_
  refine awp_cond_f rfl ?_
  refine awp_skip ?_
  refine awp_seq ?_
  refine awp_region ?_
  refine r_mv rfl trivial rfl ?_
  refine r_as rfl trivial rfl ?_
  refine reg_nil ?_
  refine awp_ret ?_
  refine fin0 (.cons (.tmp rfl) .nil) (by first | exact .fv | exact .frz rfl rfl trivial | exact .nil | exact .aggf' rfl | exact .aggf) ?_
  simp [lineL, fieldVals, wordL]
end Go.Uw.D
