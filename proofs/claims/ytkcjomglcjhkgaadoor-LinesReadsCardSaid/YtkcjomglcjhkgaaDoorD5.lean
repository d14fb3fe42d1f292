/- A helper text of this claim: lemmas of an abstract machine over the model, or walks in it. Own work of an AI agent. -/
import Derived.Test.YtkcjomglcjhkgaaDoorD4
set_option linter.unusedVariables false
set_option linter.unusedSimpArgs false
namespace Go.Uw.D
open Go Go.Uw Go.Proofs
def wordL (k : Int) : List UInt8 :=
  if k = 1 then [111, 112, 101, 110] else if k = 2 then [100, 97, 116, 97] else if k = 3 then [99, 108, 111, 115, 101] else if k = 4 then [97, 110, 115, 119, 101, 114]
  else if k = 5 then [106, 111, 105, 110] else if k = 6 then [114, 101, 116, 105, 114, 101] else if k = 7 then [116, 105, 99, 107] else []
def decL (n : Nat) : List UInt8 := if h : n < 10 then [UInt8.ofNat (48 + n)] else decL (n / 10) ++ [UInt8.ofNat (48 + n % 10)]
termination_by n
decreasing_by omega
theorem decL_small {n : Nat} (h : n < 10) : decL n = [UInt8.ofNat (48 + n)] := by rw [decL]; simp [h]
theorem decL_big {n : Nat} (h : ¬ n < 10) : decL n = decL (n / 10) ++ [UInt8.ofNat (48 + n % 10)] := by rw [decL]; simp [h]
def fieldVals (e : Ev) : List Int :=
  if e.kind = 1 then [e.key] else if e.kind = 2 ∨ e.kind = 3 ∨ e.kind = 4 then [e.slot, e.gen] else if e.kind = 5 then [e.request, e.backend, e.weight]
  else if e.kind = 6 then [e.request, e.backend] else []
def lineL (e : Ev) : List UInt8 :=
  (fieldVals e).foldl (fun s n => s ++ [32] ++ decL n.toNat) (wordL e.kind) ++ (if e.kind = 4 then (if e.good then [32, 103, 111, 111, 100] else [32, 98, 97, 100]) else [])

set_option maxRecDepth 100000 in
theorem word_ok (k : Int) : Fun Tryd.prog 29 [iA k] [] [] (sA (wordL k)) [] := by
  refine fun_of_awp (rl := [.tmp 2]) Tryd.func29 rfl Tryd.results29 Tryd.ntmps29 0 rfl (by simp) ?_
  intro w0 own0 ρ0 F hz
  refine awp_seq ?_
  refine awp_region ?_
  refine r_as rfl trivial rfl ?_
  refine reg_nil ?_
  refine awp_seq ?_
  refine awp_seq ?_
  refine awp_region ?_
  refine r_mv rfl trivial rfl ?_
  refine reg_nil ?_
  refine awp_block ?_
  refine awp_seq ?_
  refine awp_region ?_
  refine r_eqi rfl rfl trivial rfl ?_
  refine r_as rfl trivial rfl ?_
  refine reg_nil ?_
  first | refine awp_cond_dec rfl (fun h1 => ?_) (fun h1 => ?_) | refine awp_cond rfl (fun h1 => ?_) (fun h1 => ?_)
  · refine awp_seq ?_
    refine awp_region ?_
    refine r_as rfl trivial rfl ?_
    refine reg_nil ?_
    refine awp_ret ?_
    refine fin0 (.cons (.tmp rfl) .nil) (by first | exact .fv | exact .frz rfl rfl trivial | exact .nil | exact .aggf' rfl | exact .aggf) ?_
    simp_all [wordL]
  · refine awp_seq ?_
    refine awp_region ?_
    refine r_eqi rfl rfl trivial rfl ?_
    refine r_as rfl trivial rfl ?_
    refine reg_nil ?_
    first | refine awp_cond_dec rfl (fun h2 => ?_) (fun h2 => ?_) | refine awp_cond rfl (fun h2 => ?_) (fun h2 => ?_)
    · refine awp_seq ?_
      refine awp_region ?_
      refine r_as rfl trivial rfl ?_
      refine reg_nil ?_
      refine awp_ret ?_
      refine fin0 (.cons (.tmp rfl) .nil) (by first | exact .fv | exact .frz rfl rfl trivial | exact .nil | exact .aggf' rfl | exact .aggf) ?_
      simp_all [wordL]
    · refine awp_seq ?_
      refine awp_region ?_
      refine r_eqi rfl rfl trivial rfl ?_
      refine r_as rfl trivial rfl ?_
      refine reg_nil ?_
      first | refine awp_cond_dec rfl (fun h3 => ?_) (fun h3 => ?_) | refine awp_cond rfl (fun h3 => ?_) (fun h3 => ?_)
      · refine awp_seq ?_
        refine awp_region ?_
        refine r_as rfl trivial rfl ?_
        refine reg_nil ?_
        refine awp_ret ?_
        refine fin0 (.cons (.tmp rfl) .nil) (by first | exact .fv | exact .frz rfl rfl trivial | exact .nil | exact .aggf' rfl | exact .aggf) ?_
        simp_all [wordL]
      · refine awp_seq ?_
        refine awp_region ?_
        refine r_eqi rfl rfl trivial rfl ?_
        refine r_as rfl trivial rfl ?_
        refine reg_nil ?_
        first | refine awp_cond_dec rfl (fun h4 => ?_) (fun h4 => ?_) | refine awp_cond rfl (fun h4 => ?_) (fun h4 => ?_)
        · refine awp_seq ?_
          refine awp_region ?_
          refine r_as rfl trivial rfl ?_
          refine reg_nil ?_
          refine awp_ret ?_
          refine fin0 (.cons (.tmp rfl) .nil) (by first | exact .fv | exact .frz rfl rfl trivial | exact .nil | exact .aggf' rfl | exact .aggf) ?_
          simp_all [wordL]
        · refine awp_seq ?_
          refine awp_region ?_
          refine r_eqi rfl rfl trivial rfl ?_
          refine r_as rfl trivial rfl ?_
          refine reg_nil ?_
          first | refine awp_cond_dec rfl (fun h5 => ?_) (fun h5 => ?_) | refine awp_cond rfl (fun h5 => ?_) (fun h5 => ?_)
          · refine awp_seq ?_
            refine awp_region ?_
            refine r_as rfl trivial rfl ?_
            refine reg_nil ?_
            refine awp_ret ?_
            refine fin0 (.cons (.tmp rfl) .nil) (by first | exact .fv | exact .frz rfl rfl trivial | exact .nil | exact .aggf' rfl | exact .aggf) ?_
            simp_all [wordL]
          · refine awp_seq ?_
            refine awp_region ?_
            refine r_eqi rfl rfl trivial rfl ?_
            refine r_as rfl trivial rfl ?_
            refine reg_nil ?_
            first | refine awp_cond_dec rfl (fun h6 => ?_) (fun h6 => ?_) | refine awp_cond rfl (fun h6 => ?_) (fun h6 => ?_)
            · refine awp_seq ?_
              refine awp_region ?_
              refine r_as rfl trivial rfl ?_
              refine reg_nil ?_
              refine awp_ret ?_
              refine fin0 (.cons (.tmp rfl) .nil) (by first | exact .fv | exact .frz rfl rfl trivial | exact .nil | exact .aggf' rfl | exact .aggf) ?_
              simp_all [wordL]
            · refine awp_seq ?_
              refine awp_region ?_
              refine r_eqi rfl rfl trivial rfl ?_
              refine r_as rfl trivial rfl ?_
              refine reg_nil ?_
              first | refine awp_cond_dec rfl (fun h7 => ?_) (fun h7 => ?_) | refine awp_cond rfl (fun h7 => ?_) (fun h7 => ?_)
              · refine awp_seq ?_
                refine awp_region ?_
                refine r_as rfl trivial rfl ?_
                refine reg_nil ?_
                refine awp_ret ?_
                refine fin0 (.cons (.tmp rfl) .nil) (by first | exact .fv | exact .frz rfl rfl trivial | exact .nil | exact .aggf' rfl | exact .aggf) ?_
                simp_all [wordL]
              · refine awp_skip ?_
                refine awp_seq ?_
                refine awp_region ?_
                refine r_as rfl trivial rfl ?_
                refine reg_nil ?_
                refine awp_ret ?_
                refine fin0 (.cons (.tmp rfl) .nil) (by first | exact .fv | exact .frz rfl rfl trivial | exact .nil | exact .aggf' rfl | exact .aggf) ?_
                simp_all [wordL]
end Go.Uw.D
