/- A helper text of this claim: lemmas of an abstract machine over the model, or walks in it. Own work of an AI agent. -/
import Derived.Test.YtkcjomglcjhkgaaDoorD15
set_option linter.unusedVariables false
set_option linter.unusedSimpArgs false
namespace Go.Uw.D
set_option linter.unusedSimpArgs false
open Go Go.Uw Go.Proofs
theorem show_ok (l : List Ev) : Fun Tryd.prog 6 [.fv (.ro 8 (l.map encEv))] [] [] (.tup [sA (showR l).1, iA (showR l).2.1, iA (showR l).2.2]) [] := by
  cases l with
  | nil => exact show_nil
  | cons e l => exact show_cons (e :: l) (by simp)

set_option maxRecDepth 100000 in
theorem linesShows_ok (l : List Ev) (hl : l.length * 64 ≤ 140737488355328) : Fun Tryd.prog 3 [.fv (.ro 8 (l.map encEv))] [] [] (bA true) [] := by
  refine fun_of_awp (rl := [.tmp 2]) Tryd.func3 rfl Tryd.results3 Tryd.ntmps3 0 rfl (by simp) ?_
  intro w0 own0 ρ0 F hz
  refine awp_seq ?_
  refine awp_region ?_
  refine r_as rfl trivial rfl ?_
  refine reg_nil ?_
  refine awp_seq ?_
  refine awp_region ?_
  refine r_mv rfl trivial rfl ?_
  refine r_call (events_ok l hl) cb_5 rfl rfl rfl ?_ trivial rfl ?_
  · (repeat (first | exact .nil | refine .cons .fv ?_ | refine .cons (.aggf' rfl) ?_ | refine .cons .nil ?_ | refine .cons (.ren rfl) ?_))
  refine r_as rfl trivial rfl ?_
  refine reg_nil ?_
  refine awp_seq ?_
  refine awp_region ?_
  refine r_mv rfl trivial rfl ?_
  refine r_call (show_ok l) cb_6 rfl rfl rfl ?_ trivial rfl ?_
  · (repeat (first | exact .nil | refine .cons .fv ?_ | refine .cons (.aggf' rfl) ?_ | refine .cons .nil ?_ | refine .cons (.ren rfl) ?_))
  refine r_mv rfl trivial rfl ?_
  refine r_ext rfl rfl trivial rfl ?_
  refine r_ext rfl rfl trivial rfl ?_
  refine r_ext rfl rfl trivial rfl ?_
  refine r_as rfl trivial rfl ?_
  refine r_as rfl trivial rfl ?_
  refine r_as rfl trivial rfl ?_
  refine reg_nil ?_
  refine awp_seq ?_
  refine awp_region ?_
  refine r_mv rfl trivial rfl ?_
  refine r_call (shown_ok l) cb_7 rfl rfl rfl ?_ trivial rfl ?_
  · (repeat (first | exact .nil | refine .cons .fv ?_ | refine .cons (.aggf' rfl) ?_ | refine .cons .nil ?_ | refine .cons (.ren rfl) ?_))
  refine r_mv rfl trivial rfl ?_
  refine r_ext rfl rfl trivial rfl ?_
  refine r_ext rfl rfl trivial rfl ?_
  refine r_ext rfl rfl trivial rfl ?_
  refine r_as rfl trivial rfl ?_
  refine r_as rfl trivial rfl ?_
  refine r_as rfl trivial rfl ?_
  refine reg_nil ?_
  refine awp_seq ?_
  refine awp_region ?_
  refine r_mv rfl trivial rfl ?_
  refine r_mv rfl trivial rfl ?_
  refine r_eqstr rfl rfl trivial rfl ?_
  refine r_mv rfl trivial rfl ?_
  first | refine reg_split_dec 27 rfl (fun h1 => ?_) (fun h1 => ?_) | refine reg_split 27 rfl (fun h1 => ?_) (fun h1 => ?_)
  · refine r_mv rfl ⟨_, rfl, rfl⟩ rfl ?_
    refine r_mv rfl ⟨_, rfl, rfl⟩ rfl ?_
    refine r_eqi rfl rfl ⟨_, rfl, rfl⟩ rfl ?_
    refine r_pkt rfl rfl trivial rfl ?_
    refine r_mv rfl trivial rfl ?_
    first | refine reg_split_dec 32 rfl (fun h2 => ?_) (fun h2 => ?_) | refine reg_split 32 rfl (fun h2 => ?_) (fun h2 => ?_)
    · refine r_mv rfl ⟨_, rfl, rfl⟩ rfl ?_
      refine r_mv rfl ⟨_, rfl, rfl⟩ rfl ?_
      refine r_eqi rfl rfl ⟨_, rfl, rfl⟩ rfl ?_
      refine r_pkt rfl rfl trivial rfl ?_
      refine r_mv rfl trivial rfl ?_
      first | refine reg_split_dec 37 rfl (fun h3 => ?_) (fun h3 => ?_) | refine reg_split 37 rfl (fun h3 => ?_) (fun h3 => ?_)
      · refine r_mv rfl ⟨_, rfl, rfl⟩ rfl ?_
        refine r_mv rfl ⟨_, rfl, rfl⟩ rfl ?_
        refine r_call (same_ok l) cb_8 rfl rfl rfl ?_ ⟨_, rfl, rfl⟩ rfl ?_
        · (repeat (first | exact .nil | refine .cons .fv ?_ | refine .cons (.aggf' rfl) ?_ | refine .cons .nil ?_ | refine .cons (.ren rfl) ?_))
        refine r_pkt rfl rfl trivial rfl ?_
        refine r_as rfl trivial rfl ?_
        refine reg_nil ?_
        refine awp_ret ?_
        refine fin0 (.cons (.tmp rfl) .nil) (by first | exact .fv | exact .frz rfl rfl trivial | exact .nil | exact .aggf' rfl | exact .aggf) ?_
        simp_all
      · refine r_skip ⟨_, rfl, .inl rfl⟩ rfl ?_
        refine r_skip ⟨_, rfl, .inl rfl⟩ rfl ?_
        refine r_skip ⟨_, rfl, .inl rfl⟩ rfl ?_
        refine r_pkf rfl rfl trivial rfl ?_
        refine r_as rfl trivial rfl ?_
        refine reg_nil ?_
        refine awp_ret ?_
        refine fin0 (.cons (.tmp rfl) .nil) (by first | exact .fv | exact .frz rfl rfl trivial | exact .nil | exact .aggf' rfl | exact .aggf) ?_
        simp_all
    · refine r_skip ⟨_, rfl, .inl rfl⟩ rfl ?_
      refine r_skip ⟨_, rfl, .inl rfl⟩ rfl ?_
      refine r_skip ⟨_, rfl, .inl rfl⟩ rfl ?_
      refine r_pkf rfl rfl trivial rfl ?_
      refine r_mv rfl trivial rfl ?_
      refine r_skip ⟨_, rfl, .inl rfl⟩ rfl ?_
      refine r_skip ⟨_, rfl, .inl rfl⟩ rfl ?_
      refine r_skip ⟨_, rfl, .inl rfl⟩ rfl ?_
      refine r_pkf rfl rfl trivial rfl ?_
      refine r_as rfl trivial rfl ?_
      refine reg_nil ?_
      refine awp_ret ?_
      refine fin0 (.cons (.tmp rfl) .nil) (by first | exact .fv | exact .frz rfl rfl trivial | exact .nil | exact .aggf' rfl | exact .aggf) ?_
      simp_all
  · refine r_skip ⟨_, rfl, .inl rfl⟩ rfl ?_
    refine r_skip ⟨_, rfl, .inl rfl⟩ rfl ?_
    refine r_skip ⟨_, rfl, .inl rfl⟩ rfl ?_
    refine r_pkf rfl rfl trivial rfl ?_
    refine r_mv rfl trivial rfl ?_
    refine r_skip ⟨_, rfl, .inl rfl⟩ rfl ?_
    refine r_skip ⟨_, rfl, .inl rfl⟩ rfl ?_
    refine r_skip ⟨_, rfl, .inl rfl⟩ rfl ?_
    refine r_pkf rfl rfl trivial rfl ?_
    refine r_mv rfl trivial rfl ?_
    refine r_skip ⟨_, rfl, .inl rfl⟩ rfl ?_
    refine r_skip ⟨_, rfl, .inl rfl⟩ rfl ?_
    refine r_skip ⟨_, rfl, .inl rfl⟩ rfl ?_
    refine r_pkf rfl rfl trivial rfl ?_
    refine r_as rfl trivial rfl ?_
    refine reg_nil ?_
    refine awp_ret ?_
    refine fin0 (.cons (.tmp rfl) .nil) (by first | exact .fv | exact .frz rfl rfl trivial | exact .nil | exact .aggf' rfl | exact .aggf) ?_
    simp_all
end Go.Uw.D
