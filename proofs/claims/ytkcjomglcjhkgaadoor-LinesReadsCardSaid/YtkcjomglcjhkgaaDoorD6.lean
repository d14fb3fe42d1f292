/- A helper text of this claim: lemmas of an abstract machine over the model, or walks in it. Own work of an AI agent. -/
import Derived.Test.YtkcjomglcjhkgaaDoorD5
set_option linter.unusedVariables false
set_option linter.unusedSimpArgs false
namespace Go.Uw.D
open Go Go.Uw Go.Proofs
def showGo : List Ev → Nat → List UInt8 → List UInt8 × Int × Int
  | [], _, acc => (acc, 0, 0)
  | e :: r, i, acc => if checkEv e ≠ 0 then ([], i, checkEv e) else showGo r (i + 1) (acc ++ lineL e ++ [10])
def showR (l : List Ev) : List UInt8 × Int × Int := if 4000 < l.length then ([], 0, 1) else showGo l 0 []

set_option maxRecDepth 100000 in
theorem same_ok (l : List Ev) : Fun Tryd.prog 8 [.fv (.ro 8 (l.map encEv)), .fv (.ro 8 (l.map encEv))] [] [] (bA true) [] := by
  refine fun_of_awp (rl := [.tmp 4]) Tryd.func8 rfl Tryd.results8 Tryd.ntmps8 0 rfl (by simp) ?_
  intro w0 own0 ρ0 F hz
  refine awp_len 0 rfl (fun hlen => ?_)
  simp [maxLen_eq] at hlen
  refine awp_seq ?_
  refine awp_region ?_
  refine r_as rfl trivial rfl ?_
  refine reg_nil ?_
  refine awp_seq ?_
  refine awp_seq ?_
  refine awp_region ?_
  refine r_mv rfl trivial rfl ?_
  first | refine r_lenr sl_22 rfl trivial rfl ?_ | refine r_lenw sl_22 rfl trivial rfl ?_ | refine r_len0 sl_22 rfl trivial rfl ?_
  refine r_mv rfl trivial rfl ?_
  first | refine r_lenr sl_22 rfl trivial rfl ?_ | refine r_lenw sl_22 rfl trivial rfl ?_ | refine r_len0 sl_22 rfl trivial rfl ?_
  refine r_nei rfl rfl trivial rfl ?_
  refine reg_nil ?_
  first | refine awp_cond_dec rfl (fun h1 => ?_) (fun h1 => ?_) | refine awp_cond rfl (fun h1 => ?_) (fun h1 => ?_)
  · try simp only [List.length_map] at h1
    refine awp_seq ?_
    refine awp_region ?_
    refine r_as rfl trivial rfl ?_
    refine reg_nil ?_
    refine awp_ret ?_
    refine fin0 (.cons (.tmp rfl) .nil) (by first | exact .fv | exact .frz rfl rfl trivial | exact .nil | exact .aggf' rfl | exact .aggf) ?_
    simp_all
  · try simp only [List.length_map] at h1
    refine awp_skip ?_
    refine awp_seq ?_
    refine awp_seq ?_
    refine awp_region ?_
    refine r_as rfl trivial rfl ?_
    refine reg_nil ?_
    refine awp_block ?_
    refine awp_loopQ (X := Nat) (fun x => x ≤ l.length) (fun x => ⟨[(0, .fv (.ro 8 (l.map encEv))), (1, .fv (.ro 8 (l.map encEv))), (5, iA x)], [], 0⟩) (fun x => l.length - x) 0 ?_ ?_ ?_
    · exact Nat.zero_le _
    · exact le_mk [] rfl hz (Nat.zero_le _) ⟨⟨_, rfl, .fv⟩, ⟨_, rfl, .fv⟩, ⟨_, rfl, .fv⟩, trivial⟩ trivial
    · intro x hx
      refine awp_seq ?_
      refine awp_seq ?_
      refine awp_region ?_
      refine r_mv rfl trivial rfl ?_
      refine r_mv rfl trivial rfl ?_
      first | refine r_lenr sl_22 rfl trivial rfl ?_ | refine r_lenw sl_22 rfl trivial rfl ?_ | refine r_len0 sl_22 rfl trivial rfl ?_
      refine r_lss rfl rfl trivial rfl ?_
      refine reg_nil ?_
      first | refine awp_cond_dec rfl (fun h2 => ?_) (fun h2 => ?_) | refine awp_cond rfl (fun h2 => ?_) (fun h2 => ?_)
      · try simp only [List.length_map] at h2
        refine awp_skip ?_
        refine awp_seq ?_
        refine awp_block ?_
        refine awp_seq ?_
        refine awp_draw mix rfl ?_
        refine r_mv rfl trivial rfl ?_
        refine r_mv rfl trivial rfl ?_
        first | refine r_ixr sl_22 ty_37 rfl rfl (by omega) (map_get (by omega)) trivial rfl ?_ | refine r_ixw sl_22 ty_37 rfl rfl (by omega) (by omega) trivial rfl ?_
        first | refine r_lda ty_37 rfl rfl rfl rfl trivial rfl ?_ | refine r_ldra ty_37 rfl rfl rfl trivial rfl ?_ | refine r_ldoa ty_37 rfl rfl (by assumption) rfl rfl trivial rfl ?_
        refine r_mv rfl trivial rfl ?_
        refine r_mv rfl trivial rfl ?_
        first | refine r_ixr sl_22 ty_37 rfl rfl (by omega) (map_get (by omega)) trivial rfl ?_ | refine r_ixw sl_22 ty_37 rfl rfl (by omega) (by omega) trivial rfl ?_
        first | refine r_lda ty_37 rfl rfl rfl rfl trivial rfl ?_ | refine r_ldra ty_37 rfl rfl rfl trivial rfl ?_ | refine r_ldoa ty_37 rfl rfl (by assumption) rfl rfl trivial rfl ?_
        refine r_nes flat_37 (by decide) agg_37 eqg_37 rfl rfl rfl rfl rfl rfl (eqVs_ev (l[x]'(by omega)) (l[x]'(by omega))) trivial rfl ?_
        refine reg_nil ⟨rfl, ?_⟩
        first | refine awp_cond_dec rfl (fun h3 => ?_) (fun h3 => ?_) | refine awp_cond rfl (fun h3 => ?_) (fun h3 => ?_)
        · try simp only [List.length_map] at h3
          refine awp_seq ?_
          refine awp_region ?_
          refine r_as rfl trivial rfl ?_
          refine reg_nil ?_
          refine awp_ret ?_
          refine fin0 (.cons (.tmp rfl) .nil) (by first | exact .fv | exact .frz rfl rfl trivial | exact .nil | exact .aggf' rfl | exact .aggf) ?_
          simp_all
        · try simp only [List.length_map] at h3
          refine awp_skip ?_
          refine awp_region ?_
          refine r_mv rfl trivial rfl ?_
          refine r_add rfl rfl (rng64 (by omega)) trivial rfl ?_
          refine r_as rfl trivial rfl ?_
          refine reg_nil ?_
          exact ⟨x + 1, by omega, le_mk [] rfl hz (Nat.zero_le _) ⟨⟨_, rfl, .fv⟩, ⟨_, rfl, .fv⟩, ⟨_, rfl, .fv⟩, trivial⟩ trivial, (show l.length - (x + 1) < l.length - x by omega)⟩
      · try simp only [List.length_map] at h2
        refine awp_exit ?_
        refine awp_seq ?_
        refine awp_region ?_
        refine r_as rfl trivial rfl ?_
        refine reg_nil ?_
        refine awp_ret ?_
        refine fin0 (.cons (.tmp rfl) .nil) (by first | exact .fv | exact .frz rfl rfl trivial | exact .nil | exact .aggf' rfl | exact .aggf) ?_
        simp_all
end Go.Uw.D
