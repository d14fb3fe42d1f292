/- A helper text of this claim: lemmas of an abstract machine over the model, or walks in it. Own work of an AI agent. -/
import Derived.Test.YtkcjomglcjhkgaaDoorD7
set_option linter.unusedVariables false
set_option linter.unusedSimpArgs false
namespace Go.Uw.D
set_option linter.unusedSimpArgs false
open Go Go.Uw Go.Proofs

set_option maxRecDepth 100000 in
theorem shown_ok (l : List Ev) : Fun Tryd.prog 7 [.fv (.ro 8 (l.map encEv))] [] [] (.tup [sA (showR l).1, iA (showR l).2.1, iA (showR l).2.2]) [] := by
  refine fun_of_awp (rl := [.tmp 2, .tmp 3, .tmp 4]) Tryd.func7 rfl Tryd.results7 Tryd.ntmps7 0 rfl (by simp) ?_
  intro w0 own0 ρ0 F hz
  refine awp_seq ?_
  refine awp_region ?_
  refine r_as rfl trivial rfl ?_
  refine r_as rfl trivial rfl ?_
  refine r_as rfl trivial rfl ?_
  refine reg_nil ?_
  refine awp_seq ?_
  refine awp_seq ?_
  refine awp_region ?_
  refine r_mv rfl trivial rfl ?_
  first | refine r_lenr sl_22 rfl trivial rfl ?_ | refine r_lenw sl_22 rfl trivial rfl ?_ | refine r_len0 sl_22 rfl trivial rfl ?_
  refine r_gtr rfl rfl trivial rfl ?_
  refine reg_nil ?_
  first | refine awp_cond_dec rfl (fun h1 => ?_) (fun h1 => ?_) | refine awp_cond rfl (fun h1 => ?_) (fun h1 => ?_)
  · try simp only [List.length_map] at h1
    refine awp_seq ?_
    refine awp_region ?_
    refine r_as rfl trivial rfl ?_
    refine r_as rfl trivial rfl ?_
    refine r_as rfl trivial rfl ?_
    refine reg_nil ?_
    refine awp_ret ?_
    refine fin0 (.cons (.tmp rfl) (.cons (.tmp rfl) (.cons (.tmp rfl) .nil))) (.tup (.cons (by first | exact .fv | exact .frz rfl rfl trivial | exact .nil | exact .aggf' rfl | exact .aggf) (.cons (by first | exact .fv | exact .frz rfl rfl trivial | exact .nil | exact .aggf' rfl | exact .aggf) (.cons (by first | exact .fv | exact .frz rfl rfl trivial | exact .nil | exact .aggf' rfl | exact .aggf) .nil)))) ?_
    (have hs : showR l = ([], 0, 1) := (by rw [showR, if_pos (by omega)])
     simp [hs])
  · try simp only [List.length_map] at h1
    refine awp_skip ?_
    refine awp_seq ?_
    refine awp_region ?_
    refine r_as rfl trivial rfl ?_
    refine reg_nil ?_
    refine awp_seq ?_
    refine awp_seq ?_
    refine awp_region ?_
    refine r_as rfl trivial rfl ?_
    refine reg_nil ?_
    refine awp_block ?_
    refine awp_le (le_virt (d := 5) 5 1 rfl) ?_
    refine awp_loopQ (X := Nat × List UInt8) (fun x => x.1 ≤ l.length ∧ x.2.length ≤ 100 * x.1 ∧ showGo (l.drop x.1) x.1 x.2 = showGo l 0 []) (fun x => ⟨[(0, .fv (.ro 8 (l.map encEv))), (5, .rw 0 1 0 x.2.length), (6, iA x.1)], [(0, some (.rows 5 1 (bytesF x.2)))], 1⟩) (fun x => l.length - x.1) (0, []) ?_ ?_ ?_
    · exact ⟨Nat.zero_le _, by simp, by simp⟩
    · exact le_mk [(0, 0)] rfl hz (Nat.zero_le _) ⟨⟨_, rfl, .fv⟩, ⟨_, rfl, .ren rfl⟩, ⟨_, rfl, .fv⟩, trivial⟩ ⟨⟨_, rfl, .ren rfl⟩, trivial⟩
    · intro x hx
      obtain ⟨hx1, hx2, hx3⟩ := hx
      refine awp_seq ?_
      refine awp_seq ?_
      refine awp_region ?_
      refine r_mv rfl trivial rfl ?_
      refine r_mv rfl trivial rfl ?_
      first | refine r_lenr sl_22 rfl trivial rfl ?_ | refine r_lenw sl_22 rfl trivial rfl ?_ | refine r_len0 sl_22 rfl trivial rfl ?_
      refine r_lss rfl rfl trivial rfl ?_
      refine reg_nil ?_
      first | refine awp_cond_dec rfl (fun h2 => ?_) (fun h2 => ?_) | refine awp_cond rfl (fun h2 => ?_) (fun h2 => ?_)
      · try simp only [List.length_map] at h2
        refine awp_skip ?_
        refine awp_seq ?_
        refine awp_block ?_
        refine awp_seq ?_
        refine awp_region ?_
        refine r_mv rfl trivial rfl ?_
        refine r_mv rfl trivial rfl ?_
        first | refine r_ixr sl_22 ty_37 rfl rfl (by omega) (map_get (by omega)) trivial rfl ?_ | refine r_ixw sl_22 ty_37 rfl rfl (by omega) (by omega) trivial rfl ?_
        first | refine r_lda ty_37 rfl rfl rfl rfl trivial rfl ?_ | refine r_ldra ty_37 rfl rfl rfl trivial rfl ?_ | refine r_ldoa ty_37 rfl rfl (by assumption) rfl rfl trivial rfl ?_
        refine r_call (fault_ok (l[x.1]'(by omega))) cb_15 rfl rfl rfl ?_ trivial rfl ?_
        · (repeat (first | exact .nil | refine .cons .fv ?_ | refine .cons (.aggf' rfl) ?_ | refine .cons .nil ?_ | refine .cons (.ren rfl) ?_))
        refine r_as rfl trivial rfl ?_
        refine reg_nil ?_
        refine awp_seq ?_
        refine awp_seq ?_
        refine awp_region ?_
        refine r_mv rfl trivial rfl ?_
        refine r_nei rfl rfl trivial rfl ?_
        refine reg_nil ?_
        first | refine awp_cond_dec rfl (fun h3 => ?_) (fun h3 => ?_) | refine awp_cond rfl (fun h3 => ?_) (fun h3 => ?_)
        · try simp only [List.length_map] at h3
          refine awp_seq ?_
          refine awp_region ?_
          refine r_mv rfl trivial rfl ?_
          refine r_mv rfl trivial rfl ?_
          refine r_as rfl trivial rfl ?_
          refine r_as rfl trivial rfl ?_
          refine r_as rfl trivial rfl ?_
          refine reg_nil ?_
          refine awp_ret ?_
          refine fin0 (.cons (.tmp rfl) (.cons (.tmp rfl) (.cons (.tmp rfl) .nil))) (.tup (.cons (by first | exact .fv | exact .frz rfl rfl trivial | exact .nil | exact .aggf' rfl | exact .aggf) (.cons (by first | exact .fv | exact .frz rfl rfl trivial | exact .nil | exact .aggf' rfl | exact .aggf) (.cons (by first | exact .fv | exact .frz rfl rfl trivial | exact .nil | exact .aggf' rfl | exact .aggf) .nil)))) ?_
          (have hi : x.1 < l.length := (by omega)
           have hs : showR l = ([], (x.1 : Int), checkEv l[x.1]) := (by rw [showR, if_neg (by omega), ← hx3, showGo_step hi, if_pos h3])
           simp [hs])
        · try simp only [List.length_map] at h3
          refine awp_skip ?_
          refine awp_seq ?_
          refine awp_region ?_
          refine r_mv rfl trivial rfl ?_
          refine r_mv rfl trivial rfl ?_
          refine r_mv rfl trivial rfl ?_
          first | refine r_ixr sl_22 ty_37 rfl rfl (by omega) (map_get (by omega)) trivial rfl ?_ | refine r_ixw sl_22 ty_37 rfl rfl (by omega) (by omega) trivial rfl ?_
          first | refine r_lda ty_37 rfl rfl rfl rfl trivial rfl ?_ | refine r_ldra ty_37 rfl rfl rfl trivial rfl ?_ | refine r_ldoa ty_37 rfl rfl (by assumption) rfl rfl trivial rfl ?_
          refine r_call (line_ok (l[x.1]'(by omega)) (by simpa using h3)) cb_16 rfl rfl rfl ?_ trivial rfl ?_
          · (repeat (first | exact .nil | refine .cons .fv ?_ | refine .cons (.aggf' rfl) ?_ | refine .cons .nil ?_ | refine .cons (.ren rfl) ?_))
          refine r_apps sl_33 us_9 ty_5 rfl z_5 rfl rfl rfl (by simp [bytesF_len]) (by have := line_len (l[x.1]'(by omega)) (by simpa using h3); simp [maxLen_eq, bytesF_len]; omega) (by have := line_len (l[x.1]'(by omega)) (by simpa using h3); simp [bytesF_len]; omega) trivial rfl ?_
          refine r_as rfl trivial rfl ?_
          refine reg_nil ?_
          refine awp_region ?_
          refine r_mv rfl trivial rfl ?_
          refine r_bslice (rs := [[_]]) sl_33 ty_5 rfl z_5 rfl rfl rfl rfl rfl rfl rfl trivial rfl ?_
          first | refine r_appr sl_33 ty_5 rfl z_5 rfl rfl rfl (by simp [bytesF_len]) (by have := line_len (l[x.1]'(by omega)) (by simpa using h3); simp [maxLen_eq, bytesF_len]; omega) (by have := line_len (l[x.1]'(by omega)) (by simpa using h3); simp [bytesF_len]; omega) trivial rfl ?_ | refine r_appw sl_33 ty_5 rfl z_5 rfl rfl rfl rfl (by simp [bytesF_len]) rfl rfl (by have := line_len (l[x.1]'(by omega)) (by simpa using h3); simp [maxLen_eq, bytesF_len]; omega) (by have := line_len (l[x.1]'(by omega)) (by simpa using h3); simp [bytesF_len]; omega) trivial rfl ?_
          refine r_as rfl trivial rfl ?_
          refine reg_nil ?_
          refine awp_region ?_
          refine r_mv rfl trivial rfl ?_
          refine r_add rfl rfl (rng64 (by omega)) trivial rfl ?_
          refine r_as rfl trivial rfl ?_
          refine reg_nil ?_
          (have hi : x.1 < l.length := (by omega)
           have hok : checkEv l[x.1] = 0 := (by simpa using h3)
           have hll := line_len _ hok
           exact ⟨(x.1 + 1, x.2 ++ lineL l[x.1] ++ [10]), ⟨by simp only; omega, by simp only [List.length_append, List.length_cons, List.length_nil]; omega, by simp only; rw [← hx3, showGo_step hi, if_neg (by simpa using hok)]⟩,
  le_mk [(0, 3)] rfl hz (Nat.zero_le _) ⟨⟨_, rfl, .fv⟩, ⟨_, rfl, .ren (by simp [AV.ren, ren, bytesF_len, Nat.add_assoc])⟩, ⟨_, rfl, .fv⟩, trivial⟩ ⟨⟨_, rfl, .ren (by simp [Blk.ren, bytesF])⟩, trivial⟩, (show l.length - (x.1 + 1) < l.length - x.1 by omega)⟩)
      · try simp only [List.length_map] at h2
        refine awp_exit ?_
        refine awp_seq ?_
        refine awp_region ?_
        refine r_mv rfl trivial rfl ?_
        refine r_b2s sl_33 u8_5 us_9 rfl rfl rfl rfl trivial rfl ?_
        refine r_as rfl trivial rfl ?_
        refine r_as rfl trivial rfl ?_
        refine r_as rfl trivial rfl ?_
        refine reg_nil ?_
        refine awp_ret ?_
        refine fin0 (.cons (.tmp rfl) (.cons (.tmp rfl) (.cons (.tmp rfl) .nil))) (.tup (.cons (by first | exact .fv | exact .frz rfl rfl trivial | exact .nil | exact .aggf' rfl | exact .aggf) (.cons (by first | exact .fv | exact .frz rfl rfl trivial | exact .nil | exact .aggf' rfl | exact .aggf) (.cons (by first | exact .fv | exact .frz rfl rfl trivial | exact .nil | exact .aggf' rfl | exact .aggf) .nil)))) ?_
        (have hs : showR l = (x.2, 0, 0) := (by rw [showR, if_neg (by omega), ← hx3, showGo_end (by omega)])
         simp [hs])
end Go.Uw.D
