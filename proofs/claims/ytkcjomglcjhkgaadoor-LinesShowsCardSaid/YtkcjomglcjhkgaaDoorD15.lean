/- A helper text of this claim: lemmas of an abstract machine over the model, or walks in it. Own work of an AI agent. -/
import Derived.Test.YtkcjomglcjhkgaaDoorD14
import Derived.Test.YtkcjomglcjhkgaaDoorUwY
set_option linter.unusedVariables false
set_option linter.unusedSimpArgs false
namespace Go.Uw.D
set_option linter.unusedSimpArgs false
open Go Go.Uw Go.Proofs

set_option maxRecDepth 100000 in
theorem bstr0 : Fun Tryd.prog 14 [.ptr 0 0 0 0] [(0, some (.cells 35 [lit (.pointer none), lit (.slice none 0 0)]))] [] (sA []) [] := by
  refine fun_of_awp (rl := [.tmp 2]) Tryd.func14 rfl Tryd.results14 Tryd.ntmps14 1 rfl (by simp) ?_
  intro w0 own0 ρ0 F hz
  refine awp_seq ?_
  refine awp_region ?_
  refine r_as rfl trivial rfl ?_
  refine reg_nil ?_
  refine awp_seq ?_
  refine awp_draw mix rfl ?_
  refine r_mv rfl trivial rfl ?_
  first | refine r_nilck rfl trivial rfl ?_ | refine r_nilckr rfl trivial rfl ?_ | refine r_nilckf rfl trivial rfl ?_
  first | refine r_fld fld_35_1 rfl trivial rfl ?_ | refine r_fldr fld_35_1 rfl trivial rfl ?_
  first | refine r_ld ty_33 rfl rfl rfl trivial rfl ?_ | refine r_ldr ty_33 rfl rfl trivial rfl ?_ | refine r_ldo ty_33 rfl rfl (by assumption) rfl trivial rfl ?_
  refine r_sdata0 rfl trivial rfl ?_
  refine r_mv rfl trivial rfl ?_
  first | refine r_nilck rfl trivial rfl ?_ | refine r_nilckr rfl trivial rfl ?_ | refine r_nilckf rfl trivial rfl ?_
  first | refine r_fld fld_35_1 rfl trivial rfl ?_ | refine r_fldr fld_35_1 rfl trivial rfl ?_
  first | refine r_ld ty_33 rfl rfl rfl trivial rfl ?_ | refine r_ldr ty_33 rfl rfl trivial rfl ?_ | refine r_ldo ty_33 rfl rfl (by assumption) rfl trivial rfl ?_
  first | refine r_lenr sl_33 rfl trivial rfl ?_ | refine r_lenw sl_33 rfl trivial rfl ?_ | refine r_len0 sl_33 rfl trivial rfl ?_
  refine r_ustr0 rfl rfl trivial rfl ?_
  refine r_as rfl trivial rfl ?_
  refine reg_nil ⟨rfl, ?_⟩
  refine awp_ret ?_
  exact finG (nid := []) [] 1 (.cons (.tmp rfl) .nil) rfl rfl rfl (.ren rfl) (.cons rfl (.ren rfl) .nil)
set_option maxRecDepth 100000 in
theorem show_nil : Fun Tryd.prog 6 [.fv (.ro 8 [])] [] [] (.tup [sA [], iA 0, iA 0]) [] := by
  refine fun_of_awp (rl := [.tmp 2, .tmp 3, .tmp 4]) Tryd.func6 rfl Tryd.results6 Tryd.ntmps6 0 rfl (by simp) ?_
  intro w0 own0 ρ0 F hz
  refine awp_seq ?_
  refine awp_region ?_
  refine r_as rfl trivial rfl ?_
  refine r_as rfl trivial rfl ?_
  refine r_as rfl trivial rfl ?_
  refine reg_nil ?_
  refine awp_seq ?_
  refine awp_seq ?_
  refine awp_region ?_
  refine r_mv rfl trivial rfl ?_
  first | refine r_lenr sl_22 rfl trivial rfl ?_ | refine r_lenw sl_22 rfl trivial rfl ?_ | refine r_len0 sl_22 rfl trivial rfl ?_
  refine r_gtr rfl rfl trivial rfl ?_
  refine reg_nil ?_
  refine awp_cond_f rfl ?_
  refine awp_skip ?_
  refine awp_seq ?_
  refine awp_region ?_
  refine r_alloc z_35 rfl trivial rfl ?_
  refine reg_nil ?_
  refine awp_seq ?_
  refine awp_seq ?_
  refine awp_region ?_
  refine r_mv rfl trivial rfl ?_
  first | refine r_lenr sl_22 rfl trivial rfl ?_ | refine r_lenw sl_22 rfl trivial rfl ?_ | refine r_len0 sl_22 rfl trivial rfl ?_
  refine r_mv rfl trivial rfl ?_
  refine reg_nil ?_
  refine awp_block ?_
  refine awp_unroll 1 ?_
  refine unr_succ ?_
  refine awp_seq ?_
  refine awp_region ?_
  refine r_lss rfl rfl trivial rfl ?_
  refine reg_nil ?_
  refine awp_seq ?_
  refine awp_cond_f rfl ?_
  refine awp_exit ?_
  refine awp_seq ?_
  refine awp_region ?_
  refine r_callh [(0, 0)] 1 1 (bstr0) cb_14 rfl rfl rfl ?_ (.cons rfl .nil) rfl rfl rfl rfl trivial rfl ?_
  · (repeat (first | exact .nil | refine .cons .fv ?_ | refine .cons (.aggf' rfl) ?_ | refine .cons .nil ?_ | refine .cons (.ren rfl) ?_))
  refine r_as rfl trivial rfl ?_
  refine r_as rfl trivial rfl ?_
  refine r_as rfl trivial rfl ?_
  refine reg_nil ?_
  refine awp_ret ?_
  refine fin0 (.cons (.tmp rfl) (.cons (.tmp rfl) (.cons (.tmp rfl) .nil))) (.tup (.cons (by first | exact .fv | exact .frz rfl rfl trivial | exact .nil | exact .aggf' rfl | exact .aggf) (.cons (by first | exact .fv | exact .frz rfl rfl trivial | exact .nil | exact .aggf' rfl | exact .aggf) (.cons (by first | exact .fv | exact .frz rfl rfl trivial | exact .nil | exact .aggf' rfl | exact .aggf) .nil)))) ?_
  simp
set_option maxRecDepth 100000 in
theorem show_cons (l : List Ev) (hne : 0 < l.length) : Fun Tryd.prog 6 [.fv (.ro 8 (l.map encEv))] [] [] (.tup [sA (showR l).1, iA (showR l).2.1, iA (showR l).2.2]) [] := by
  refine fun_of_awp (rl := [.tmp 2, .tmp 3, .tmp 4]) Tryd.func6 rfl Tryd.results6 Tryd.ntmps6 0 rfl (by simp) ?_
  intro w0 own0 ρ0 F hz
  refine awp_seq ?_
  refine awp_region ?_
  refine r_as rfl trivial rfl ?_
  refine r_as rfl trivial rfl ?_
  refine r_as rfl trivial rfl ?_
  refine reg_nil ?_
  refine awp_seq ?_
  refine awp_seq ?_
  refine awp_region ?_
  refine r_mv rfl trivial rfl ?_
  first | refine r_lenr sl_22 rfl trivial rfl ?_ | refine r_lenw sl_22 rfl trivial rfl ?_ | refine r_len0 sl_22 rfl trivial rfl ?_
  refine r_gtr rfl rfl trivial rfl ?_
  refine reg_nil ?_
  first | refine awp_cond_dec rfl (fun h1 => ?_) (fun h1 => ?_) | refine awp_cond rfl (fun h1 => ?_) (fun h1 => ?_)
  · try simp only [List.length_map] at h1
    refine awp_seq ?_
    refine awp_region ?_
    refine r_as rfl trivial rfl ?_
    refine r_as rfl trivial rfl ?_
    refine r_as rfl trivial rfl ?_
    refine reg_nil ?_
    refine awp_ret ?_
    refine fin0 (.cons (.tmp rfl) (.cons (.tmp rfl) (.cons (.tmp rfl) .nil))) (.tup (.cons (by first | exact .fv | exact .frz rfl rfl trivial | exact .nil | exact .aggf' rfl | exact .aggf) (.cons (by first | exact .fv | exact .frz rfl rfl trivial | exact .nil | exact .aggf' rfl | exact .aggf) (.cons (by first | exact .fv | exact .frz rfl rfl trivial | exact .nil | exact .aggf' rfl | exact .aggf) .nil)))) ?_
    (have hs : showR l = ([], 0, 1) := (by rw [showR, if_pos (by omega)])
     simp [hs])
  · try simp only [List.length_map] at h1
    refine awp_skip ?_
    refine awp_seq ?_
    refine awp_region ?_
    refine r_alloc z_35 rfl trivial rfl ?_
    refine reg_nil ?_
    refine awp_seq ?_
    refine awp_seq ?_
    refine awp_region ?_
    refine r_mv rfl trivial rfl ?_
    first | refine r_lenr sl_22 rfl trivial rfl ?_ | refine r_lenw sl_22 rfl trivial rfl ?_ | refine r_len0 sl_22 rfl trivial rfl ?_
    refine r_mv rfl trivial rfl ?_
    refine reg_nil ?_
    refine awp_block ?_
    refine awp_loop1 (X := Nat × List UInt8) (fun x => x.1 ≤ l.length ∧ 0 < x.1 ∧ x.2 ≠ [] ∧ x.2.length ≤ 100 * x.1 ∧ showGo (l.drop x.1) x.1 x.2 = showGo l 0 []) (fun x => ⟨[(12, .fv (.ro 8 (l.map encEv))), (13, iA (l.map encEv).length), (14, iA x.1), (5, .ptr 0 0 0 0)], [(0, some (.cells 35 [.ptr 0 0 0 0, .rw 1 1 0 x.2.length])), (1, some (.rows 5 1 (bytesF x.2)))], 2⟩) (fun x => l.length - x.1) (l.length + 1) (fun x _ => Nat.lt_succ_of_le (Nat.sub_le _ _)) ?_ ?_
    · refine awp_seq ?_
      refine awp_region ?_
      refine r_lss rfl rfl trivial rfl ?_
      refine reg_nil ?_
      refine awp_seq ?_
      refine awp_cond_yes rfl (by simp only [List.length_map]; omega) ?_
      refine awp_skip ?_
      refine awp_seq ?_
      refine awp_block ?_
      refine awp_seq ?_
      refine awp_region ?_
      refine r_mv rfl trivial rfl ?_
      first | refine r_ixr sl_22 ty_37 rfl rfl (by omega) (map_get (by omega)) trivial rfl ?_ | refine r_ixw sl_22 ty_37 rfl rfl (by omega) (by omega) trivial rfl ?_
      first | refine r_lda ty_37 rfl rfl rfl rfl trivial rfl ?_ | refine r_ldra ty_37 rfl rfl rfl trivial rfl ?_ | refine r_ldoa ty_37 rfl rfl (by assumption) rfl rfl trivial rfl ?_
      refine r_alloc z_37 rfl trivial rfl ?_
      refine r_as rfl trivial rfl ?_
      first | refine r_st ty_37 rfl rfl rfl rfl rfl rfl rfl trivial ?_ | refine r_sto ty_37 rfl rfl rfl rfl (by assumption) rfl rfl rfl trivial ?_
      refine reg_nil ?_
      refine awp_seq ?_
      refine awp_seq ?_
      refine awp_region ?_
      first | refine r_lda ty_37 rfl rfl rfl rfl trivial rfl ?_ | refine r_ldra ty_37 rfl rfl rfl trivial rfl ?_ | refine r_ldoa ty_37 rfl rfl (by assumption) rfl rfl trivial rfl ?_
      refine r_call (check_ok (l[0]'hne)) cb_11 rfl rfl rfl ?_ trivial rfl ?_
      · (repeat (first | exact .nil | refine .cons .fv ?_ | refine .cons (.aggf' rfl) ?_ | refine .cons .nil ?_ | refine .cons (.ren rfl) ?_))
      refine r_as rfl trivial rfl ?_
      refine reg_nil ?_
      refine awp_seq ?_
      refine awp_region ?_
      refine r_mv rfl trivial rfl ?_
      refine r_nei rfl rfl trivial rfl ?_
      refine reg_nil ?_
      first | refine awp_cond_dec rfl (fun h2 => ?_) (fun h2 => ?_) | refine awp_cond rfl (fun h2 => ?_) (fun h2 => ?_)
      · try simp only [List.length_map] at h2
        refine awp_seq ?_
        refine awp_region ?_
        refine r_mv rfl trivial rfl ?_
        refine r_mv rfl trivial rfl ?_
        refine r_as rfl trivial rfl ?_
        refine r_as rfl trivial rfl ?_
        refine r_as rfl trivial rfl ?_
        refine reg_nil ?_
        refine awp_ret ?_
        refine fin0 (.cons (.tmp rfl) (.cons (.tmp rfl) (.cons (.tmp rfl) .nil))) (.tup (.cons (by first | exact .fv | exact .frz rfl rfl trivial | exact .nil | exact .aggf' rfl | exact .aggf) (.cons (by first | exact .fv | exact .frz rfl rfl trivial | exact .nil | exact .aggf' rfl | exact .aggf) (.cons (by first | exact .fv | exact .frz rfl rfl trivial | exact .nil | exact .aggf' rfl | exact .aggf) .nil)))) ?_
        (have hg := showGo_step hne []
         have hs : showR l = ([], (0 : Int), checkEv l[0]) := (by rw [showR, if_neg (by omega)]; rw [if_pos h2] at hg; simpa using hg)
         simp [hs])
      · try simp only [List.length_map] at h2
        refine awp_skip ?_
        refine awp_region ?_
        first | refine r_lda ty_37 rfl rfl rfl rfl trivial rfl ?_ | refine r_ldra ty_37 rfl rfl rfl trivial rfl ?_ | refine r_ldoa ty_37 rfl rfl (by assumption) rfl rfl trivial rfl ?_
        refine r_call (pline_ok (l[0]'hne) (by simpa using h2)) cb_13 rfl rfl rfl ?_ trivial rfl ?_
        · (repeat (first | exact .nil | refine .cons .fv ?_ | refine .cons (.aggf' rfl) ?_ | refine .cons .nil ?_ | refine .cons (.ren rfl) ?_))
        refine r_callh [(0, 0), (1, 2)] 3 2 (ws_fresh (lineL (l[0]'hne) ++ [10]) (by have hll := line_len (l[0]'(by omega)) (by simpa using h2); simp; omega)) cb_12 rfl rfl rfl ?_ (.cons rfl .nil) rfl rfl rfl rfl trivial rfl ?_
        · (repeat (first | exact .nil | refine .cons .fv ?_ | refine .cons (.aggf' rfl) ?_ | refine .cons .nil ?_ | refine .cons (.ren rfl) ?_))
        refine reg_nil ?_
        refine awp_region ?_
        refine r_add rfl rfl (rng64 (by omega)) trivial rfl ?_
        refine r_mv rfl trivial rfl ?_
        refine reg_nil ?_
        (have hi : 0 < l.length := (by omega)
         have hok : checkEv l[0] = 0 := (by simpa using h2)
         have hll := line_len _ hok
         have hg := showGo_step hi []
         exact ⟨(1, lineL l[0] ++ [10]), ⟨by simp only; omega, by simp, by simp, by simp only [List.length_append, List.length_cons, List.length_nil]; omega, by simp only; rw [if_neg (by simpa using hok)] at hg; simpa using hg.symm⟩,
             le_mk [(0, 0), (1, 2)] rfl hz (Nat.zero_le _) ⟨⟨_, rfl, .fv⟩, ⟨_, rfl, .fv⟩, ⟨_, rfl, .fv⟩, ⟨_, rfl, .ren rfl⟩, trivial⟩ ⟨⟨_, rfl, .ren rfl⟩, ⟨_, rfl, .ren rfl⟩, trivial⟩⟩)
    · intro x hx
      obtain ⟨hx1, hx2, hx3, hx4, hx5⟩ := hx
      refine awp_seq ?_
      refine awp_region ?_
      refine r_lss rfl rfl trivial rfl ?_
      refine reg_nil ?_
      refine awp_seq ?_
      first | refine awp_cond_dec rfl (fun h3 => ?_) (fun h3 => ?_) | refine awp_cond rfl (fun h3 => ?_) (fun h3 => ?_)
      · try simp only [List.length_map] at h3
        refine awp_skip ?_
        refine awp_seq ?_
        refine awp_block ?_
        refine awp_seq ?_
        refine awp_region ?_
        refine r_mv rfl trivial rfl ?_
        first | refine r_ixr sl_22 ty_37 rfl rfl (by omega) (map_get (by omega)) trivial rfl ?_ | refine r_ixw sl_22 ty_37 rfl rfl (by omega) (by omega) trivial rfl ?_
        first | refine r_lda ty_37 rfl rfl rfl rfl trivial rfl ?_ | refine r_ldra ty_37 rfl rfl rfl trivial rfl ?_ | refine r_ldoa ty_37 rfl rfl (by assumption) rfl rfl trivial rfl ?_
        refine r_alloc z_37 rfl trivial rfl ?_
        refine r_as rfl trivial rfl ?_
        first | refine r_st ty_37 rfl rfl rfl rfl rfl rfl rfl trivial ?_ | refine r_sto ty_37 rfl rfl rfl rfl (by assumption) rfl rfl rfl trivial ?_
        refine reg_nil ?_
        refine awp_seq ?_
        refine awp_seq ?_
        refine awp_region ?_
        first | refine r_lda ty_37 rfl rfl rfl rfl trivial rfl ?_ | refine r_ldra ty_37 rfl rfl rfl trivial rfl ?_ | refine r_ldoa ty_37 rfl rfl (by assumption) rfl rfl trivial rfl ?_
        refine r_call (check_ok (l[x.1]'(by omega))) cb_11 rfl rfl rfl ?_ trivial rfl ?_
        · (repeat (first | exact .nil | refine .cons .fv ?_ | refine .cons (.aggf' rfl) ?_ | refine .cons .nil ?_ | refine .cons (.ren rfl) ?_))
        refine r_as rfl trivial rfl ?_
        refine reg_nil ?_
        refine awp_seq ?_
        refine awp_region ?_
        refine r_mv rfl trivial rfl ?_
        refine r_nei rfl rfl trivial rfl ?_
        refine reg_nil ?_
        first | refine awp_cond_dec rfl (fun h4 => ?_) (fun h4 => ?_) | refine awp_cond rfl (fun h4 => ?_) (fun h4 => ?_)
        · try simp only [List.length_map] at h4
          refine awp_seq ?_
          refine awp_region ?_
          refine r_mv rfl trivial rfl ?_
          refine r_mv rfl trivial rfl ?_
          refine r_as rfl trivial rfl ?_
          refine r_as rfl trivial rfl ?_
          refine r_as rfl trivial rfl ?_
          refine reg_nil ?_
          refine awp_ret ?_
          refine fin0 (.cons (.tmp rfl) (.cons (.tmp rfl) (.cons (.tmp rfl) .nil))) (.tup (.cons (by first | exact .fv | exact .frz rfl rfl trivial | exact .nil | exact .aggf' rfl | exact .aggf) (.cons (by first | exact .fv | exact .frz rfl rfl trivial | exact .nil | exact .aggf' rfl | exact .aggf) (.cons (by first | exact .fv | exact .frz rfl rfl trivial | exact .nil | exact .aggf' rfl | exact .aggf) .nil)))) ?_
          (have hi : x.1 < l.length := (by omega)
           have hs : showR l = ([], (x.1 : Int), checkEv l[x.1]) := (by rw [showR, if_neg (by omega), ← hx5, showGo_step hi, if_pos h4])
           simp [hs])
        · try simp only [List.length_map] at h4
          refine awp_skip ?_
          refine awp_region ?_
          first | refine r_lda ty_37 rfl rfl rfl rfl trivial rfl ?_ | refine r_ldra ty_37 rfl rfl rfl trivial rfl ?_ | refine r_ldoa ty_37 rfl rfl (by assumption) rfl rfl trivial rfl ?_
          refine r_call (pline_ok (l[x.1]'(by omega)) (by simpa using h4)) cb_13 rfl rfl rfl ?_ trivial rfl ?_
          · (repeat (first | exact .nil | refine .cons .fv ?_ | refine .cons (.aggf' rfl) ?_ | refine .cons .nil ?_ | refine .cons (.ren rfl) ?_))
          refine r_callh [(0, 0), (1, 1), (2, 3)] 4 3 (ws_used x.2 (lineL (l[x.1]'(by omega)) ++ [10]) (by have hll := line_len (l[x.1]'(by omega)) (by simpa using h4); simp; omega)) cb_12 rfl rfl rfl ?_ (.cons rfl (.cons rfl .nil)) rfl rfl rfl rfl trivial rfl ?_
          · (repeat (first | exact .nil | refine .cons .fv ?_ | refine .cons (.aggf' rfl) ?_ | refine .cons .nil ?_ | refine .cons (.ren rfl) ?_))
          refine reg_nil ?_
          refine awp_region ?_
          refine r_add rfl rfl (rng64 (by omega)) trivial rfl ?_
          refine r_mv rfl trivial rfl ?_
          refine reg_nil ?_
          (have hi : x.1 < l.length := (by omega)
           have hok : checkEv l[x.1] = 0 := (by simpa using h4)
           have hll := line_len _ hok
           exact ⟨(x.1 + 1, x.2 ++ (lineL l[x.1] ++ [10])), ⟨by simp only; omega, by simp, by simp, by simp only [List.length_append, List.length_cons, List.length_nil]; omega, by simp only; rw [← hx5, showGo_step hi, if_neg (by simpa using hok), List.append_assoc]⟩,
               le_mk [(0, 0), (1, 3)] rfl hz (Nat.zero_le _) ⟨⟨_, rfl, .fv⟩, ⟨_, rfl, .fv⟩, ⟨_, rfl, .fv⟩, ⟨_, rfl, .ren rfl⟩, trivial⟩ ⟨⟨_, rfl, .ren rfl⟩, ⟨_, rfl, .ren rfl⟩, trivial⟩, (show l.length - (x.1 + 1) < l.length - x.1 by omega)⟩)
      · try simp only [List.length_map] at h3
        refine awp_exit ?_
        refine awp_seq ?_
        refine awp_region ?_
        refine r_callh [(0, 0), (1, 1)] 2 2 (bstr x.2 hx3) cb_14 rfl rfl rfl ?_ (.cons rfl (.cons rfl .nil)) rfl rfl rfl rfl trivial rfl ?_
        · (repeat (first | exact .nil | refine .cons .fv ?_ | refine .cons (.aggf' rfl) ?_ | refine .cons .nil ?_ | refine .cons (.ren rfl) ?_))
        refine r_as rfl trivial rfl ?_
        refine r_as rfl trivial rfl ?_
        refine r_as rfl trivial rfl ?_
        refine reg_nil ?_
        refine awp_ret ?_
        refine fin0 (.cons (.tmp rfl) (.cons (.tmp rfl) (.cons (.tmp rfl) .nil))) (.tup (.cons (by first | exact .fv | exact .frz rfl rfl trivial | exact .nil | exact .aggf' rfl | exact .aggf) (.cons (by first | exact .fv | exact .frz rfl rfl trivial | exact .nil | exact .aggf' rfl | exact .aggf) (.cons (by first | exact .fv | exact .frz rfl rfl trivial | exact .nil | exact .aggf' rfl | exact .aggf) .nil)))) ?_
        (have hs : showR l = (x.2, 0, 0) := (by rw [showR, if_neg (by omega), ← hx5, showGo_end (by omega)])
         simp [hs])
end Go.Uw.D
