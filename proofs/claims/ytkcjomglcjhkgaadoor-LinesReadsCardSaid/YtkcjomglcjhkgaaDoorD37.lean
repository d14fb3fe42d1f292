/- A helper text of this claim: lemmas of an abstract machine over the model, or walks in it. Own work of an AI agent. -/
import Derived.Test.YtkcjomglcjhkgaaDoorD35
import Derived.Test.YtkcjomglcjhkgaaDoorUwZ
import Derived.Test.YtkcjomglcjhkgaaDoorCards
import Derived.Test.YtkcjomglcjhkgaaDoorTie
import Derived.Deep.DeepHandedRow
import Derived.Deep.DeepWitnessRowRef
import Derived.LaidMore
import Derived.Lay
import Derived.Shelf.Vars
set_option linter.unusedVariables false
set_option linter.unusedSimpArgs false
namespace Go.Uw.D
open Go Go.Uw Go.Proofs Go.Proofs.YtkcjomglcjhkgaaDoor Go.ChangeShapes Go.WideShapes Go.ChangeAt Go.RowKit
set_option maxRecDepth 100000

theorem shs_4 : shsB Tryd.prog 4 [9] = some [.str] := by kernel_rfl

theorem reads_fun (fs : List (List FV)) (h : WTA [.str] fs) : Fun Tryd.prog 4 (argsA [.str] fs) [] [] (bA true) [] := by
  simp only [WTA, WT] at h
  obtain ⟨_, _, rfl, ⟨l, _, rfl⟩, rfl⟩ := h
  exact linesReads_ok l

theorem owns : ownKnob Tryd.prog.godebug = none := by kernel_rfl
theorem laidOut : laidOutB Tryd.prog = true := by kernel_rfl
theorem gn_words : Tryd.prog.globalNamed "usher/lines.words" = some 0 := by kernel_rfl
theorem gn_syn : Tryd.prog.globalNamed "strconv.ErrSyntax" = some 2 := by kernel_rfl
theorem gn_rng : Tryd.prog.globalNamed "strconv.ErrRange" = some 3 := by kernel_rfl
theorem gt_words : (Tryd.prog.globals[0]?).map (·.type) = some 57 := by kernel_rfl
theorem gt_pow : (Tryd.prog.globals[4]?).map (·.type) = some 104 := by kernel_rfl
theorem gt_syn : (Tryd.prog.globals[2]?).map (·.type) = some 40 := by kernel_rfl
theorem gt_rng : (Tryd.prog.globals[3]?).map (·.type) = some 40 := by kernel_rfl
theorem sh_words : shOf Tryd.prog 3 57 = some (.st (List.replicate 8 .str)) := by kernel_rfl
theorem sh_pow : shOf Tryd.prog 3 104 = some (.st (List.replicate 20 (.int .u64))) := by kernel_rfl
theorem v_words : valsOf (H := Unit) Rows.laid_usher_lines_words = some [strV [], strV [111, 112, 101, 110], strV [100, 97, 116, 97], strV [99, 108, 111, 115, 101], strV [97, 110, 115, 119, 101, 114], strV [106, 111, 105, 110], strV [114, 101, 116, 105, 114, 101], strV [116, 105, 99, 107]] := by rfl
theorem v_pow : valsOf (H := Unit) Rows.laid_internal_strconv_uint64pow10 = some (Lib.pow10Tab.map fun z => Value.int .u64 z) := by rfl

theorem maxLen_cell (w : World) (h : w.ShapedOpen Tryd.prog) : ∃ m, w.cell? ⟨1, 0, none⟩ = some (.int .i64 m) :=
  Go.Proofs.cell_of_shapedOpen_int (zero := #[.int .i64 0]) (t := 3) h (of_decide_eq_true (by kernel_rfl)) (by kernel_rfl) rfl (by kernel_rfl) (by kernel_rfl) Tryd.underlying3

theorem gok_reads {w : World} (h : laidMetH Tryd.prog Rows.linesReadsRow.laid w) (hs : w.ShapedOpen Tryd.prog) : GOK w (fun _ => False) :=
  gok_of_laid (by rfl) h (fun p hp => by
    simp only [Gl, List.mem_cons, List.not_mem_nil, or_false] at hp
    rcases hp with rfl | rfl
    · exact ⟨_, _, _, _, by simp only [Rows.linesReadsRow]; exact .tail _ (.tail _ (.tail _ (.tail _ (.tail _ (.tail _ (.head _)))))), gn_words, gt_words, sh_words, v_words⟩
    · exact ⟨_, _, _, _, by simp only [Rows.linesReadsRow]; exact .tail _ (.tail _ (.head _)), gn_pow, gt_pow, sh_pow, v_pow⟩) (fun g hg => by
    simp only [GlE, List.mem_cons, List.not_mem_nil, or_false] at hg
    rcases hg with rfl | rfl
    · exact ⟨_, _, _, _, _, by simp only [Rows.linesReadsRow]; exact .tail _ (.tail _ (.tail _ (.tail _ (.tail _ (.head _))))), gn_syn, gt_syn, Tryd.underlying40, rfl⟩
    · exact ⟨_, _, _, _, _, by simp only [Rows.linesReadsRow]; exact .tail _ (.tail _ (.tail _ (.tail _ (.head _)))), gn_rng, gt_rng, Tryd.underlying40, rfl⟩) (fun g hg => by
    simp only [GlI, List.mem_cons, List.not_mem_nil, or_false] at hg
    subst hg
    exact maxLen_cell w hs)

/-- a world for the witness: where the listed variables are laid -/
noncomputable abbrev doorW (os : Os) : World := World.laidAll Tryd.prog os Rows.linesReadsRow.laid
theorem laidB_reads (os : Os) : laidMetH Tryd.prog Rows.linesReadsRow.laid ((doorW os).forCall (fun _ _ => 0) ⟨#[], #[.string ⟨#[]⟩], []⟩).memory := by
  rw [MakeChecks.laidMetH_plain _ _ _ (by rfl)]
  exact laidMet_laidAll _ (by kernel_rfl) (by kernel_rfl)
theorem reads_reads (os : Os) {H : Type} (enc : TypeId × Value → H) : ∃ places, DataW.whole enc Tryd.prog ((doorW os).forCall (fun _ _ => 0) ⟨#[], #[.string ⟨#[]⟩], []⟩).memory Tryd.f4.params.toList Rows.linesReadsSpec.vars false #[Value.string ⟨#[]⟩].toList 8 = some ([.lit (.string [])], [], places) :=
  ⟨[], by kernel_rfl⟩

theorem lifted_reads (os : Os) (started : os.Started) (H : Type) (enc : TypeId × Value → H) (F : Stop.Interp) :
    ReturnsInHanded {} Tryd.checked os 4 .any ((OpenSpec.ofChange Rows.linesReadsSpec).preRow enc Tryd.prog Tryd.f4 Rows.linesReadsRow.domain false Rows.linesReadsRow.laid) (((OpenSpec.ofChange Rows.linesReadsSpec).at F).post enc Tryd.prog Tryd.f4 false true false false) := by
  obtain ⟨places, hx⟩ := reads_reads os enc
  refine returnsInHanded_of_row (C := Tryd.checked) (s := OpenSpec.ofChange Rows.linesReadsSpec) owns started (by kernel_rfl) Tryd.func4
    (witness_row_atRef (enc := enc) (C := Tryd.checked) false (doorW os) #[.string ⟨#[]⟩] (World.laidAll_os _ _ _) (by kernel_rfl) (by kernel_rfl) (by kernel_rfl)
      (OpenSpec.preRow_of_cond 8 hx (by kernel_rfl) (fun k hk => by cases hk) (by kernel_rfl) (laidB_reads os))) ?_
  intro W base args ds gs before hval hW _ _ hsz hL hS _
  exact law_contract (n := 4) (bt := 4) (ts := [9]) rfl rfl Tryd.underlying4 rfl (fun ds hd => by
      match ds, hd with
      | [d], _ => rfl) shs_4 laidOut (fun t ht => by
      obtain rfl := List.mem_singleton.1 ht
      exact ⟨by kernel_rfl, of_decide_eq_true (by kernel_rfl)⟩) reads_fun hval hW hsz (gok_reads hL hS)

theorem reads_said : Rows.LinesReadsSaid :=
  OpenClaim.holds_of_cond 4 Tryd.f4 rfl rfl rfl rfl rfl rfl rfl ⟨rfl, rfl, rfl, rfl, rfl⟩ rfl rfl rfl rfl rfl (by kernel_rfl) Tryd.func4 (by kernel_rfl)
    (of_decide_eq_true (by kernel_rfl)) (by unfold Func.isWrapper; first | (rw [if_pos (by decide +kernel)]; kernel_rfl) | (rw [if_neg (by decide +kernel)]; exact ⟨rfl, rfl⟩))
    (fun os started H enc _ F => by rw [OpenClaim.pre_eq_preRow]; exact lifted_reads os started H enc F)

theorem plain_reads (f : FuncId) (fn : Func) (hf : Tryd.pinned.checked.prog.funcNamed "usher/usherlaw.LinesReads" = some f) (hfn : Tryd.pinned.checked.prog.funcs[f]? = some fn) :
    true = Tryd.pinned.checked.prog.looks [] ∧ ∀ (j : Nat) t, fn.params[j]? = some t → Tryd.pinned.checked.prog.wantsStandIn t = false := by
  obtain rfl : f = 4 := Option.some.inj ((show Tryd.prog.funcNamed "usher/usherlaw.LinesReads" = some 4 by kernel_rfl).symm.trans hf) |>.symm
  obtain rfl : fn = Tryd.f4 := (Option.some.inj (Tryd.func4.symm.trans hfn)).symm
  refine ⟨by kernel_rfl, fun j t ht => ?_⟩
  rw [Tryd.params4] at ht
  obtain rfl : t = 9 := by simpa using Array.mem_of_getElem? ht
  exact (show Tryd.prog.wantsStandIn 9 = false by kernel_rfl)

theorem reads_card : Rows.LinesReadsCardSaid :=
  Claim7.holds_tied_plain_at .later [] _ _ _ _ reads_said (fun _ h => by cases h) (by kernel_rfl) (fun _ h => by cases h) linesReads_row_tie rfl ⟨rfl, rfl⟩ (by kernel_rfl) rfl plain_reads (by kernel_rfl)
#print axioms reads_card
end Go.Uw.D
