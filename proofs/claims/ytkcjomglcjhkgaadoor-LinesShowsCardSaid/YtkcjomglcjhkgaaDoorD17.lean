/- A helper text of this claim: lemmas of an abstract machine over the model, or walks in it. Own work of an AI agent. -/
import Derived.Test.YtkcjomglcjhkgaaDoorD16
import Derived.Test.YtkcjomglcjhkgaaDoorUwZ
import Derived.Test.YtkcjomglcjhkgaaDoorCards
import Derived.Test.YtkcjomglcjhkgaaDoorTie
import Derived.Deep.DeepHandedRow
import Derived.Deep.DeepWitnessRowRef
import Derived.LaidMore
set_option linter.unusedVariables false
set_option linter.unusedSimpArgs false
namespace Go.Uw.D
open Go Go.Uw Go.Proofs Go.Proofs.YtkcjomglcjhkgaaDoor Go.ChangeShapes Go.WideShapes Go.ChangeAt Go.RowKit
set_option maxRecDepth 100000

def shEv : Sh := .st [.int .i64, .int .i64, .int .i64, .int .i64, .bool, .int .i64, .int .i64, .int .i64]
theorem shs_3 : shsB Tryd.prog 4 [22] = some [.sl 8 64 shEv] := by kernel_rfl
theorem wt_ev {r : List FV} (h : WT shEv r) : ∃ e : Ev, r = encEv e := by
  simp only [shEv, WT, WTs] at h
  obtain ⟨_, _, rfl, ⟨a0, _, rfl⟩, _, _, rfl, ⟨a1, _, rfl⟩, _, _, rfl, ⟨a2, _, rfl⟩, _, _, rfl, ⟨a3, _, rfl⟩, _, _, rfl, ⟨a4, rfl⟩, _, _, rfl, ⟨a5, _, rfl⟩, _, _, rfl, ⟨a6, _, rfl⟩, _, _, rfl, ⟨a7, _, rfl⟩, rfl⟩ := h
  exact ⟨⟨a0, a1, a2, a3, a4, a5, a6, a7⟩, rfl⟩
theorem rows_map {α : Type} {g : α → List FV} : ∀ {rows : List (List FV)}, (∀ r ∈ rows, ∃ e, r = g e) → ∃ l : List α, rows = l.map g
  | [], _ => ⟨[], rfl⟩
  | r :: rows, h => by
    obtain ⟨e, rfl⟩ := h r (by simp)
    obtain ⟨l, rfl⟩ := rows_map (rows := rows) fun r hr => h r (by simp [hr])
    exact ⟨e :: l, rfl⟩

theorem shows_fun (fs : List (List FV)) (h : WTA [.sl 8 64 shEv] fs) : Fun Tryd.prog 3 (argsA [.sl 8 64 shEv] fs) [] [] (bA true) [] := by
  simp only [WTA, WT] at h
  obtain ⟨_, _, rfl, ⟨rows, rfl, hl, hr⟩, rfl⟩ := h
  obtain ⟨l, rfl⟩ := rows_map fun r hr' => wt_ev (hr r hr')
  exact linesShows_ok l (by simpa [reachBytes] using Nat.le_trans hl (by decide))

theorem owns : ownKnob Tryd.prog.godebug = none := by kernel_rfl
theorem laidOut : laidOutB Tryd.prog = true := by kernel_rfl
theorem gn_words : Tryd.prog.globalNamed "usher/lines.words" = some 0 := by kernel_rfl
theorem gt_words : (Tryd.prog.globals[0]?).map (·.type) = some 57 := by kernel_rfl
theorem gt_pow : (Tryd.prog.globals[4]?).map (·.type) = some 104 := by kernel_rfl
theorem sh_words : shOf Tryd.prog 3 57 = some (.st (List.replicate 8 .str)) := by kernel_rfl
theorem sh_pow : shOf Tryd.prog 3 104 = some (.st (List.replicate 20 (.int .u64))) := by kernel_rfl
theorem v_words : valsOf (H := Unit) Rows.laid_usher_lines_words = some [strV [], strV [111, 112, 101, 110], strV [100, 97, 116, 97], strV [99, 108, 111, 115, 101], strV [97, 110, 115, 119, 101, 114], strV [106, 111, 105, 110], strV [114, 101, 116, 105, 114, 101], strV [116, 105, 99, 107]] := by rfl
theorem v_pow : valsOf (H := Unit) Rows.laid_internal_strconv_uint64pow10 = some (Lib.pow10Tab.map fun z => Value.int .u64 z) := by rfl

theorem gok_shows {w : World} (h : laidMetH Tryd.prog Rows.linesShowsRow.laid w) : GOK w (fun _ => False) :=
  gok_of_laid (by rfl) h fun p hp => by
    simp only [Gl, List.mem_cons, List.not_mem_nil, or_false] at hp
    rcases hp with rfl | rfl
    · exact ⟨_, _, _, _, by simp [Rows.linesShowsRow]; right; right; right; rfl, gn_words, gt_words, sh_words, v_words⟩
    · exact ⟨_, _, _, _, by simp [Rows.linesShowsRow]; right; right; left; rfl, gn_pow, gt_pow, sh_pow, v_pow⟩

/-- a world for the witness: what the door's own run leaves -/
noncomputable abbrev doorW (os : Os) : World := World.doorLaid Tryd.prog 77 os
theorem laidB_shows (os : Os) : laidMetH Tryd.prog Rows.linesShowsRow.laid ((doorW os).forCall (fun _ _ => 0) ⟨#[], #[.slice none 0 0], []⟩).memory :=
  laidMetH_of_parts3 (fuel := 8) (laidMet_of_run' 8 (by kernel_rfl) (by kernel_rfl)) (by kernel_rfl) (by kernel_rfl)
theorem reads_shows (os : Os) {H : Type} (enc : TypeId × Value → H) : ∃ places, DataW.whole enc Tryd.prog ((doorW os).forCall (fun _ _ => 0) ⟨#[], #[.slice none 0 0], []⟩).memory Tryd.f3.params.toList Rows.linesShowsSpec.vars false #[Value.slice none 0 0].toList 8 = some ([.nil], [], places) :=
  ⟨[], by kernel_rfl⟩

theorem lifted_shows (os : Os) (started : os.Started) (H : Type) (enc : TypeId × Value → H) (F : Stop.Interp) :
    ReturnsInHanded {} Tryd.checked os 3 .any ((OpenSpec.ofChange Rows.linesShowsSpec).preRow enc Tryd.prog Tryd.f3 Rows.linesShowsRow.domain false Rows.linesShowsRow.laid) (((OpenSpec.ofChange Rows.linesShowsSpec).at F).post enc Tryd.prog Tryd.f3 false true false false) := by
  obtain ⟨places, hx⟩ := reads_shows os enc
  refine returnsInHanded_of_row (C := Tryd.checked) (s := OpenSpec.ofChange Rows.linesShowsSpec) owns started (by kernel_rfl) Tryd.func3
    (witness_row_atRef (enc := enc) (C := Tryd.checked) false (doorW os) #[.slice none 0 0] rfl (by kernel_rfl) (by kernel_rfl) (by kernel_rfl)
      (OpenSpec.preRow_of_cond 8 hx (by kernel_rfl) (fun k hk => by cases hk) (by kernel_rfl) (laidB_shows os))) ?_
  intro W base args ds gs before hval hW _ _ hsz hL _ _
  exact law_contract (n := 4) (bt := 4) (ts := [22]) rfl rfl Tryd.underlying4 rfl (fun ds hd => by
      match ds, hd with
      | [d], _ => rfl) shs_3 laidOut (fun t ht => by
      obtain rfl := List.mem_singleton.1 ht
      exact ⟨by kernel_rfl, of_decide_eq_true (by kernel_rfl)⟩) shows_fun hval hW hsz (gok_shows hL)

theorem shows_said : Rows.LinesShowsSaid :=
  OpenClaim.holds_of_cond 3 Tryd.f3 rfl rfl rfl rfl rfl rfl rfl ⟨rfl, rfl, rfl, rfl, rfl⟩ rfl rfl rfl rfl rfl (by kernel_rfl) Tryd.func3 (by kernel_rfl)
    (of_decide_eq_true (by kernel_rfl)) (by unfold Func.isWrapper; first | (rw [if_pos (by decide +kernel)]; kernel_rfl) | (rw [if_neg (by decide +kernel)]; exact ⟨rfl, rfl⟩))
    (fun os started H enc _ F => by rw [OpenClaim.pre_eq_preRow]; exact lifted_shows os started H enc F)

theorem plain_shows (f : FuncId) (fn : Func) (hf : Tryd.pinned.checked.prog.funcNamed "usher/usherlaw.LinesShows" = some f) (hfn : Tryd.pinned.checked.prog.funcs[f]? = some fn) :
    true = Tryd.pinned.checked.prog.looks [] ∧ ∀ (j : Nat) t, fn.params[j]? = some t → Tryd.pinned.checked.prog.wantsStandIn t = false := by
  obtain rfl : f = 3 := Option.some.inj ((show Tryd.prog.funcNamed "usher/usherlaw.LinesShows" = some 3 by kernel_rfl).symm.trans hf) |>.symm
  obtain rfl : fn = Tryd.f3 := (Option.some.inj (Tryd.func3.symm.trans hfn)).symm
  refine ⟨by kernel_rfl, fun j t ht => ?_⟩
  rw [Tryd.params3] at ht
  obtain rfl : t = 22 := by simpa using Array.mem_of_getElem? ht
  exact (show Tryd.prog.wantsStandIn 22 = false by kernel_rfl)

theorem shows_card : Rows.LinesShowsCardSaid :=
  Claim7.holds_tied_plain_at .later [] _ _ _ _ shows_said (fun _ h => by cases h) (by kernel_rfl) (fun _ h => by cases h) linesShows_row_tie rfl ⟨rfl, rfl⟩ (by kernel_rfl) rfl plain_shows (by kernel_rfl)
#print axioms shows_card
end Go.Uw.D
