/- From the kit's contracts of library functions to those of the abstract machine. Own work. -/
import Derived.Test.YtkcjomglcjhkgaaDoorUwV
import Derived.Deep.Draws
import Derived.Sort.Grow
set_option linter.unusedVariables false
set_option linter.unusedSimpArgs false
set_option linter.unusedVariables false
set_option linter.unusedSimpArgs false
namespace Go.Uw
open Go Go.Sort

theorem grow_old {w : World} {k b : Nat} {os : Array Obj} (hb : b < w.heap.size) : (grow (w.drewN k) os).heap[b]? = w.heap[b]? := by
  simp only [grow, World.drewN]
  rw [Array.getElem?_append_left hb]

/-- new blocks that nobody names, and draws -/
theorem Out.grown {F : Nat → Prop} {w : World} {ρ : Names} {h : Nat → Option Blk} (hh : HR F w ρ h) {k : Nat} {os : Array Obj} {v : Value} (hv : litOK v) : Out F w ρ h [] (lit v) [] (grow (w.drewN k) os) v := by
  have hs : w.heap.size ≤ (grow (w.drewN k) os).heap.size := by simp [grow, World.drewN]
  have hE : Ext w (own ρ h) ρ (grow (w.drewN k) os) (own ρ h) ρ := by
    refine ⟨rfl, rfl, rfl, hs, fun b hb ho => ⟨grow_old hb, ho⟩, fun b c e hc => ?_, fun _ _ h => h⟩
    obtain ⟨fz, hc⟩ := hc
    exact ⟨c, ⟨fz, by rw [grow_old (Array.getElem?_eq_some_iff.1 hc).1]; exact hc⟩, rfl⟩
  refine ⟨ρ, ⟨fun i x hx => ?_, fun b hb => ⟨Nat.lt_of_lt_of_le (hh.far b hb).1 hs, (hh.far b hb).2⟩, hh.inj, hh.gl.ext hE.sh⟩, rep_lit_mk hv, hE, fun _ _ => rfl, fun id b h1 h2 => .inl ⟨id, h1, h2⟩⟩
  obtain ⟨n, h1, h2⟩ := hh.blk i x hx
  refine ⟨n, h1, ?_⟩
  cases n with
  | zero => exact h2
  | succ b => exact Blk.rep_ext hE.sh (grow_old (hh.lt hx h1)) x h2

/-- a library function of one integer that answers a string -/
theorem fun_of_grown {P : Program} {f : FuncId} {n : Int} {l : List UInt8} (hl : l.length ≤ maxLen) (h : ∀ (w : World) (s : Nat → Prop), GOK w s → Calls P f #[.int .i64 n] w fun e w' => e = .returned (.string ⟨l.toArray⟩) ∧ ∃ k os, w' = grow (w.drewN k) os) : Fun P f [iA n] [] [] (sA l) [] := by
  intro F ρ w vals hh _ hr
  simp only [repL] at hr
  obtain ⟨u, us, rfl, h1, rfl⟩ := hr
  rw [(rep_lit h1).1]
  refine (h w _ hh.gl).mono ?_
  rintro e w' ⟨rfl, k, os, rfl⟩
  exact ⟨_, rfl, Out.grown hh (by simp only [litOK, size_mk]; exact hl)⟩
end Go.Uw
