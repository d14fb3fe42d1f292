/- A helper text of this claim: lemmas of an abstract machine over the model, or walks in it. Own work of an AI agent. -/
import Derived.Test.YtkcjomglcjhkgaaDoorDShelf2
import Derived.Test.YtkcjomglcjhkgaaDoorUwU
import Derived.Test.YtkcjomglcjhkgaaDoorUwLn
import Derived.Test.YtkcjomglcjhkgaaDoorD22
import Derived.Lib.IndexBytes
set_option linter.unusedVariables false
set_option linter.unusedSimpArgs false
namespace Go.Uw.D
open Go Go.Uw Go.Proofs Go.RowKit

theorem Out.below {F : Nat → Prop} {w w' : World} {ρ : Names} {h : Nat → Option Blk} (hh : HR F w ρ h) (hb : Below w.heap.size w w') {x : AV} {v : Value} (hv : x.rep w' (sh F (own ρ h)) ρ v) : Out F w ρ h [] x [] w' v := by
  have hE : Ext w (own ρ h) ρ w' (own ρ h) ρ := by
    refine ⟨hb.os, hb.tape, hb.output, hb.size, fun b hlt ho => ⟨hb.block b hlt, ho⟩, fun b c e hc => ?_, fun _ _ h => h⟩
    obtain ⟨fz, hc⟩ := hc
    exact ⟨c, ⟨fz, by rw [hb.block b (Array.getElem?_eq_some_iff.1 hc).1]; exact hc⟩, rfl⟩
  exact ⟨ρ, hh.grow hE fun b ho => hb.block b (own_lt hh ho), hv, hE, fun _ _ => rfl, fun id b h1 h2 => .inl ⟨id, h1, h2⟩⟩

theorem ixb : ∀ (l : List UInt8) (c : UInt8), (Lib.indexByte l c = -1 ∧ ∀ x ∈ l, x ≠ c) ∨ ∃ a r, l = a ++ c :: r ∧ (∀ x ∈ a, x ≠ c) ∧ Lib.indexByte l c = (a.length : Int)
  | [], _ => .inl ⟨rfl, by simp⟩
  | b :: l, c => by
    by_cases hb : b = c
    · subst hb
      exact .inr ⟨[], l, rfl, by simp, by simp [Lib.indexByte]⟩
    · rcases ixb l c with ⟨h1, h2⟩ | ⟨a, r, h1, h2, h3⟩
      · refine .inl ⟨by simp [Lib.indexByte, hb, h1], fun x hx => ?_⟩
        rcases List.mem_cons.1 hx with rfl | hx
        · exact hb
        · exact h2 x hx
      · refine .inr ⟨b :: a, r, by simp [h1], fun x hx => ?_, ?_⟩
        · rcases List.mem_cons.1 hx with rfl | hx
          · exact hb
          · exact h2 x hx
        · have : ¬ (a.length : Int) = -1 := by omega
          simp [Lib.indexByte, hb, h3, this]

theorem ix_ok (l : List UInt8) : Fun Tryd.prog 32 [sA l, .fv (.lit (.int .u8 10))] [] [] (iA (Lib.indexByte l 10)) [] := by
  intro F ρ w vals hh _ hr
  simp only [repL] at hr
  obtain ⟨u, us, rfl, h1, u2, us2, rfl, h2, rfl⟩ := hr
  rw [(rep_lit h1).1, (rep_lit h2).1]
  refine (Tryd.strings_IndexByte ⟨l.toArray⟩ 10 w).mono ?_
  rintro e w' ⟨rfl, rfl⟩
  refine ⟨_, rfl, Out.below hh (Below.refl _ _) (rep_lit_mk ?_)⟩
  have hl := (rep_lit h1).2
  simp only [litOK, size_mk, maxLen_eq] at hl
  have : -1 ≤ Lib.indexByte l 10 ∧ Lib.indexByte l 10 ≤ l.length := by
    rcases ixb l 10 with ⟨g1, _⟩ | ⟨a, r, g1, _, g2⟩
    · rw [g1]; omega
    · rw [g2, g1]; simp; omega
  simp only [litOK, IntKind.min, IntKind.max]
  constructor <;> simp [IntKind.bits, IntKind.signed] <;> omega

theorem trim_len (l p : List UInt8) : (Lib.trimSuffix l p).length ≤ l.length := by
  unfold Lib.trimSuffix
  split
  · simp
  · exact Nat.le_refl _

theorem trim_ok (l : List UInt8) : Fun Tryd.prog 34 [sA l, sA [10]] [] [] (sA (Lib.trimSuffix l [10])) [] := by
  intro F ρ w vals hh _ hr
  simp only [repL] at hr
  obtain ⟨u, us, rfl, h1, u2, us2, rfl, h2, rfl⟩ := hr
  have hl := (rep_lit h1).2
  simp only [litOK, size_mk, maxLen_eq] at hl
  rw [(rep_lit h1).1, (rep_lit h2).1]
  refine (Tryd.strings_TrimSuffix ⟨l.toArray⟩ ⟨[10].toArray⟩ w (by rw [size_mk]; omega)).mono ?_
  rintro e w' ⟨rfl, rfl⟩
  refine ⟨_, rfl, Out.below hh (Below.refl _ _) (rep_lit_mk ?_)⟩
  have := trim_len l [10]
  simp only [litOK, size_mk, maxLen_eq]; omega

theorem split_eq : ∀ (n : Nat) (l : List UInt8), l.length ≤ n → Lib.splitK [32] 0 (Lib.count l [32]) l = splitSp l
  | n, l, hn => by
    rcases ixb l 32 with ⟨h1, h2⟩ | ⟨a, r, h1, h2, h3⟩
    · rw [Lib.count_miss (by rw [Lib.index_one, h1]), Lib.splitK, splitSp_word _ h2]
    · have hi : Lib.index l [32] = (a.length : Int) := by rw [Lib.index_one, h3]
      rw [Lib.count_hit (by simp) hi, Nat.add_comm 1, Lib.splitK, hi]
      have : ¬ ((a.length : Int) == -1) = true := by simp
      rw [if_neg this]
      subst h1
      rw [splitSp_cut _ _ h2]
      cases n with
      | zero => simp at hn
      | succ n =>
        have e := split_eq n r (by simp at hn; omega)
        simp [e]

theorem splitSp_le : ∀ (l w : List UInt8), w ∈ splitSp l → w.length ≤ l.length
  | [], w, h => by simp [splitSp] at h; simp [h]
  | c :: l, w, h => by
    have ih := splitSp_le l
    rw [splitSp] at h
    split at h
    · rcases List.mem_cons.1 h with rfl | h
      · simp
      · have := ih w h; simp; omega
    · split at h
      · simp at h; simp [h]
      · rename_i v ws hv
        rw [hv] at ih
        rcases List.mem_cons.1 h with rfl | h
        · have := ih v (by simp); simp; omega
        · have := ih w (by simp [h]); simp; omega
theorem splitSp_cnt : ∀ (l : List UInt8), (splitSp l).length ≤ l.length + 1 ∧ splitSp l ≠ []
  | [] => by simp [splitSp]
  | c :: l => by
    have ih := splitSp_cnt l
    rw [splitSp]
    split
    · simp; omega
    · split
      · simp
      · rename_i v ws hv
        rw [hv] at ih
        simp at ih ⊢; omega

theorem rows_strF {w : World} {s : Nat → Prop} {b : Nat} (hs : ¬ s b) : ∀ (ws : List (List UInt8)) (pre : List Value) (e : TypeId) (fz : Nat × Nat), w.heap[b]? = some (.cells (pre ++ ws.map fun v => Value.string ⟨v.toArray⟩).toArray e fz) → (∀ v ∈ ws, v.length ≤ maxLen) → repRows w s 1 b pre.length (strF ws)
  | [], _, _, _, _, _ => trivial
  | v :: ws, pre, e, fz, h, hl => by
    simp only [strF, List.map_cons, repRows]
    refine ⟨rfl, ⟨⟨.string ⟨v.toArray⟩, ?_, hs, ?_⟩, trivial⟩, ?_⟩
    · simp [World.cell?, h]
    · simp only [FV.rep, litOK, size_mk]
      exact ⟨trivial, hl v (by simp)⟩
    · have := rows_strF hs ws (pre ++ [Value.string ⟨v.toArray⟩]) e fz (by rw [h]; simp) fun v' hv => hl v' (by simp [hv])
      simpa [strF] using this

theorem split_ok (l : List UInt8) (hl : l.length ≤ 200000) : Fun Tryd.prog 33 [sA l, sA [32]] [] [] (.fv (.ro 1 (strF (splitSp l)))) [] := by
  intro F ρ w vals hh _ hr
  simp only [repL] at hr
  obtain ⟨u, us, rfl, h1, u2, us2, rfl, h2, rfl⟩ := hr
  rw [(rep_lit h1).1, (rep_lit h2).1]
  obtain ⟨_, m, hm⟩ := hh.gl.2.2 1 (by simp [GlI])
  refine (Tryd.strings_Split ⟨l.toArray⟩ ⟨[32].toArray⟩ m w (by rw [size_mk]; omega) hm (by rw [size_mk]; decide)).mono ?_
  rintro e w' ⟨rfl, rfl⟩
  have hp : (Lib.splitB ⟨[32].toArray⟩ 0 (Lib.countB ⟨l.toArray⟩ ⟨[32].toArray⟩) ⟨l.toArray⟩).map (·.data.toList) = splitSp l := by
    rw [Lib.splitB_data]; exact split_eq _ l (Nat.le_refl _)
  have hn := Lib.splitB_all ⟨[32].toArray⟩ (by rw [size_mk]; decide) 0 _ ⟨l.toArray⟩ rfl
  have hlen : (strF (splitSp l)).length = Lib.countB ⟨l.toArray⟩ ⟨[32].toArray⟩ + 1 := by rw [strF_len, ← hp, List.length_map, hn]
  have hcnt := (splitSp_cnt l).1
  have hns : ¬ sh F (own ρ (hget [])) w.heap.size := fun h => by
    rcases h with h | h
    · have := own_lt hh h; omega
    · have := (hh.far _ h).1; omega
  refine ⟨_, rfl, Out.below hh ?_ ?_⟩
  · exact ⟨rfl, rfl, rfl, by simp, fun b hb => Below.heap_alloc w _ b hb⟩
  · refine ⟨_, _, _, rfl, hlen.symm, Nat.le_refl _, by rw [← hlen, strF_len, maxLen_eq]; omega, (fun h => by cases h), fun ad had => ?_⟩
    cases had
    refine ⟨fun _ => rfl, ?_⟩
    refine rows_strF (pre := []) hns (splitSp l) 9 (0, 0) ?_ fun v hv => ?_
    · rw [World.alloc_heap_new, ← hp]
      simp [List.map_map, Function.comp_def]
    · have := splitSp_le l v hv
      rw [maxLen_eq]; omega

/-- what Atoi leaves in its first result, whatever its text -/
def atoiV (l : List UInt8) : Int := match Lib.atoiAll l with
  | .ok v => v
  | .range => Lib.atoiSat l
  | _ => 0
theorem atoiAll_bd {l : List UInt8} {v : Int} (h : Lib.atoiAll l = .ok v) : -9223372036854775808 ≤ v ∧ v ≤ 9223372036854775807 := by
  unfold Lib.atoiAll at h
  split at h
  · cases h
  · simp only at h
    split at h
    · cases h
    · cases h
    · split at h
      · cases h
      · split at h
        · cases h
        · cases h
          split <;> omega
theorem atoi_ok (l : List UInt8) (hl : l.length ≤ 200000) : Fun Tryd.prog 35 [sA l] [] [] (.tup [iA (atoiV l), .top]) [] := by
  intro F ρ w vals hh _ hr
  simp only [repL] at hr
  obtain ⟨u, us, rfl, h1, rfl⟩ := hr
  rw [(rep_lit h1).1]
  obtain ⟨_, t2, p2, e2, k2, g2⟩ := hh.gl.2.1 2 (by simp [GlE])
  obtain ⟨_, t3, p3, e3, k3, g3⟩ := hh.gl.2.1 3 (by simp [GlE])
  have hv : ∀ (w' : World) (v : Int) (x : Value), -9223372036854775808 ≤ v ∧ v ≤ 9223372036854775807 → (AV.tup [iA v, .top]).rep w' (sh F (own ρ (hget []))) ρ (.tuple #[.int .i64 v, x]) := fun w' v x h => by
    refine ⟨[.int .i64 v, x], rfl, _, _, rfl, rep_lit_mk ?_, _, _, rfl, trivial, rfl⟩
    exact h
  rcases ha : Lib.atoiAll l with v | _ | _
  · skip
    have e : atoiV l = v := by rw [atoiV, ha]
    refine (Tryd.strconv_Atoi_ok ⟨l.toArray⟩ (by rw [size_mk]; omega) v ha w).mono ?_
    rintro e' w' ⟨rfl, hw⟩
    refine ⟨_, rfl, Out.below hh ?_ (by rw [e]; exact hv _ _ _ (atoiAll_bd ha))⟩
    rcases hw with rfl | ⟨t, rfl⟩
    · exact Below.refl _ _
    · exact ⟨rfl, rfl, rfl, by simp [Lib.bytesWorld, World.freeze, World.alloc, World.drew, -World.alloc_eq, -World.drew_eq], fun b hb => Lib.bytesWorld_at_old w _ _ b hb⟩
  · skip
    have e : atoiV l = 0 := by rw [atoiV, ha]
    refine (Tryd.strconv_Atoi_none ⟨l.toArray⟩ (by rw [size_mk]; omega) (fun v => by rw [ha]; simp) (by rw [ha]; simp) _ w (by simp [World.cell?, g2]) (.inr ⟨t2, p2, rfl⟩)).mono ?_
    rintro e' w' ⟨N, rfl, _, _, hb⟩
    exact ⟨_, rfl, Out.below hh hb (by rw [e]; exact hv _ _ _ (by decide))⟩
  · skip
    have e : atoiV l = Lib.atoiSat l := by rw [atoiV, ha]
    refine (Tryd.strconv_Atoi_range ⟨l.toArray⟩ (by rw [size_mk]; omega) ha _ w (by simp [World.cell?, g3]) (.inr ⟨t3, p3, rfl⟩)).mono ?_
    rintro e' w' ⟨N, rfl, _, _, hb⟩
    exact ⟨_, rfl, Out.below hh hb (by rw [e]; exact hv _ _ _ (by unfold Lib.atoiSat; split <;> decide))⟩
end Go.Uw.D
