/- How an argument that reads as data is told in the abstract machine; what a listed table holds; a law's row out of its walk. Own work. -/
import Derived.Test.YtkcjomglcjhkgaaDoorUwU
import Derived.Carry
import Derived.ProofKit
import Derived.OpenShut
import Derived.MakeChecks
import Derived.SizedLaws
import Derived.ChangeSame
set_option linter.unusedVariables false
set_option linter.unusedSimpArgs false
namespace Go.Uw
open Go Go.RowKit Go.WideShapes Go.ChangeShapes

/-- The shapes of data: bools, integers, strings, slices, things laid one behind the other. -/
inductive Sh where
  | bool
  | int (k : IntKind)
  | str
  | sl (k nb : Nat) (s : Sh)
  | st (l : List Sh)

def shFs (g : TypeId → Option Sh) (c : TypeId → Nat) : Nat → List Field → Option (List Sh × Nat)
  | off, [] => some ([], off)
  | off, f :: fs => if f.offset = off then match g f.type, shFs g c (off + c f.type) fs with
      | some s, some (l, e) => some (s :: l, e)
      | _, _ => none
    else none

def shOf (P : Program) : Nat → TypeId → Option Sh
  | 0, _ => none
  | n + 1, t => match P.underlying t with
    | some .bool => some .bool
    | some (.int k) => some (.int k)
    | some .string => some .str
    | some (.slice e) => if 0 < P.cellsOf e then (shOf P n e).map (.sl (P.cellsOf e) (P.bytesOf e) ·) else none
    | some (.array m e) => if P.cellsOf t = m * P.cellsOf e then (shOf P n e).map fun s => .st (List.replicate m s) else none
    | some (.struct fs) => match shFs (shOf P n) P.cellsOf 0 fs.toList with
      | some (l, e) => if e = P.cellsOf t then some (.st l) else none
      | none => none
    | _ => none

/-! ### well formed cells of a shape -/
mutual
def WT : Sh → List FV → Prop
  | .bool, fs => ∃ b, fs = [B b]
  | .int k, fs => ∃ n, (k.min ≤ n ∧ n ≤ k.max) ∧ fs = [.lit (.int k n)]
  | .str, fs => ∃ l : List UInt8, l.length ≤ reachBytes ∧ fs = [.lit (.string ⟨l.toArray⟩)]
  | .sl k nb s, fs => ∃ rows : List (List FV), fs = [.ro k rows] ∧ rows.length * nb ≤ reachBytes ∧ (∀ r ∈ rows, WT s r)
  | .st l, fs => WTs l fs
def WTs : List Sh → List FV → Prop
  | [], fs => fs = []
  | s :: l, fs => ∃ a b, fs = a ++ b ∧ WT s a ∧ WTs l b
end

inductive RepL (w : World) (own : Nat → Prop) : List FV → List Value → Prop
  | nil : RepL w own [] []
  | cons {f : FV} {v : Value} {fs : List FV} {cs : List Value} (h : f.rep w own v) (hr : RepL w own fs cs) : RepL w own (f :: fs) (v :: cs)

theorem RepL.append {w : World} {own : Nat → Prop} {a b : List FV} {c d : List Value} (h : RepL w own a c) (k : RepL w own b d) : RepL w own (a ++ b) (c ++ d) := by
  induction h with
  | nil => exact k
  | cons h1 _ ih => exact .cons h1 ih

theorem RepL.length {w : World} {own : Nat → Prop} {a : List FV} {c : List Value} (h : RepL w own a c) : a.length = c.length := by
  induction h with
  | nil => rfl
  | cons _ _ ih => simp [ih]

theorem repL_of_RepL {w : World} {own : Nat → Prop} {ρ : Names} {a : List FV} {c : List Value} (h : RepL w own a c) : repL w own ρ (fvs a) c := by
  induction h with
  | nil => simp [fvs, repL]
  | cons h1 _ ih => simp only [fvs, List.map_cons, repL, AV.rep]; exact ⟨_, _, rfl, h1, ih⟩

theorem repCells_of_RepL {w : World} {own : Nat → Prop} {b : Nat} (hb : ¬ own b) {a : List FV} {c : List Value} (h : RepL w own a c) : ∀ {o : Nat}, (∀ j v, c[j]? = some v → w.cell? ⟨b, o + j, none⟩ = some v) → repCells w own b o a := by
  induction h with
  | nil => intro o _; simp [repCells]
  | cons h1 _ ih =>
    intro o hc
    simp only [repCells]
    refine ⟨⟨_, by simpa using hc 0 _ rfl, hb, h1⟩, ih fun j v hj => ?_⟩
    have := hc (j + 1) v (by simpa using hj)
    rwa [show o + (j + 1) = o + 1 + j by omega] at this

section
variable {H : Type} {enc : TypeId × Value → H} {P : Program} {w : World} {own : Nat → Prop} {spare : Nat → Bool} {held : Bool}

theorem weightsAll_mem {P : Program} {e : TypeId} {l : List (DataW H)} {B : Nat} (h : ∀ m ∈ DataW.weightsAll P e l, m ≤ B) : ∀ d ∈ l, ∀ m ∈ d.weights P e, m ≤ B := by
  induction l with
  | nil => simp
  | cons x l ih =>
    simp only [DataW.weightsAll, List.mem_append] at h
    intro d hd m hm
    rcases List.mem_cons.1 hd with rfl | hd
    · exact h m (.inl hm)
    · exact ih (fun m hm => h m (.inr hm)) d hd m hm

theorem add_off {a : Addr} (h : a.spot = none) (n : Nat) : a.add n = ⟨a.block, a.off + n, none⟩ := by
  cases a; simp at h; subst h; exact add_none ..

theorem spot_of_cell {a : Addr} {u : Value} (h : w.cell? a = some u) : a.spot = none := by
  unfold World.cell? at h
  split at h
  · split at h
    · cases h
    · rename_i hs; simpa using hs
  · cases h

/-- the pieces of a struct, in order -/
theorem rd_fs (n : Nat) (ih : ∀ t s fuel cs x, shOf P n t = some s → DataW.trod enc P w 0 spare held fuel t cs = some x → (∀ m ∈ x.1.weights P t, m ≤ reachBytes) → ∃ fs, WT s fs ∧ RepL w own fs cs)
    (m : Nat) : ∀ (l : List Field) (off : Nat) (ss : List Sh) (e : Nat) (xs : List (DataW H × List MemPlace)) (cs : List Value), shFs (shOf P n) P.cellsOf off l = some (ss, e) → xs.length = l.length →
      (∀ (i : Nat) (f : Field), l[i]? = some f → DataW.trod enc P w 0 spare held m f.type ((cs.drop f.offset).take (P.cellsOf f.type)) = xs[i]?) → cs.length = e →
      (∀ m ∈ DataW.weightsEach P (l.map (·.type)) (xs.map (·.1)), m ≤ reachBytes) → ∃ fs, WTs ss fs ∧ RepL w own fs (cs.drop off)
  | [], off, ss, e, xs, cs, h, hl, _, he, _ => by
    simp only [shFs, Option.some.injEq, Prod.mk.injEq] at h
    obtain ⟨rfl, rfl⟩ := h
    exact ⟨[], rfl, by rw [List.drop_of_length_le (by omega)]; exact .nil⟩
  | f :: l, off, ss, e, xs, cs, h, hl, hx, he, hw => by
    simp only [shFs] at h
    split at h
    · rename_i hoff
      split at h
      · rename_i s0 l0 e0 h0 h1
        simp only [Option.some.injEq, Prod.mk.injEq] at h
        obtain ⟨rfl, rfl⟩ := h
        cases xs with
        | nil => simp at hl
        | cons x xs =>
          simp only [List.map_cons, DataW.weightsEach, List.mem_append] at hw
          have hx0 := hx 0 f rfl
          simp only [List.getElem?_cons_zero] at hx0
          obtain ⟨fs0, g1, g2⟩ := ih _ _ _ _ _ h0 hx0 (fun m hm => hw m (.inl hm))
          obtain ⟨fs1, g3, g4⟩ := rd_fs n ih m l (off + P.cellsOf f.type) l0 e0 xs cs h1 (by simpa using hl) (fun i f' hf => by simpa using hx (i + 1) f' (by simpa using hf)) he (fun m hm => hw m (.inr hm))
          refine ⟨fs0 ++ fs1, ⟨fs0, fs1, rfl, g1, g3⟩, ?_⟩
          rw [hoff] at g2
          have := g2.append g4
          rwa [← List.drop_drop, List.take_append_drop] at this
      · cases h
    · cases h

theorem rd_ar (k : Nat) {s : Sh} : ∀ (m : Nat) (cs : List Value), cs.length = m * k → (∀ i, i < m → ∃ fs, WT s fs ∧ RepL w own fs ((cs.drop (i * k)).take k)) → ∃ fs, WTs (List.replicate m s) fs ∧ RepL w own fs cs
  | 0, cs, h, _ => ⟨[], rfl, by have : cs = [] := List.eq_nil_of_length_eq_zero (by simpa using h); subst this; exact .nil⟩
  | m + 1, cs, h, hi => by
    obtain ⟨f0, g1, g2⟩ := hi 0 (by omega)
    obtain ⟨f1, g3, g4⟩ := rd_ar k m (cs.drop k) (by simp [h, Nat.add_mul]) fun i him => by
      obtain ⟨f, g5, g6⟩ := hi (i + 1) (by omega)
      refine ⟨f, g5, ?_⟩
      rwa [List.drop_drop, show k + i * k = (i + 1) * k by rw [Nat.add_mul]; omega]
    refine ⟨f0 ++ f1, by rw [List.replicate_succ]; exact ⟨f0, f1, rfl, g1, g3⟩, ?_⟩
    have := g2.append g4
    simpa using this

theorem weightsEach_le {ts : List TypeId} {ds : List (DataW H)} (h : (DataW.weightsEach P ts ds).all (· ≤ reachBytes) = true) : ∀ m ∈ DataW.weightsEach P ts ds, m ≤ reachBytes := fun m hm => by simpa using List.all_eq_true.1 h m hm

theorem rd (ho : ∀ b, ¬ own b) : ∀ (n : Nat) (t : TypeId) (s : Sh) (fuel : Nat) (cs : List Value) (x : DataW H × List MemPlace), shOf P n t = some s → DataW.trod enc P w 0 spare held fuel t cs = some x →
    (∀ m ∈ x.1.weights P t, m ≤ reachBytes) → ∃ fs, WT s fs ∧ RepL w own fs cs
  | 0, t, s, fuel, cs, x, h, _, _ => by simp [shOf] at h
  | n + 1, t, s, fuel, cs, x, h, hx, hw => by
    have ih := rd ho n
    unfold shOf at h
    split at h
    · rename_i hu
      cases h
      obtain ⟨b, rfl, _⟩ := DataW.trod_bool hu hx
      exact ⟨[B b], ⟨b, rfl⟩, .cons (by simp [FV.rep, litOK, Value.oneCell']) .nil⟩
    · rename_i k hu
      cases h
      obtain ⟨m, rfl, _, hwf⟩ := DataW.trod_int hu hx
      simp only [Lit.wf, Bool.and_eq_true, decide_eq_true_eq] at hwf
      exact ⟨[.lit (.int k m)], ⟨m, hwf, rfl⟩, .cons (by simp only [FV.rep, litOK]; exact ⟨trivial, hwf⟩) .nil⟩
    · rename_i hu
      cases h
      obtain ⟨b, rfl, rfl, hb⟩ := DataW.trod_string hu hx
      refine ⟨[.lit (.string b)], ⟨b.data.toList, ?_, by simp⟩, .cons (by simp [FV.rep, litOK, hb]) .nil⟩
      exact hw _ (by simp [DataW.weights])
    · rename_i e hu
      split at h
      · rename_i hpos
        simp only [Option.map_eq_some_iff] at h
        obtain ⟨s', hs', rfl⟩ := h
        rcases DataW.trod_slice hu hx with ⟨rfl, rfl⟩ | ⟨a, len, cap, elems, rest, m, rfl, rfl, rfl, hb, hl, hc, hlen, hel, hsp, hns⟩
        · exact ⟨[.ro (P.cellsOf e) []], ⟨[], rfl, by simp, by simp⟩, .cons (by simp only [FV.rep]; exact ⟨none, 0, 0, rfl, rfl, Nat.le_refl _, Nat.zero_le _, fun _ => rfl, fun ad had => by cases had⟩) .nil⟩
        · simp only [DataW.weights, hu, List.mem_cons, List.mem_append] at hw
          have hw0 := hw _ (.inl rfl)
          have hwe : ∀ d ∈ elems.map (·.1), ∀ m ∈ d.weights P e, m ≤ reachBytes := weightsAll_mem fun m hm => hw m (.inr (.inl hm))
          -- each element's cells
          have hrow : ∀ i, i < len → ∃ (fs : List FV) (cs' : List Value), WT s' fs ∧ RepL w own fs cs' ∧ cs'.length = P.cellsOf e ∧ (∀ j, j < P.cellsOf e → w.cell? ((a.add (i * P.cellsOf e)).add j) = cs'[j]?) := by
            intro i hi
            have h1 := hel i hi
            have h2 : elems[i]? = some (elems[i]'(by omega)) := List.getElem?_eq_getElem (by omega)
            rw [h2, Option.bind_eq_some_iff] at h1
            obtain ⟨cs', h3, h4⟩ := h1
            obtain ⟨_, h5, h6⟩ := World.cells?_some h3
            obtain ⟨fs, g1, g2⟩ := ih _ _ _ _ _ hs' h4 (hwe _ (List.mem_map_of_mem (List.getElem_mem _)))
            exact ⟨fs, cs', g1, g2, h5, h6⟩
          have hspot : 0 < len → a.spot = none := fun h0 => by
            obtain ⟨fs, cs', _, _, h5, h6⟩ := hrow 0 h0
            have := h6 0 hpos
            rw [List.getElem?_eq_getElem (by omega)] at this
            simp only [Nat.zero_mul, Addr.add, if_true] at this
            exact spot_of_cell this
          have key : ∀ (d i : Nat), i + d = len → ∃ rows : List (List FV), rows.length = d ∧ (∀ r ∈ rows, WT s' r) ∧ (repRows w own (P.cellsOf e) a.block (a.off + i * P.cellsOf e) rows) := by
            intro d
            induction d with
            | zero => intro i _; exact ⟨[], rfl, by simp, by simp [repRows]⟩
            | succ d ihd =>
              intro i hi
              obtain ⟨fs, cs', g1, g2, g3, g4⟩ := hrow i (by omega)
              obtain ⟨rows, r1, r2, r3⟩ := ihd (i + 1) (by omega)
              have hs := hspot (by omega)
              refine ⟨fs :: rows, by simp [r1], ?_, ?_⟩
              · intro r hr
                rcases List.mem_cons.1 hr with rfl | hr
                · exact g1
                · exact r2 r hr
              · simp only [repRows]
                refine ⟨by rw [g2.length, g3], repCells_of_RepL (ho _) g2 fun j v hj => ?_, by rwa [Nat.add_mul, Nat.one_mul, ← Nat.add_assoc] at r3⟩
                have hj' : j < P.cellsOf e := by rw [← g3]; exact (List.getElem?_eq_some_iff.1 hj).1
                have := g4 j hj'
                rw [add_off hs, add_off rfl, hj] at this
                exact this
          obtain ⟨rows, r1, r2, r3⟩ := key len 0 (by omega)
          refine ⟨[.ro (P.cellsOf e) rows], ⟨rows, rfl, ?_, r2⟩, .cons ?_ .nil⟩
          · have : elems.length * P.bytesOf e ≤ (elems.map (·.1)).length * P.bytesOf e + (rest.map (·.1)).length * P.bytesOf e := by simp
            rw [Nat.add_mul] at hw0
            rw [r1, ← hlen]
            omega
          · simp only [FV.rep]
            refine ⟨some a, len, cap, rfl, r1.symm, hl, hc, (fun hn => by cases hn), fun ad had => ?_⟩
            cases had
            exact ⟨fun hne => hspot (by rcases rows with _ | _ <;> simp_all; omega), by simpa using r3⟩
      · cases h
    · rename_i m e hu
      split at h
      · rename_i hc
        simp only [Option.map_eq_some_iff] at h
        obtain ⟨s', hs', rfl⟩ := h
        obtain ⟨xs, f', _, rfl, hl, hlen, hel⟩ := DataW.trod_array hu hx
        simp only [DataW.weights, hu] at hw
        have hwe := weightsAll_mem hw
        obtain ⟨fs, g1, g2⟩ := rd_ar (w := w) (own := own) (P.cellsOf e) (s := s') m cs (by rw [hl, hc]) fun i hi => by
          have h1 := hel i hi
          have h2 : xs[i]? = some (xs[i]'(by omega)) := List.getElem?_eq_getElem (by omega)
          rw [h2] at h1
          exact ih _ _ _ _ _ hs' h1 (hwe _ (List.mem_map_of_mem (List.getElem_mem _)))
        exact ⟨fs, g1, g2⟩
      · cases h
    · rename_i fs0 hu
      split at h
      · rename_i l e hl0
        split at h
        · rename_i he
          cases h
          obtain ⟨xs, f', _, rfl, hl, hlen, hel⟩ := DataW.trod_struct hu hx
          simp only [DataW.weights, hu] at hw
          obtain ⟨fs, g1, g2⟩ := rd_fs (own := own) n ih f' fs0.toList 0 l e xs cs hl0 (by simpa using hlen) (fun i f hf => hel i f (by simpa using hf)) (by rw [hl, he]) hw
          exact ⟨fs, g1, by simpa using g2⟩
        · cases h
      · cases h
    · cases h

/-- an argument -/
def argA : Sh → List FV → AV
  | .st _, fs => .agg (fvs fs)
  | _, [x] => .fv x
  | _, _ => .undef

theorem arg_rep {ρ : Names} (ho : ∀ b, ¬ own b) {n : Nat} {t : TypeId} {s : Sh} {r : Reach} {b0 : Nat} {v : Value} {d : DataW H} {ps : List MemPlace} (hs : shOf P n t = some s) (hv : Value.okWide P w r b0 t v)
    (h : DataW.Trod enc P w 0 spare held t v d ps) (hw : ∀ m ∈ d.weights P t, m ≤ reachBytes) : ∃ fs, WT s fs ∧ (argA s fs).rep w own ρ v := by
  obtain ⟨fuel, hf⟩ := h
  obtain ⟨fs, g1, g2⟩ := rd ho n t s fuel v.cells.toList (d, ps) hs hf hw
  refine ⟨fs, g1, ?_⟩
  have hone : v.cells.toList = [v] → (∀ l, s ≠ .st l) → (argA s fs).rep w own ρ v := by
    intro hc hne
    rw [hc] at g2
    cases g2 with
    | cons h1 h2 =>
      cases h2
      cases s <;> first | exact absurd rfl (hne _) | simpa [argA, AV.rep] using h1
  have hagg : (∃ cs, v = .agg cs) → ∀ l, s = .st l → (argA s fs).rep w own ρ v := by
    rintro ⟨cs, rfl⟩ l rfl
    simp only [argA, AV.rep]
    simp only [Value.cells] at g2
    refine ⟨cs.toList, by simp, repL_of_RepL g2, fvs_oneCell (repL_of_RepL (ρ := ρ) g2)⟩
  cases n with
  | zero => simp [shOf] at hs
  | succ n =>
    unfold shOf at hs
    split at hs
    · rename_i hu
      cases hs
      obtain ⟨b, rfl⟩ := okWide_bool hu hv
      exact hone rfl (fun _ => by simp)
    · rename_i k hu
      cases hs
      obtain ⟨b, rfl⟩ := okWide_int hu hv
      exact hone rfl (fun _ => by simp)
    · rename_i hu
      cases hs
      obtain ⟨b, rfl⟩ := okWide_string hu hv
      exact hone rfl (fun _ => by simp)
    · rename_i e hu
      split at hs
      · simp only [Option.map_eq_some_iff] at hs
        obtain ⟨s', hs', rfl⟩ := hs
        obtain ⟨a, len, cap, rfl⟩ := okWide_slice hu hv
        exact hone rfl (fun _ => by simp)
      · cases hs
    · rename_i m e hu
      split at hs
      · simp only [Option.map_eq_some_iff] at hs
        obtain ⟨s', hs', rfl⟩ := hs
        simp only [Value.okWide, hu] at hv
        obtain ⟨cs, rfl, _⟩ := hv
        exact hagg ⟨cs, rfl⟩ _ rfl
      · cases hs
    · rename_i fs0 hu
      split at hs
      · split at hs
        · cases hs
          obtain ⟨cs, rfl, _⟩ := okWide_struct hu hv
          exact hagg ⟨cs, rfl⟩ _ rfl
        · cases hs
      · cases hs
    · cases hs

/-! ### what a listed table holds -/
mutual
def valsOf : DataW H → Option (List Value)
  | .lit (.bool b) => some [.bool b]
  | .lit (.int k n) => some [.int k n]
  | .lit (.string l) => some [.string ⟨l.toArray⟩]
  | .agg l => valsOfL l
  | _ => none
def valsOfL : List (DataW H) → Option (List Value)
  | [] => some []
  | d :: l => match valsOf d, valsOfL l with
    | some a, some b => some (a ++ b)
    | _, _ => none
end

theorem tab_fs (n : Nat) (ih : ∀ t s fuel cs x vs, shOf P n t = some s → DataW.trod enc P w 0 spare held fuel t cs = some x → valsOf x.1 = some vs → vs = cs)
    (m : Nat) : ∀ (l : List Field) (off : Nat) (ss : List Sh) (e : Nat) (xs : List (DataW H × List MemPlace)) (cs vs : List Value), shFs (shOf P n) P.cellsOf off l = some (ss, e) → xs.length = l.length →
      (∀ (i : Nat) (f : Field), l[i]? = some f → DataW.trod enc P w 0 spare held m f.type ((cs.drop f.offset).take (P.cellsOf f.type)) = xs[i]?) → cs.length = e →
      valsOfL (xs.map (·.1)) = some vs → vs = cs.drop off
  | [], off, ss, e, xs, cs, vs, h, hl, _, he, hv => by
    simp only [shFs, Option.some.injEq, Prod.mk.injEq] at h
    obtain ⟨rfl, rfl⟩ := h
    have : xs = [] := List.eq_nil_of_length_eq_zero (by simpa using hl)
    subst this
    simp [valsOfL] at hv
    rw [List.drop_of_length_le (by omega), hv]
  | f :: l, off, ss, e, xs, cs, vs, h, hl, hx, he, hv => by
    simp only [shFs] at h
    split at h
    · rename_i hoff
      split at h
      · rename_i s0 l0 e0 h0 h1
        simp only [Option.some.injEq, Prod.mk.injEq] at h
        obtain ⟨rfl, rfl⟩ := h
        cases xs with
        | nil => simp at hl
        | cons x xs =>
          simp only [List.map_cons, valsOfL] at hv
          split at hv
          · rename_i a b ha hb
            cases hv
            have hx0 := hx 0 f rfl
            simp only [List.getElem?_cons_zero] at hx0
            have g1 := ih _ _ _ _ _ _ h0 hx0 ha
            have g2 := tab_fs n ih m l (off + P.cellsOf f.type) l0 e0 xs cs b h1 (by simpa using hl) (fun i f' hf => by simpa using hx (i + 1) f' (by simpa using hf)) he hb
            rw [g1, g2, hoff, ← List.drop_drop, List.take_append_drop]
          · cases hv
      · cases h
    · cases h

theorem tab_ar (k : Nat) : ∀ (m : Nat) (cs : List Value) (ds : List (DataW H)) (vs : List Value), cs.length = m * k → ds.length = m → (∀ (i : Nat) (d : DataW H) (us : List Value), ds[i]? = some d → valsOf d = some us → us = (cs.drop (i * k)).take k) → valsOfL ds = some vs → vs = cs
  | 0, cs, ds, vs, h, hd, _, hv => by
    have h1 : cs = [] := List.eq_nil_of_length_eq_zero (by simpa using h)
    have h2 : ds = [] := List.eq_nil_of_length_eq_zero hd
    subst h1; subst h2
    simpa [valsOfL] using hv.symm
  | m + 1, cs, [], vs, h, hd, _, _ => by simp at hd
  | m + 1, cs, d :: ds, vs, h, hd, hi, hv => by
    simp only [valsOfL] at hv
    split at hv
    · rename_i a b ha hb
      cases hv
      have g1 := hi 0 d a rfl ha
      have g2 := tab_ar k m (cs.drop k) ds b (by simp [h, Nat.add_mul]) (by simpa using hd) (fun i d' us hd' hu => by
        have := hi (i + 1) d' us (by simpa using hd') hu
        rwa [List.drop_drop, show k + i * k = (i + 1) * k by rw [Nat.add_mul]; omega]) hb
      rw [g1, g2]
      simp
    · cases hv

theorem tab : ∀ (n : Nat) (t : TypeId) (s : Sh) (fuel : Nat) (cs : List Value) (x : DataW H × List MemPlace) (vs : List Value), shOf P n t = some s → DataW.trod enc P w 0 spare held fuel t cs = some x → valsOf x.1 = some vs → vs = cs
  | 0, t, s, fuel, cs, x, vs, h, _, _ => by simp [shOf] at h
  | n + 1, t, s, fuel, cs, x, vs, h, hx, hv => by
    have ih := tab n
    unfold shOf at h
    split at h
    · rename_i hu
      obtain ⟨b, rfl, rfl⟩ := DataW.trod_bool hu hx
      simpa [valsOf] using hv.symm
    · rename_i k hu
      obtain ⟨m, rfl, rfl, _⟩ := DataW.trod_int hu hx
      simpa [valsOf] using hv.symm
    · rename_i hu
      obtain ⟨b, rfl, rfl, _⟩ := DataW.trod_string hu hx
      simpa [valsOf] using hv.symm
    · rename_i e hu
      rcases DataW.trod_slice hu hx with ⟨rfl, rfl⟩ | ⟨a, len, cap, elems, rest, m, rfl, rfl, rfl, _⟩ <;> simp [valsOf] at hv
    · rename_i m e hu
      split at h
      · rename_i hc
        simp only [Option.map_eq_some_iff] at h
        obtain ⟨s', hs', rfl⟩ := h
        obtain ⟨xs, f', _, rfl, hl, hlen, hel⟩ := DataW.trod_array hu hx
        simp only [valsOf] at hv
        exact tab_ar (P.cellsOf e) m cs _ vs (by rw [hl, hc]) (by simpa using hlen) (fun i d us hd hu' => by
          rw [List.getElem?_map, Option.map_eq_some_iff] at hd
          obtain ⟨y, hy, rfl⟩ := hd
          have hi : i < m := by rw [← hlen]; exact (List.getElem?_eq_some_iff.1 hy).1
          have h1 := hel i hi
          rw [hy] at h1
          exact ih _ _ _ _ _ _ hs' h1 hu') hv
      · cases h
    · rename_i fs0 hu
      split at h
      · rename_i l e hl0
        split at h
        · rename_i he
          cases h
          obtain ⟨xs, f', _, rfl, hl, hlen, hel⟩ := DataW.trod_struct hu hx
          simp only [valsOf] at hv
          have := tab_fs n ih f' fs0.toList 0 l e xs cs vs hl0 (by simpa using hlen) (fun i f hf => hel i f (by simpa using hf)) (by rw [hl, he]) hv
          simpa using this
        · cases h
      · cases h
    · cases h
end

theorem laid_mem {P : Program} {w : World} : ∀ {laid : List (String × DataW Unit)} {ps : List MemPlace}, DataW.LaidVars P w laid ps → ∀ x ∈ laid,
    ∃ g t cs fuel p, P.globalNamed x.1 = some g ∧ (P.globals[g]?).map (·.type) = some t ∧ w.var? P x.1 = some cs ∧ DataW.trod (fun _ => ()) P w 0 (fun _ => true) false fuel t cs.toList = some (x.2, p)
  | [], ps, _, x, hx => by simp at hx
  | (n, d) :: r, ps, h, x, hx => by
    obtain ⟨g, t, cs, fuel, p, q, h1, h2, h3, h4, h5, _⟩ := h
    rcases List.mem_cons.1 hx with rfl | hx
    · exact ⟨g, t, cs, fuel, p, h1, h2, h3, h4⟩
    · exact laid_mem h5 x hx

/-- The tables stand: each is listed, and what is listed is what the table says; each of the other variables is listed as an interface value. -/
theorem gok_of_laid {P : Program} {w : World} {laid : List (String × DataW Unit)} (hh : (laid.all fun x => x.2.handleName?.isNone) = true) (h : laidMetH P laid w)
    (hG : ∀ p ∈ Gl, ∃ (x : String × DataW Unit) (t : TypeId) (s : Sh) (n : Nat), x ∈ laid ∧ P.globalNamed x.1 = some p.1 ∧ (P.globals[p.1]?).map (·.type) = some t ∧ shOf P n t = some s ∧ valsOf x.2 = some p.2.toList)
    (hE : ∀ g ∈ GlE, ∃ (x : String × DataW Unit) (t : TypeId) (ms : Array (String × TypeId)) (nm : String) (d : DataW Unit), x ∈ laid ∧ P.globalNamed x.1 = some g ∧ (P.globals[g]?).map (·.type) = some t ∧ P.underlying t = some (.interface ms) ∧ x.2 = .iface nm d)
    (hI : ∀ g ∈ GlI, ∃ m, w.cell? ⟨g, 0, none⟩ = some (.int .i64 m)) :
    GOK w (fun _ => False) := by
  rw [MakeChecks.laidMetH_plain _ _ _ hh] at h
  obtain ⟨ps, h1, _, _⟩ := h
  refine ⟨fun p hp => ⟨fun h => h, ?_⟩, fun g hg => ⟨fun h => h, ?_⟩, fun g hg => ⟨fun h => h, hI g hg⟩⟩
  · obtain ⟨x, t, s, n, hx, hg, ht, hs, hv⟩ := hG p hp
    obtain ⟨g, t', cs, fuel, q, g1, g2, g3, g4⟩ := laid_mem h1 x hx
    obtain rfl := Option.some.inj (hg.symm.trans g1)
    obtain rfl := Option.some.inj (ht.symm.trans g2)
    have := tab n t s fuel cs.toList (x.2, q) p.2.toList hs g4 hv
    have hcs : cs = p.2 := by
      have := congrArg List.toArray this
      simpa using this.symm
    subst hcs
    unfold World.var? at g3
    rw [hg, Option.bind_some] at g3
    split at g3
    · rename_i cs' e k hb
      cases g3
      exact ⟨e, k, hb⟩
    · cases g3
  · obtain ⟨x, t, ms, nm, d, hx, hgn, ht, hu, hd⟩ := hE g hg
    obtain ⟨g', t', cs, fuel, q, g1, g2, g3, g4⟩ := laid_mem h1 x hx
    obtain rfl := Option.some.inj (hgn.symm.trans g1)
    obtain rfl := Option.some.inj (ht.symm.trans g2)
    have hcs : ∃ u v, cs.toList = [.iface u v] := by
      rw [hd] at g4
      cases fuel with
      | zero => simp [DataW.trod] at g4
      | succ fuel =>
        unfold DataW.trod at g4
        rw [hu] at g4
        split at g4 <;> first | exact ⟨_, _, by assumption⟩ | simp_all
    obtain ⟨u, v, hcs⟩ := hcs
    have hcs' : cs = #[.iface u v] := by
      have := congrArg List.toArray hcs
      simpa using this
    subst hcs'
    unfold World.var? at g3
    rw [hgn, Option.bind_some] at g3
    split at g3
    · rename_i cs' e k hb
      cases g3
      exact ⟨u, v, e, k, hb⟩
    · cases g3

/-! ### a law's contract out of its walk -/
section
variable {H : Type} {enc : TypeId × Value → H} {P : Program}

theorem post_of_below {f : Func} {s : ChangeSpec} {apart fresh handsOn again : Bool} {W W' : World} {args : Array Value} {v : Value} {ds gs : List (DataW H)} {before pa pv : List MemPlace}
    (hW : DataW.Whole enc P f.params.toList s.vars apart W args.toList ds gs before)
    (hres : ∀ (b : Nat) (sp : Nat → Bool) (hd : Bool), DataW.TrodAll enc P W' b sp hd f.resultTypes.toList (v.resultList f.resultTypes.size) (s.fn H (ds ++ gs)).results [])
    (hargs : ∀ sp : Nat → Bool, (∀ p ∈ before, sp p.block = true) → DataW.TrodAll enc P W' 0 sp true f.params.toList args.toList (s.fn H (ds ++ gs)).args pa)
    (hvars : ∀ sp : Nat → Bool, (∀ p ∈ before, sp p.block = true) → DataW.TrodVars enc P W' sp s.vars (s.fn H (ds ++ gs)).vars pv)
    (hps : before = pa ++ pv) (hb : Below W.heap.size W W')
    (hok : ∀ (j : Nat) (t : TypeId) (r : Value), f.resultTypes[j]? = some t → (v.resultList f.resultTypes.size)[j]? = some r → Value.okWide P W' .any 0 t r) :
    s.post enc P f apart fresh handsOn again W args v W' := by
  have hlt : ∀ p ∈ before, p.block < W.heap.size := fun p hp => hW.lt p hp
  have hold : ∀ p ∈ before, (fun b => decide (b < W.heap.size)) p.block = true := fun p hp => by simpa using hlt p hp
  refine ⟨ds, gs, before, [], pa, pv, hW, hres _ _ _, hargs _ hold, hvars _ hold, World.keptBut_mono (fun p hp => ⟨hp, ?_⟩) (hb.frame (· ∈ before)), fun _ => ?_⟩
  · rw [hps, List.mem_append] at hp
    exact Or.inr hp
  · obtain ⟨_, _, _, _, _, hz, hn⟩ := hW
    refine ⟨hok, _, _, ([] ++ pa) ++ pv, ⟨[] ++ pa, pv, trodAll_append (hargs _ (fun _ _ => rfl)) (hres _ _ _), hvars _ (fun _ _ => rfl), rfl, ?_, ?_⟩, ?_⟩
    · intro b off hp
      have hin : MemPlace.cell b off ∈ before := by rw [hps]; simpa using hp
      rw [hb.frozen (hlt _ hin)]
      exact hz b off hin
    · intro ha
      have := hn ha
      rw [hps] at this
      simpa using this
    · intro p hp _
      rw [hps]
      simpa using hp

theorem trodAll_stays (hl : laidOutB P = true) {W W' : World} {sp : Nat → Bool} (hb : Below W.heap.size W W') : ∀ {ts : List TypeId} {vs : List Value} {ds : List (DataW H)} {ps : List MemPlace},
    (∀ t ∈ ts, P.readableRec t = true ∧ t < P.types.size) → DataW.TrodAll enc P W 0 (fun _ => true) true ts vs ds ps → (∀ p ∈ ps, p.block < W.heap.size) → (∀ p ∈ ps, sp p.block = true) → DataW.TrodAll enc P W' 0 sp true ts vs ds ps
  | [], vs, ds, ps, _, h, _, _ => by obtain ⟨rfl, rfl, rfl⟩ := trodAll_nil h; exact trodAll_mk0
  | t :: ts, vs, ds, ps, ht, h, hlt, hsp => by
    obtain ⟨v, vs', d, ds', p, q, rfl, rfl, rfl, h1, h2⟩ := trodAll_cons h
    obtain ⟨hr, hrow⟩ := ht t (by simp)
    exact trodAll_cons_mk (WideElems.Trod_stays hl hr hrow h1 (fun x hx => hb.same (hlt x (by simp [hx]))) fun x hx => hsp x (by simp [hx]))
      (trodAll_stays hl hb (fun t ht' => ht t (by simp [ht'])) h2 (fun x hx => hlt x (by simp [hx])) fun x hx => hsp x (by simp [hx]))

def argsA : List Sh → List (List FV) → List AV
  | s :: ss, f :: fs => argA s f :: argsA ss fs
  | _, _ => []

def WTA : List Sh → List (List FV) → Prop
  | [], fs => fs = []
  | s :: ss, fs => ∃ f r, fs = f :: r ∧ WT s f ∧ WTA ss r

def shsB (P : Program) (n : Nat) : List TypeId → Option (List Sh)
  | [] => some []
  | t :: ts => match shOf P n t, shsB P n ts with
    | some s, some ss => some (s :: ss)
    | _, _ => none

theorem args_rep {w : World} {own : Nat → Prop} {ρ : Names} (ho : ∀ b, ¬ own b) {r : Reach} {b0 : Nat} {n : Nat} : ∀ {ts : List TypeId} {ss : List Sh} {vs : List Value} {ds : List (DataW H)} {ps : List MemPlace},
    shsB P n ts = some ss → (∀ (j : Nat) t v, ts[j]? = some t → vs[j]? = some v → Value.okWide P w r b0 t v) → DataW.TrodAll enc P w 0 (fun _ => true) true ts vs ds ps →
    (∀ m ∈ DataW.weightsEach P ts ds, m ≤ reachBytes) → ∃ fs, WTA ss fs ∧ repL w own ρ (argsA ss fs) vs
  | [], ss, vs, ds, ps, hs, _, h, _ => by
    simp only [shsB, Option.some.injEq] at hs
    subst hs
    obtain ⟨rfl, rfl, rfl⟩ := trodAll_nil h
    exact ⟨[], rfl, by simp [argsA, repL]⟩
  | t :: ts, ss, vs, ds, ps, hs, hv, h, hw => by
    simp only [shsB] at hs
    split at hs
    · rename_i s ss' h1 h2
      cases hs
      obtain ⟨v, vs', d, ds', p, q, rfl, rfl, rfl, g1, g2⟩ := trodAll_cons h
      simp only [DataW.weightsEach, List.mem_append] at hw
      obtain ⟨f, k1, k2⟩ := arg_rep (ρ := ρ) ho h1 (hv 0 t v rfl rfl) g1 (fun m hm => hw m (.inl hm))
      obtain ⟨fs, k3, k4⟩ := args_rep (ρ := ρ) ho h2 (fun j t' v' ht' hv' => hv (j + 1) t' v' (by simpa using ht') (by simpa using hv')) g2 (fun m hm => hw m (.inr hm))
      exact ⟨f :: fs, ⟨f, fs, rfl, k1, k3⟩, by simp only [argsA, repL]; exact ⟨_, _, rfl, k2, k4⟩⟩
    · cases hs

theorem below_of_ext {w w' : World} {own own' : Nat → Prop} {ρ ρ' : Names} (h : Ext w own ρ w' own' ρ') (ho : ∀ b, ¬ own b) : Below w.heap.size w w' :=
  ⟨h.os, h.tape, h.output, h.size, fun k hk => (h.same k hk (ho k)).1⟩

/-- THE CONTRACT OF A LAW, out of its walk at all arguments of the shapes. -/
theorem law_contract {f : FuncId} {fn : Func} {spec : ChangeSpec} {ts : List TypeId} {ss : List Sh} {n bt : Nat} {apart : Bool} (hp : fn.params = ts.toArray) (hrt : fn.resultTypes = #[bt]) (hbt : P.underlying bt = some .bool) (hvars : spec.vars = [])
    (hfn : ∀ (ds : List (DataW H)), ds.length = ts.length → spec.fn H ds = { results := [.lit (.bool true)], args := ds }) (hss : shsB P n ts = some ss) (hl : laidOutB P = true) (hts : ∀ t ∈ ts, P.readableRec t = true ∧ t < P.types.size)
    (hF : ∀ fs, WTA ss fs → Fun P f (argsA ss fs) [] [] (bA true) [])
    {W : World} {base : Nat} {args : Array Value} {ds gs : List (DataW H)} {before : List MemPlace}
    (hval : ∀ (j : Nat) t v, fn.params[j]? = some t → args[j]? = some v → Value.okWide P W .any base t v)
    (hW : DataW.Whole enc P fn.params.toList spec.vars apart W args.toList ds gs before)
    (hsz : (DataW.weightsEach P (fn.params.toList ++ []) (ds ++ gs)).all (· ≤ reachBytes) = true) (hG : GOK W (fun _ => False)) :
    Calls P f args W fun e W' => ∃ v, e = .returned v ∧ spec.post enc P fn apart true false false W args v W' := by
  have hW' := hW
  obtain ⟨p, q, hA, hV, rfl, hfz, hnd⟩ := hW
  rw [hvars] at hV
  obtain ⟨rfl, rfl⟩ := trodVars_none hV
  rw [hp] at hA hval
  simp only [List.append_nil] at hsz
  rw [hp] at hsz
  obtain ⟨fs, h1, h2⟩ := args_rep (P := P) (w := W) (own := sh (fun _ => False) (own (fun _ => Option.none) (hget []))) (ρ := fun _ => Option.none) (fun b h => by rcases h with ⟨id, h, _⟩ | h; simp [hget] at h; exact h)
    hss (fun j t v ht hv => hval j t v (by simpa using ht) (by simpa using hv)) hA (weightsEach_le (by simpa using hsz))
  have hempty : own (fun _ => Option.none) (hget []) = fun _ => False := by
    funext b; apply propext
    exact ⟨fun ⟨id, h1, _⟩ => by simp [hget] at h1, fun h => h.elim⟩
  have hsh : sh (fun _ => False) (own (fun _ => Option.none) (hget [])) = fun _ => False := by
    rw [hempty]; funext b; simp [sh]
  have hh : HR (fun _ => False) W (fun _ => Option.none) (hget []) := ⟨fun id x hx => by simp [hget] at hx, fun b hb => hb.elim, fun id id' b h1 => by simp [hget] at h1, by rw [hsh]; exact hG⟩
  have hc := hF fs h1 (fun _ => False) (fun _ => Option.none) W args.toList hh (by simp) h2
  rw [show args.toList.toArray = args by simp] at hc
  refine hc.mono ?_
  rintro e W' ⟨u, rfl, ρ', o1, o2, o3, o4, o5⟩
  have hu := (rep_lit o2).1
  subst hu
  have hb : Below W.heap.size W W' := below_of_ext o3 (fun b h => by rw [hempty] at h; exact h)
  have hlen : ds.length = ts.length := by
    have : ∀ {ts : List TypeId} {vs : List Value} {ds : List (DataW H)} {ps : List MemPlace}, DataW.TrodAll enc P W 0 (fun _ => true) true ts vs ds ps → ds.length = ts.length := by
      intro ts
      induction ts with
      | nil => intro vs ds ps h; obtain ⟨_, rfl, _⟩ := trodAll_nil h; rfl
      | cons t ts ih => intro vs ds ps h; obtain ⟨v, vs', d, ds', p, q, rfl, rfl, rfl, _, h2⟩ := trodAll_cons h; simp [ih h2]
    exact this hA
  have hfn' : spec.fn H (ds ++ []) = { results := [.lit (.bool true)], args := ds } := by rw [List.append_nil]; exact hfn ds hlen
  refine ⟨_, rfl, post_of_below (pa := p) (pv := []) hW' (fun b sp hd => ?_) (fun sp hsp => ?_) (fun sp hsp => ?_) rfl hb (ok_one hrt rfl (okWide_bool_mk hbt _))⟩
  · rw [hrt, hfn']
    exact trodAll_mk1 (shut_bool hbt _)
  · rw [hfn', hp]
    exact trodAll_stays hl hb hts hA (fun x hx => hW'.lt x (by simpa using hx)) (fun x hx => hsp x (by simpa using hx))
  · rw [hvars, hfn']
    rfl
end
end Go.Uw
