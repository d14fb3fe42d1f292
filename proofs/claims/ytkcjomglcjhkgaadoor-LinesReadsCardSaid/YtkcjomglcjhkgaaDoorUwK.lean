/- Slices of the abstract machine: literals, append, make, cuts; equality of structs; lending. Own work. -/
import Derived.Test.YtkcjomglcjhkgaaDoorUwJ
import Derived.Laws.AppendOwnNone
set_option linter.unusedVariables false
set_option linter.unusedSimpArgs false
namespace Go.Uw
open Go

/-! ### rows as one list of cells -/
section
variable {w : World} {own : Nat → Prop} {ρ : Names}

theorem ownCells_of_repL {b : Nat} : ∀ {l : List FV} {vs : List Value} {o : Nat}, repL w own ρ (fvs l) vs → (∀ j v, vs[j]? = some v → w.cell? ⟨b, o + j, none⟩ = some v) → ownCells w own b o l
  | [], vs, o, _, _ => by simp [ownCells]
  | x :: xs, vs, o, hx, hc => by
    simp only [fvs, List.map_cons, repL, AV.rep] at hx
    obtain ⟨u, us, rfl, h1, h2⟩ := hx
    simp only [ownCells]
    refine ⟨⟨u, by simpa using hc 0 u (by simp), h1⟩, ownCells_of_repL h2 fun j v hj => ?_⟩
    have := hc (j + 1) v (by simpa using hj)
    rwa [show o + (j + 1) = o + 1 + j by omega] at this

theorem fvs_append (a b : List FV) : fvs (a ++ b) = fvs a ++ fvs b := by simp [fvs]

theorem repL_split : ∀ {l l' : List AV} {vs : List Value}, repL w own ρ (l ++ l') vs → ∃ a b, vs = a ++ b ∧ repL w own ρ l a ∧ repL w own ρ l' b
  | [], l', vs, h => ⟨[], vs, rfl, by simp [repL], h⟩
  | x :: xs, l', vs, h => by
    simp only [List.cons_append, repL] at h
    obtain ⟨u, us, rfl, h1, h2⟩ := h
    obtain ⟨a, b, rfl, h3, h4⟩ := repL_split h2
    exact ⟨u :: a, b, rfl, by simp only [repL]; exact ⟨u, a, rfl, h1, h3⟩, h4⟩

/-- the rows read as one list -/
theorem flat_of_ownRows {k b : Nat} : ∀ {rs : List (List FV)} {o : Nat}, ownRows w own k b o rs → ∃ vs, repL w own ρ (fvs rs.flatten) vs ∧ vs.length = rs.length * k ∧ ∀ j v, vs[j]? = some v → w.cell? ⟨b, o + j, none⟩ = some v
  | [], o, _ => ⟨[], by simp [fvs, repL], by simp, by simp⟩
  | r :: rs, o, h => by
    simp only [ownRows] at h
    obtain ⟨vs, h1, h2⟩ := repL_of_ownCells (ρ := ρ) h.2.1
    obtain ⟨us, h3, h4, h5⟩ := flat_of_ownRows h.2.2
    have hl : vs.length = k := by rw [repL_length h1]; simp [fvs, h.1]
    refine ⟨vs ++ us, by rw [List.flatten_cons, fvs_append]; exact repL_append h1 h3, by rw [List.length_append, hl, h4, List.length_cons, Nat.add_mul]; omega, fun j v hj => ?_⟩
    by_cases hjl : j < vs.length
    · rw [List.getElem?_append_left hjl] at hj; exact h2 j v hj
    · rw [List.getElem?_append_right (by omega)] at hj
      have := h5 _ v hj
      rwa [show o + k + (j - vs.length) = o + j by omega] at this

theorem flat_of_repRows {k b : Nat} : ∀ {rs : List (List FV)} {o : Nat}, repRows w own k b o rs → ∃ vs, repL w own ρ (fvs rs.flatten) vs ∧ vs.length = rs.length * k ∧ ∀ j v, vs[j]? = some v → w.cell? ⟨b, o + j, none⟩ = some v
  | [], o, _ => ⟨[], by simp [fvs, repL], by simp, by simp⟩
  | r :: rs, o, h => by
    simp only [repRows] at h
    obtain ⟨vs, h1, h2⟩ := repL_of_repCells (ρ := ρ) h.2.1
    obtain ⟨us, h3, h4, h5⟩ := flat_of_repRows h.2.2
    have hl : vs.length = k := by rw [repL_length h1]; simp [fvs, h.1]
    refine ⟨vs ++ us, by rw [List.flatten_cons, fvs_append]; exact repL_append h1 h3, by rw [List.length_append, hl, h4, List.length_cons, Nat.add_mul]; omega, fun j v hj => ?_⟩
    by_cases hjl : j < vs.length
    · rw [List.getElem?_append_left hjl] at hj; exact h2 j v hj
    · rw [List.getElem?_append_right (by omega)] at hj
      have := h5 _ v hj
      rwa [show o + k + (j - vs.length) = o + j by omega] at this

theorem ownRows_of_flat {k b : Nat} : ∀ {rs : List (List FV)} {o : Nat} {vs : List Value}, (∀ r ∈ rs, r.length = k) → repL w own ρ (fvs rs.flatten) vs → (∀ j v, vs[j]? = some v → w.cell? ⟨b, o + j, none⟩ = some v) → ownRows w own k b o rs
  | [], o, vs, _, _, _ => by simp [ownRows]
  | r :: rs, o, vs, hk, h, hc => by
    rw [List.flatten_cons, fvs_append] at h
    obtain ⟨a, c, rfl, h1, h2⟩ := repL_split h
    have hl : a.length = k := by rw [repL_length h1]; simp [fvs, hk r (by simp)]
    simp only [ownRows]
    refine ⟨hk r (by simp), ownCells_of_repL h1 fun j v hj => hc j v ?_, ownRows_of_flat (fun r' hr' => hk r' (by simp [hr'])) h2 fun j v hj => ?_⟩
    · rw [List.getElem?_append_left (List.getElem?_eq_some_iff.1 hj).1]; exact hj
    · have := hc (a.length + j) v (by rw [List.getElem?_append_right (by omega)]; simpa using hj)
      rwa [hl, ← Nat.add_assoc] at this
end

section
variable {P : Program} {dst : Option Tmp} {ty : TypeId} {pos : String} {af : Array Edge} {g : Option (Nat × Bool)}

/-! ### a slice written out -/
/-- each part one row, in order -/
def partsRow : Nat → List (Nat × AV) → List (List AV)
  | _, [] => []
  | i, (_, v) :: l => cellsOfA v :: partsRow (i + 1) l

def inOrder : Nat → List (Nat × AV) → Bool
  | _, [] => true
  | i, (j, _) :: l => Nat.beq i j && inOrder (i + 1) l

/-- laying parts of one width over a row, one behind the other -/
theorem fill_rows {k : Nat} {w : World} {own : Nat → Prop} {ρ : Names} : ∀ {vs : List (Nat × AV)} {vparts : List (Nat × Value)} (i : Nat) (done rest : List Value),
    inOrder i vs = true → (∀ p ∈ vs, cellish p.2 = true ∧ (cellsOfA p.2).length = k) → done.length = i * k → rest.length = vs.length * k →
    (vparts.map (·.1) = vs.map (·.1) ∧ repL w own ρ (vs.map (·.2)) (vparts.map (·.2))) →
    ∃ out : List Value, Instr.fill (fun i => some (i * k, k)) (done ++ rest).toArray vparts = some (done ++ out).toArray ∧ repL w own ρ (vs.flatMap fun p => cellsOfA p.2) out ∧ (∀ u ∈ out, u.oneCell' = true)
  | [], vparts, i, done, rest, _, _, hd, hr, hp => by
    have : vparts = [] := by simpa using hp.1
    subst this
    have : rest = [] := List.eq_nil_of_length_eq_zero (by simpa using hr)
    subst this
    exact ⟨[], by simp [Instr.fill], by simp [repL], by simp⟩
  | (j, v) :: vs, vparts, i, done, rest, ho, hk, hd, hr, hp => by
    cases vparts with
    | nil => simp at hp
    | cons q qs =>
      obtain ⟨j', u⟩ := q
      simp only [List.map_cons, List.cons.injEq] at hp
      obtain ⟨⟨rfl, hp1⟩, hp2⟩ := hp
      simp only [inOrder, Bool.and_eq_true] at ho
      have hij : i = j' := Nat.eq_of_beq_eq_true ho.1
      subst hij
      simp only [repL] at hp2
      obtain ⟨u', us, he, hu, hus⟩ := hp2
      cases he
      obtain ⟨c1, c2⟩ := hk (i, v) (by simp)
      obtain ⟨r1, r2⟩ := cellsOfA_rep c1 hu
      have hlen : u.cells.size = k := by have := repL_length r1; simp at this c2; omega
      have hrl : k ≤ rest.length := by rw [hr]; simp [Nat.add_mul]
      have hfold := foldl_set u.cells.toList (i * k) (done ++ rest).toArray 0 (by simp [hlen, hd]; omega)
      simp only [Nat.add_zero, Array.length_toList, hlen] at hfold
      have hnew : ((done ++ rest).take (i * k) ++ u.cells.toList ++ (done ++ rest).drop (i * k + k)) = (done ++ u.cells.toList) ++ rest.drop k := by
        rw [← hd, List.take_left, List.drop_append, List.append_assoc, List.append_assoc]
        simp
      obtain ⟨out, f1, f2, f3⟩ := fill_rows (vs := vs) (vparts := qs) (i + 1) (done ++ u.cells.toList) (rest.drop k) ho.2 (fun p hp => hk p (by simp [hp]))
        (by simp [hd, hlen, Nat.add_mul]) (by simp [hr, Nat.add_mul]) ⟨hp1, hus⟩
      refine ⟨u.cells.toList ++ out, ?_, ?_, ?_⟩
      · simp only [Instr.fill]
        rw [if_neg (by simp [hlen, hd]; omega)]
        rw [← List.append_assoc, ← f1]
        congr 1
        rw [← hnew]
        rw [← hfold, ← Array.foldl_toList]
        simp [Array.toList_zipIdx]
      · rw [List.flatMap_cons]; exact repL_append r1 f2
      · intro x hx
        rcases List.mem_append.1 hx with hx | hx
        · exact r2 x hx
        · exact f3 x hx

theorem run_buildSlice {T e k n len : Nat} {gg : Bool} (hT : slB P T = some e) (he : tyB P e = some (gg, k, n)) (hk : 0 < k) (hpos : 0 < len) {zs : List Value} (hz : zeroB P e = some zs) (hsm : len * k ≤ 16777216) {parts : List (Nat × Value)} {out : List Value} {w : World}
    (hf : Instr.fill (fun i => some (i * k, k)) ((Array.range (len * k)).map (zs.toArray[· % zs.toArray.size]!)) parts = some out.toArray) :
    (Instr.buildSlice T len ⟨parts⟩).run P w = .ok (.slice (some ⟨w.heap.size, 0, none⟩) len len) (w.alloc (.cells out.toArray e (0, 0))) := by
  obtain ⟨d, i, h2, h3, h4, h5, h6⟩ := tyB_spec he
  obtain ⟨i', z, h7, h8, h9, h10, h11⟩ := zeroB_spec hz
  rw [h3] at h7; cases h7
  have h0 : ¬ len * k = 0 := by
    intro h
    rcases Nat.mul_eq_zero.1 h with h | h <;> omega
  have hgt : ¬ (len * k > 2 ^ 24) := by omega
  simp only [Instr.buildSlice, Sem.run_bind, run_underlying (slB_spec hT), Result.andThen_ok, sizeOf, typeInfo, run_program, h3, Sem.run_pure, h5, hgt, h0, if_false, zeroValue, h8, h9, hf, newRow, run_newObj]
  rfl

theorem ltr_bslice {T e k n m len : Nat} {gg : Bool} {parts : List (Nat × Operand)} {vs : List (Nat × AV)} {zs : List Value} {rs : List (List FV)} (hT : slB P T = some e) (he : tyB P e = some (gg, k, n)) (hk : 0 < k) (hz : zeroB P e = some zs)
    (hpos : 0 < len) (hsm : len * k ≤ 16777216) (hlm : len = vs.length) (hx : EvP parts vs) (hord : inOrder 0 vs = true) (hrow : vs.map (fun p => cellsOfA p.2) = rs.map fvs) (hcell : ∀ p ∈ vs, cellish p.2 = true ∧ (cellsOfA p.2).length = k) :
    LTr P ⟨dst, .buildSlice T len ⟨parts⟩, ty, pos, af, g⟩ (footP parts vs) [] [m] (.rw m k 0 len) [(m, some (.rows e k rs))] :=
  LTr.of_run fun F ρ h a w hh _ hn hT' => by
    subst hlm
    obtain ⟨i', z, h7, h8, h9, h10, h11⟩ := zeroB_spec hz
    obtain ⟨out, f1, f2, f3⟩ := fill_rows (k := k) (w := w) (own := sh F (own ρ h)) (ρ := ρ) (vs := vs) (vparts := parts.map fun p => (p.1, a.eval p.2)) 0 []
      ((Array.range (vs.length * k)).map (zs.toArray[· % zs.toArray.size]!)).toList hord hcell (by simp) (by simp) (evP_rep hT' hx (List.Subset.refl _))
    simp only [List.nil_append, Array.toArray_toList] at f1
    have hrun := run_buildSlice (P := P) (w := w) hT he hk hpos hz hsm f1
    have hfm : (vs.flatMap fun p => cellsOfA p.2) = fvs rs.flatten := by
      have : ∀ (vs : List (Nat × AV)) (rs : List (List FV)), vs.map (fun p => cellsOfA p.2) = rs.map fvs → (vs.flatMap fun p => cellsOfA p.2) = fvs rs.flatten := by
        intro vs
        induction vs with
        | nil => intro rs h; cases rs <;> simp_all [fvs]
        | cons p vs ih =>
          intro rs h
          cases rs with
          | nil => simp at h
          | cons r rs =>
            simp only [List.map_cons, List.cons.injEq] at h
            rw [List.flatMap_cons, List.flatten_cons, fvs_append, h.1, ih rs h.2]
      exact this vs rs hrow
    rw [hfm] at f2
    have hrk : ∀ r ∈ rs, r.length = k := by
      intro r hr
      have : fvs r ∈ vs.map fun p => cellsOfA p.2 := by rw [hrow]; exact List.mem_map.2 ⟨r, hr, rfl⟩
      obtain ⟨p, hp, he⟩ := List.mem_map.1 this
      have := (hcell p hp).2
      rw [he] at this
      simpa [fvs] using this
    have hrl : rs.length = vs.length := by have := congrArg List.length hrow; simpa using this.symm
    have hol : out.length = vs.length * k := by
      rw [repL_length f2]
      have : ∀ (rs : List (List FV)), (∀ r ∈ rs, r.length = k) → (fvs rs.flatten).length = rs.length * k := by
        intro rs
        induction rs with
        | nil => intro _; simp [fvs]
        | cons r rs ih =>
          intro h
          rw [List.flatten_cons, fvs_append, List.length_append, ih (fun r' hr' => h r' (by simp [hr'])), List.length_cons, Nat.add_mul]
          simp [fvs, h r (by simp)]; omega
      rw [this rs hrk, hrl]
    refine ⟨.slice (some ⟨w.heap.size, 0, none⟩) vs.length vs.length, w.alloc (.cells out.toArray e (0, 0)), .inl ?_, Out.new hh (hn m (by simp)) (fun own' ρ' hE => ?_) (fun own' ρ' hE hnn => ?_)⟩
    · simp only [execOp, Sem.run_bind]
      rw [show Array.map (fun x => (x.1, a.eval x.2)) { toList := parts } = ⟨parts.map fun p => (p.1, a.eval p.2)⟩ by simp]
      rw [hrun]; rfl
    · simp only [Blk.rep]
      refine ⟨out.toArray, by rw [heap_alloc_new], by simp [hol, hrl], ownRows_of_flat (ρ := ρ') hrk (repL_ext hE _ _ f2) fun j v hj => ?_⟩
      rw [Nat.zero_add, cell_of_heap (heap_alloc_new w _)]; simpa using hj
    · simp only [AV.rep]
      refine .inr ⟨w.heap.size, vs.length, out.toArray, e, hnn, by simp, Nat.le_refl _, ?_, ⟨_, by rw [heap_alloc_new]⟩, by simp [hol]⟩
      have : vs.length * 1 ≤ vs.length * k := Nat.mul_le_mul_left _ hk
      simp only [maxLen]; omega
end
end Go.Uw
