/- The abstract machine's data: values, heap, what it means that a concrete value reads as an abstract one. Own work. -/
import Derived.Test.YtkcjomglcjhkgaaDoorUwGl
import Derived.WalkKit
import Derived.WalkLawsBesides
set_option linter.unusedVariables false
set_option linter.unusedSimpArgs false
namespace Go.Uw

/-- Data in memory that nobody changes any more. -/
inductive FV where
  | lit (v : Value)
  | ro (k : Nat) (rows : List (List FV))

/-- Values in slots. -/
inductive AV where
  | fv (x : FV)
  | ptr (id k row col : Nat)
  | rw (id k off len : Nat)
  | rptr (cells : List FV)
  | fn (f : FuncId) (caps : List AV)
  | agg (cells : List AV)
  | tup (vs : List AV)
  | undef
  | top

inductive Blk where
  | cells (e : TypeId) (cs : List AV)
  | rows (e : TypeId) (k : Nat) (rs : List (List FV))

def litOK : Value → Prop
  | .int k n => k.min ≤ n ∧ n ≤ k.max
  | .string s => s.size ≤ maxLen
  | v => v.oneCell' = true

mutual
def FV.rep (w : World) (own : Nat → Prop) : FV → Value → Prop
  | .lit u, v => v = u ∧ litOK u
  | .ro k rows, v => ∃ a len cap, v = .slice a len cap ∧ len = rows.length ∧ len ≤ cap ∧ cap ≤ maxLen ∧ (a = none → cap = 0) ∧
      ∀ ad, a = some ad → (rows ≠ [] → ad.spot = none) ∧ repRows w own k ad.block ad.off rows
def repRows (w : World) (own : Nat → Prop) (k b : Nat) : Nat → List (List FV) → Prop
  | _, [] => True
  | o, r :: rs => r.length = k ∧ repCells w own b o r ∧ repRows w own k b (o + k) rs
def repCells (w : World) (own : Nat → Prop) (b : Nat) : Nat → List FV → Prop
  | _, [] => True
  | o, x :: xs => (∃ u, w.cell? ⟨b, o, none⟩ = some u ∧ ¬ own b ∧ x.rep w own u) ∧ repCells w own b (o + 1) xs
end

/-- own blocks' rows: as repRows, the block itself being owned. -/
def ownCells (w : World) (own : Nat → Prop) (b : Nat) : Nat → List FV → Prop
  | _, [] => True
  | o, x :: xs => (∃ u, w.cell? ⟨b, o, none⟩ = some u ∧ x.rep w own u) ∧ ownCells w own b (o + 1) xs
def ownRows (w : World) (own : Nat → Prop) (k b : Nat) : Nat → List (List FV) → Prop
  | _, [] => True
  | o, r :: rs => r.length = k ∧ ownCells w own b o r ∧ ownRows w own k b (o + k) rs

abbrev Names := Nat → Option Nat

mutual
def AV.rep (w : World) (own : Nat → Prop) (ρ : Names) : AV → Value → Prop
  | .fv x, v => x.rep w own v
  | .ptr id k row col, v => ∃ b, ρ id = some (b + 1) ∧ v = .pointer (some ⟨b, row * k + col, none⟩)
  | .rw id k off len, v => (ρ id = some 0 ∧ off = 0 ∧ len = 0 ∧ v = .slice none 0 0) ∨
      ∃ (b cap : Nat) (c : Array Value) (e : TypeId), ρ id = some (b + 1) ∧ v = .slice (some ⟨b, off * k, none⟩) len cap ∧ len ≤ cap ∧ cap ≤ maxLen ∧
      (∃ fz, w.heap[b]? = some (.cells c e fz)) ∧ c.size = (off + cap) * k
  | .rptr cells, v => ∃ a, v = .pointer (some a) ∧ a.spot = none ∧ repCells w own a.block a.off cells
  | .fn f caps, v => ∃ vs : List Value, v = .func (.func f) #[] vs.toArray ∧ repL w own ρ caps vs
  | .agg cells, v => ∃ vs : List Value, v = .agg vs.toArray ∧ repL w own ρ cells vs ∧ ∀ u ∈ vs, u.oneCell' = true
  | .tup l, v => ∃ vs : List Value, v = .tuple vs.toArray ∧ repL w own ρ l vs
  | .undef, v => v = Go.undef
  | .top, _ => True
def repL (w : World) (own : Nat → Prop) (ρ : Names) : List AV → List Value → Prop
  | [], vs => vs = []
  | x :: xs, vs => ∃ u us, vs = u :: us ∧ x.rep w own ρ u ∧ repL w own ρ xs us
end

def Blk.rep (w : World) (own : Nat → Prop) (ρ : Names) (b : Nat) : Blk → Prop
  | .cells e cs => ∃ vs rest : List Value, w.heap[b]? = some (.cells (vs ++ rest).toArray e (0, 0)) ∧ repL w own ρ cs vs ∧ ∀ u ∈ vs, u.oneCell' = true
  | .rows e k rs => ∃ c : Array Value, w.heap[b]? = some (.cells c e (0, 0)) ∧ rs.length * k ≤ c.size ∧ ownRows w own k b 0 rs

/-- How the world may go on: what is not owned stays; rows keep their size; names stay. -/
structure Ext (w : World) (own : Nat → Prop) (ρ : Names) (w' : World) (own' : Nat → Prop) (ρ' : Names) : Prop where
  os : w'.os = w.os
  tape : w'.tape = w.tape
  output : w'.output = w.output
  size : w.heap.size ≤ w'.heap.size
  same : ∀ b, b < w.heap.size → ¬ own b → w'.heap[b]? = w.heap[b]? ∧ ¬ own' b
  row : ∀ (b : Nat) (c : Array Value) (e : TypeId), (∃ fz, w.heap[b]? = some (.cells c e fz)) → ∃ c' : Array Value, (∃ fz, w'.heap[b]? = some (.cells c' e fz)) ∧ c'.size = c.size
  names : ∀ id b, ρ id = some b → ρ' id = some b

section
variable {w w' w'' : World} {own own' own'' : Nat → Prop} {ρ ρ' ρ'' : Names}

theorem Ext.refl : Ext w own ρ w own ρ := ⟨rfl, rfl, rfl, Nat.le_refl _, fun _ _ h => ⟨rfl, h⟩, fun _ c _ h => ⟨c, h, rfl⟩, fun _ _ h => h⟩


theorem cell_of_same {b o : Nat} (h : w'.heap[b]? = w.heap[b]?) : w'.cell? ⟨b, o, none⟩ = w.cell? ⟨b, o, none⟩ := World.cell?_of_block h

theorem lt_of_cell {b o : Nat} {u : Value} (h : w.cell? ⟨b, o, none⟩ = some u) : b < w.heap.size := World.block_lt_of_cell? w _ h

mutual
theorem FV.rep_ext (hs : ∀ b, b < w.heap.size → ¬ own b → w'.heap[b]? = w.heap[b]? ∧ ¬ own' b) : ∀ (x : FV) (v : Value), x.rep w own v → x.rep w' own' v
  | .lit u, v, h => by simpa [FV.rep] using h
  | .ro k rows, v, h => by
    simp only [FV.rep] at h ⊢
    obtain ⟨a, len, cap, h1, h2, h3, h4, h5, h6⟩ := h
    refine ⟨a, len, cap, h1, h2, h3, h4, h5, fun ad had => ⟨(h6 ad had).1, repRows_ext hs k ad.block rows ad.off (h6 ad had).2⟩⟩
theorem repRows_ext (hs : ∀ b, b < w.heap.size → ¬ own b → w'.heap[b]? = w.heap[b]? ∧ ¬ own' b) (k b : Nat) : ∀ (rows : List (List FV)) (o : Nat), repRows w own k b o rows → repRows w' own' k b o rows
  | [], _, _ => by simp [repRows]
  | r :: rs, o, h => by
    simp only [repRows] at h ⊢
    exact ⟨h.1, repCells_ext hs b r o h.2.1, repRows_ext hs k b rs (o + k) h.2.2⟩
theorem repCells_ext (hs : ∀ b, b < w.heap.size → ¬ own b → w'.heap[b]? = w.heap[b]? ∧ ¬ own' b) (b : Nat) : ∀ (cs : List FV) (o : Nat), repCells w own b o cs → repCells w' own' b o cs
  | [], _, _ => by simp [repCells]
  | x :: xs, o, h => by
    simp only [repCells] at h ⊢
    obtain ⟨⟨u, h1, h2, h3⟩, h4⟩ := h
    have hb := hs b (lt_of_cell h1) h2
    exact ⟨⟨u, (cell_of_same hb.1).trans h1, hb.2, FV.rep_ext hs x u h3⟩, repCells_ext hs b xs (o + 1) h4⟩
end

mutual
theorem AV.rep_ext (h : Ext w own ρ w' own' ρ') : ∀ (x : AV) (v : Value), x.rep w own ρ v → x.rep w' own' ρ' v
  | .fv x, v, hx => by simp only [AV.rep] at hx ⊢; exact FV.rep_ext h.same x v hx
  | .ptr id k row col, v, hx => by
    simp only [AV.rep] at hx ⊢
    obtain ⟨b, h1, h2⟩ := hx
    exact ⟨b, h.names _ _ h1, h2⟩
  | .rw id k off len, v, hx => by
    simp only [AV.rep] at hx ⊢
    rcases hx with ⟨h1, h2⟩ | ⟨b, cap, c, e, h1, h2, h3, h4, h5, h6⟩
    · exact .inl ⟨h.names _ _ h1, h2⟩
    · obtain ⟨c', h7, h8⟩ := h.row _ _ _ h5
      exact .inr ⟨b, cap, c', e, h.names _ _ h1, h2, h3, h4, h7, h8.trans h6⟩
  | .rptr cells, v, hx => by
    simp only [AV.rep] at hx ⊢
    obtain ⟨a, h1, h2, h3⟩ := hx
    exact ⟨a, h1, h2, repCells_ext h.same _ _ _ h3⟩
  | .fn f caps, v, hx => by
    simp only [AV.rep] at hx ⊢
    obtain ⟨vs, h1, h2⟩ := hx
    exact ⟨vs, h1, repL_ext h caps vs h2⟩
  | .agg cells, v, hx => by
    simp only [AV.rep] at hx ⊢
    obtain ⟨vs, h1, h2, h3⟩ := hx
    exact ⟨vs, h1, repL_ext h cells vs h2, h3⟩
  | .tup l, v, hx => by
    simp only [AV.rep] at hx ⊢
    obtain ⟨vs, h1, h2⟩ := hx
    exact ⟨vs, h1, repL_ext h l vs h2⟩
  | .undef, v, hx => by simpa [AV.rep] using hx
  | .top, v, hx => by simp [AV.rep]
theorem repL_ext (h : Ext w own ρ w' own' ρ') : ∀ (l : List AV) (vs : List Value), repL w own ρ l vs → repL w' own' ρ' l vs
  | [], vs, hx => by simpa [repL] using hx
  | x :: xs, vs, hx => by
    simp only [repL] at hx ⊢
    obtain ⟨u, us, h1, h2, h3⟩ := hx
    exact ⟨u, us, h1, AV.rep_ext h x u h2, repL_ext h xs us h3⟩
end

mutual
theorem ownRows_ext' (hs : ∀ b, b < w.heap.size → ¬ own b → w'.heap[b]? = w.heap[b]? ∧ ¬ own' b) (k b : Nat) (hb : w'.heap[b]? = w.heap[b]?) : ∀ (rows : List (List FV)) (o : Nat), ownRows w own k b o rows → ownRows w' own' k b o rows
  | [], _, _ => by simp [ownRows]
  | r :: rs, o, h => by
    simp only [ownRows] at h ⊢
    exact ⟨h.1, ownCells_ext' hs b hb r o h.2.1, ownRows_ext' hs k b hb rs (o + k) h.2.2⟩
theorem ownCells_ext' (hs : ∀ b, b < w.heap.size → ¬ own b → w'.heap[b]? = w.heap[b]? ∧ ¬ own' b) (b : Nat) (hb : w'.heap[b]? = w.heap[b]?) : ∀ (cs : List FV) (o : Nat), ownCells w own b o cs → ownCells w' own' b o cs
  | [], _, _ => by simp [ownCells]
  | x :: xs, o, h => by
    simp only [ownCells] at h ⊢
    obtain ⟨⟨u, h1, h3⟩, h4⟩ := h
    exact ⟨⟨u, (cell_of_same hb).trans h1, FV.rep_ext hs x u h3⟩, ownCells_ext' hs b hb xs (o + 1) h4⟩
end

theorem Blk.rep_ext (h : Ext w own ρ w' own' ρ') {b : Nat} (hb : w'.heap[b]? = w.heap[b]?) : ∀ (x : Blk), x.rep w own ρ b → x.rep w' own' ρ' b
  | .cells e cs, hx => by
    simp only [Blk.rep] at hx ⊢
    obtain ⟨vs, rest, h1, h2, h3⟩ := hx
    exact ⟨vs, rest, hb.trans h1, repL_ext h cs vs h2, h3⟩
  | .rows e k rs, hx => by
    simp only [Blk.rep] at hx ⊢
    obtain ⟨c, h1, h2, h3⟩ := hx
    exact ⟨c, hb.trans h1, h2, ownRows_ext' h.same k b hb rs 0 h3⟩

/-! a block that holds no cells bears no data: it may be shut out as well -/
section
variable {D : Nat} (hD : ∀ o, w.cell? ⟨D, o, none⟩ = none)
include hD
mutual
theorem FV.rep_widen : ∀ (x : FV) (v : Value), x.rep w own v → x.rep w (fun b => own b ∨ b = D) v
  | .lit u, v, h => by have _ := hD; simpa [FV.rep] using h
  | .ro k rows, v, h => by
    simp only [FV.rep] at h ⊢
    obtain ⟨a, len, cap, h1, h2, h3, h4, h5, h6⟩ := h
    exact ⟨a, len, cap, h1, h2, h3, h4, h5, fun ad had => ⟨(h6 ad had).1, repRows_widen k ad.block rows ad.off (h6 ad had).2⟩⟩
theorem repRows_widen (k b : Nat) : ∀ (rows : List (List FV)) (o : Nat), repRows w own k b o rows → repRows w (fun b => own b ∨ b = D) k b o rows
  | [], _, _ => by have _ := hD; simp [repRows]
  | r :: rs, o, h => by
    simp only [repRows] at h ⊢
    exact ⟨h.1, repCells_widen b r o h.2.1, repRows_widen k b rs (o + k) h.2.2⟩
theorem repCells_widen (b : Nat) : ∀ (cs : List FV) (o : Nat), repCells w own b o cs → repCells w (fun b => own b ∨ b = D) b o cs
  | [], _, _ => by simp [repCells]
  | x :: xs, o, h => by
    simp only [repCells] at h ⊢
    obtain ⟨⟨u, h1, h2, h3⟩, h4⟩ := h
    exact ⟨⟨u, h1, fun e => e.elim h2 (by rintro rfl; rw [hD] at h1; cases h1), FV.rep_widen x u h3⟩, repCells_widen b xs (o + 1) h4⟩
end
mutual
theorem AV.rep_widen : ∀ (x : AV) (v : Value), x.rep w own ρ v → x.rep w (fun b => own b ∨ b = D) ρ v
  | .fv x, v, hx => by simp only [AV.rep] at hx ⊢; exact FV.rep_widen hD x v hx
  | .ptr id k row col, v, hx => by simpa only [AV.rep] using hx
  | .rw id k off len, v, hx => by simpa only [AV.rep] using hx
  | .rptr cells, v, hx => by
    simp only [AV.rep] at hx ⊢
    obtain ⟨a, h1, h2, h3⟩ := hx
    exact ⟨a, h1, h2, repCells_widen hD _ _ _ h3⟩
  | .fn f caps, v, hx => by
    simp only [AV.rep] at hx ⊢
    obtain ⟨vs, h1, h2⟩ := hx
    exact ⟨vs, h1, repL_widen caps vs h2⟩
  | .agg cells, v, hx => by
    simp only [AV.rep] at hx ⊢
    obtain ⟨vs, h1, h2, h3⟩ := hx
    exact ⟨vs, h1, repL_widen cells vs h2, h3⟩
  | .tup l, v, hx => by
    simp only [AV.rep] at hx ⊢
    obtain ⟨vs, h1, h2⟩ := hx
    exact ⟨vs, h1, repL_widen l vs h2⟩
  | .undef, v, hx => by simpa [AV.rep] using hx
  | .top, v, hx => by simp [AV.rep]
theorem repL_widen : ∀ (l : List AV) (vs : List Value), repL w own ρ l vs → repL w (fun b => own b ∨ b = D) ρ l vs
  | [], vs, hx => by have _ := hD; simpa [repL] using hx
  | x :: xs, vs, hx => by
    simp only [repL] at hx ⊢
    obtain ⟨u, us, h1, h2, h3⟩ := hx
    exact ⟨u, us, h1, AV.rep_widen x u h2, repL_widen xs us h3⟩
end
theorem ownCells_widen (b : Nat) : ∀ (cs : List FV) (o : Nat), ownCells w own b o cs → ownCells w (fun b => own b ∨ b = D) b o cs
  | [], _, _ => by simp [ownCells]
  | x :: xs, o, h => by
    simp only [ownCells] at h ⊢
    obtain ⟨⟨u, h1, h3⟩, h4⟩ := h
    exact ⟨⟨u, h1, FV.rep_widen hD x u h3⟩, ownCells_widen b xs (o + 1) h4⟩
theorem ownRows_widen (k b : Nat) : ∀ (rows : List (List FV)) (o : Nat), ownRows w own k b o rows → ownRows w (fun b => own b ∨ b = D) k b o rows
  | [], _, _ => by simp [ownRows]
  | r :: rs, o, h => by
    simp only [ownRows] at h ⊢
    exact ⟨h.1, ownCells_widen hD b r o h.2.1, ownRows_widen k b rs (o + k) h.2.2⟩
theorem Blk.rep_widen {b : Nat} : ∀ (x : Blk), x.rep w own ρ b → x.rep w (fun b => own b ∨ b = D) ρ b
  | .cells e cs, hx => by
    simp only [Blk.rep] at hx ⊢
    obtain ⟨vs, rest, h1, h2, h3⟩ := hx
    exact ⟨vs, rest, h1, repL_widen hD cs vs h2, h3⟩
  | .rows e k rs, hx => by
    simp only [Blk.rep] at hx ⊢
    obtain ⟨c, h1, h2, h3⟩ := hx
    exact ⟨c, h1, h2, ownRows_widen hD k b rs 0 h3⟩
end

theorem Ext.trans (h : Ext w own ρ w' own' ρ') (k : Ext w' own' ρ' w'' own'' ρ'') : Ext w own ρ w'' own'' ρ'' := by
  refine ⟨k.os.trans h.os, k.tape.trans h.tape, k.output.trans h.output, Nat.le_trans h.size k.size, fun b hb ho => ?_, fun b c e hc => ?_, fun id b hi => k.names _ _ (h.names _ _ hi)⟩
  · obtain ⟨h1, h2⟩ := h.same b hb ho
    obtain ⟨h3, h4⟩ := k.same b (Nat.lt_of_lt_of_le hb h.size) h2
    exact ⟨h3.trans h1, h4⟩
  · obtain ⟨c', h1, h2⟩ := h.row b c e hc
    obtain ⟨c'', h3, h4⟩ := k.row b c' e h1
    exact ⟨c'', h3, h4.trans h2⟩
end

/-! ### the heap of the call's own -/
def own (ρ : Names) (h : Nat → Option Blk) (b : Nat) : Prop := ∃ id, (h id).isSome = true ∧ ρ id = some (b + 1)

/-- What frozen data may not lie in: what is owned here (own), and what a caller owns (F). -/
def sh (F own : Nat → Prop) (b : Nat) : Prop := own b ∨ F b

theorem Ext.sh {w w' : World} {own own' F : Nat → Prop} {ρ ρ' : Names} (h : Ext w own ρ w' own' ρ') : Ext w (sh F own) ρ w' (Go.Uw.sh F own') ρ' := by
  refine ⟨h.os, h.tape, h.output, h.size, fun b hb ho => ?_, h.row, h.names⟩
  obtain ⟨h1, h2⟩ := h.same b hb (fun e => ho (.inl e))
  exact ⟨h1, fun e => e.elim h2 (fun e => ho (.inr e))⟩

/-- the tables stand, and nobody owns them -/
def GOK (w : World) (s : Nat → Prop) : Prop :=
  (∀ p ∈ Gl, ¬ s p.1 ∧ ∃ e k, w.heap[p.1]? = some (.cells p.2 e k)) ∧ (∀ g ∈ GlE, ¬ s g ∧ ∃ tp p e k, w.heap[g]? = some (.cells #[.iface tp p] e k)) ∧
  (∀ g ∈ GlI, ¬ s g ∧ ∃ m, w.cell? ⟨g, 0, none⟩ = some (.int .i64 m))

theorem cell_lt {w : World} {g : Nat} {v : Value} (h : w.cell? ⟨g, 0, none⟩ = some v) : g < w.heap.size := by
  refine Decidable.byContradiction fun hn => ?_
  have e : w.heap[g]? = none := Array.getElem?_eq_none (by omega)
  simp [World.cell?, e] at h

theorem cell_same {w w' : World} {g : Nat} (h : w'.heap[g]? = w.heap[g]?) : w'.cell? ⟨g, 0, none⟩ = w.cell? ⟨g, 0, none⟩ := by
  simp [World.cell?, h]

theorem GOK.ext {w w' : World} {own own' : Nat → Prop} {ρ ρ' : Names} (hE : Ext w own ρ w' own' ρ') (h : GOK w own) : GOK w' own' := by
  refine ⟨fun p hp => ?_, fun g hg => ?_, fun g hg => ?_⟩
  · obtain ⟨h1, e, k, h2⟩ := h.1 p hp
    obtain ⟨h3, h4⟩ := hE.same p.1 (Array.getElem?_eq_some_iff.1 h2).1 h1
    exact ⟨h4, e, k, h3.trans h2⟩
  · obtain ⟨h1, tp, p, e, k, h2⟩ := h.2.1 g hg
    obtain ⟨h3, h4⟩ := hE.same g (Array.getElem?_eq_some_iff.1 h2).1 h1
    exact ⟨h4, tp, p, e, k, h3.trans h2⟩
  · obtain ⟨h1, m, h2⟩ := h.2.2 g hg
    obtain ⟨h3, h4⟩ := hE.same g (cell_lt h2) h1
    exact ⟨h4, m, (cell_same h3).trans h2⟩

theorem GOK.sub {w : World} {s s' : Nat → Prop} (h : GOK w s) (hs : ∀ b, s' b → s b) : GOK w s' :=
  ⟨fun p hp => ⟨fun h' => (h.1 p hp).1 (hs _ h'), (h.1 p hp).2⟩, fun g hg => ⟨fun h' => (h.2.1 g hg).1 (hs _ h'), (h.2.1 g hg).2⟩,
    fun g hg => ⟨fun h' => (h.2.2 g hg).1 (hs _ h'), (h.2.2 g hg).2⟩⟩

structure HR (F : Nat → Prop) (w : World) (ρ : Names) (h : Nat → Option Blk) : Prop where
  blk : ∀ id x, h id = some x → ∃ n, ρ id = some n ∧ (match n with | 0 => ∃ e k, x = .rows e k [] | b + 1 => x.rep w (sh F (own ρ h)) ρ b)
  far : ∀ b, F b → b < w.heap.size ∧ ¬ own ρ h b
  inj : ∀ id id' b, (h id).isSome = true → (h id').isSome = true → ρ id = some (b + 1) → ρ id' = some (b + 1) → id = id'
  gl : GOK w (sh F (own ρ h))

def tget : List (Nat × AV) → Nat → Option AV
  | [], _ => none
  | (i, v) :: l, j => bif Nat.beq i j then some v else tget l j

def hget : List (Nat × Option Blk) → Nat → Option Blk
  | [], _ => none
  | (i, v) :: l, j => bif Nat.beq i j then v else hget l j

/-- The heap with some entries put over it. -/
def happ (puts : List (Nat × Option Blk)) (h : Nat → Option Blk) : Nat → Option Blk :=
  match puts with
  | [] => h
  | (i, v) :: l => fun j => bif Nat.beq i j then v else happ l h j

theorem hget_append (a b : List (Nat × Option Blk)) : hget (a ++ b) = happ a (hget b) := by
  induction a with
  | nil => rfl
  | cons x l ih => funext j; obtain ⟨i, v⟩ := x; simp only [List.cons_append, hget, happ, ih]

end Go.Uw
