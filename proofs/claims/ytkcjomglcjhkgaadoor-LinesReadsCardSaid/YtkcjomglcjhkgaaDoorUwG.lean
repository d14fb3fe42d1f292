/- Conversions, functions and calls of the abstract machine. Own work. -/
import Derived.Test.YtkcjomglcjhkgaaDoorUwF
set_option linter.unusedVariables false
set_option linter.unusedSimpArgs false
namespace Go.Uw
open Go

/-! ### which names a value bears -/
mutual
def AV.idsIn (l : List Nat) : AV → Bool
  | .fv _ => true
  | .ptr id _ _ _ => l.contains id
  | .rw id _ _ _ => l.contains id
  | .rptr _ => true
  | .fn _ caps => idsInL l caps
  | .agg cells => idsInL l cells
  | .tup vs => idsInL l vs
  | .undef => true
  | .top => true
def idsInL (l : List Nat) : List AV → Bool
  | [] => true
  | x :: xs => x.idsIn l && idsInL l xs
end

section
variable {w : World} {own : Nat → Prop} {ρ ρ' : Names} {l : List Nat}
mutual
theorem AV.rep_congr (h : ∀ id ∈ l, ρ id = ρ' id) : ∀ (x : AV) (v : Value), x.idsIn l = true → x.rep w own ρ v → x.rep w own ρ' v
  | .fv x, v, _, hx => by simpa [AV.rep] using hx
  | .ptr id k row col, v, hi, hx => by
    simp only [AV.rep] at hx ⊢
    rw [← h id (by simpa [AV.idsIn] using hi)]; exact hx
  | .rw id k off len, v, hi, hx => by
    simp only [AV.rep] at hx ⊢
    rw [← h id (by simpa [AV.idsIn] using hi)]; exact hx
  | .rptr cells, v, _, hx => by simpa [AV.rep] using hx
  | .fn f caps, v, hi, hx => by
    simp only [AV.rep] at hx ⊢
    obtain ⟨vs, h1, h2⟩ := hx
    exact ⟨vs, h1, repL_congr h caps vs (by simpa [AV.idsIn] using hi) h2⟩
  | .agg cells, v, hi, hx => by
    simp only [AV.rep] at hx ⊢
    obtain ⟨vs, h1, h2, h3⟩ := hx
    exact ⟨vs, h1, repL_congr h cells vs (by simpa [AV.idsIn] using hi) h2, h3⟩
  | .tup vs', v, hi, hx => by
    simp only [AV.rep] at hx ⊢
    obtain ⟨vs, h1, h2⟩ := hx
    exact ⟨vs, h1, repL_congr h vs' vs (by simpa [AV.idsIn] using hi) h2⟩
  | .undef, v, _, hx => by simpa [AV.rep] using hx
  | .top, v, _, hx => by simp [AV.rep]
theorem repL_congr (h : ∀ id ∈ l, ρ id = ρ' id) : ∀ (x : List AV) (v : List Value), idsInL l x = true → repL w own ρ x v → repL w own ρ' x v
  | [], v, _, hx => by simpa [repL] using hx
  | x :: xs, v, hi, hx => by
    simp only [idsInL, Bool.and_eq_true] at hi
    simp only [repL] at hx ⊢
    obtain ⟨u, us, h1, h2, h3⟩ := hx
    exact ⟨u, us, h1, AV.rep_congr h x u hi.1 h2, repL_congr h xs us hi.2 h3⟩
end
end

/-! ### conversions: 'v, as it is in the state with the heap h, serves as v'' -/
mutual
inductive Cv (h : Nat → Option Blk) (dead : Nat → Prop) (ν : Nat → Nat) : AV → AV → Prop
  | same {x : AV} : Cv h dead ν (x.ren ν) x
  | frz {id k len : Nat} {e : TypeId} {rs : List (List FV)} (hb : h id = some (.rows e k rs)) (hl : len = rs.length) (hd : dead id) : Cv h dead ν (.rw id k 0 len) (.fv (.ro k rs))
  | frzp {id k row col : Nat} {e : TypeId} {l : List FV} (hb : h id = some (.cells e (fvs l))) (hd : dead id) : Cv h dead ν (.ptr id k row col) (.rptr (l.drop (row * k + col)))
  | nil {k : Nat} : Cv h dead ν (.fv (.lit (.slice none 0 0))) (.fv (.ro k []))
  | agg {l l' : List AV} (hl : CvL h dead ν l l') : Cv h dead ν (.agg l) (.agg l')
  | tup {l l' : List AV} (hl : CvL h dead ν l l') : Cv h dead ν (.tup l) (.tup l')
inductive CvL (h : Nat → Option Blk) (dead : Nat → Prop) (ν : Nat → Nat) : List AV → List AV → Prop
  | nil : CvL h dead ν [] []
  | cons {x x' : AV} {l l' : List AV} (hx : Cv h dead ν x x') (hl : CvL h dead ν l l') : CvL h dead ν (x :: l) (x' :: l')
end

inductive CvB (h : Nat → Option Blk) (dead : Nat → Prop) (ν : Nat → Nat) : Blk → Blk → Prop
  | rows {e : TypeId} {k : Nat} {rs : List (List FV)} : CvB h dead ν (.rows e k rs) (.rows e k rs)
  | cells {e : TypeId} {l l' : List AV} (hl : CvL h dead ν l l') : CvB h dead ν (.cells e l) (.cells e l')

section
variable {w : World} {ρ : Names} {h : Nat → Option Blk} {dead : Nat → Prop} {ν : Nat → Nat} {own' : Nat → Prop}

theorem FV.rep_own {own : Nat → Prop} (ho : ∀ b, own' b → own b) {x : FV} {v : Value} (hx : x.rep w own v) : x.rep w own' v :=
  FV.rep_ext (fun b _ hb => ⟨rfl, fun h' => hb (ho b h')⟩) x v hx
theorem AV.rep_own {own : Nat → Prop} (ho : ∀ b, own' b → own b) {x : AV} {v : Value} (hx : x.rep w own ρ v) : x.rep w own' ρ v :=
  AV.rep_ext ⟨rfl, rfl, rfl, Nat.le_refl _, fun b _ hb => ⟨rfl, fun h' => hb (ho b h')⟩, fun b c e hc => ⟨c, hc, rfl⟩, fun _ _ h => h⟩ x v hx

theorem repCells_of_own {own : Nat → Prop} {b : Nat} (hb : ¬ own' b) (ho : ∀ b, own' b → own b) : ∀ {l : List FV} {o : Nat}, ownCells w own b o l → repCells w own' b o l
  | [], o, _ => by simp [repCells]
  | x :: xs, o, hx => by
    simp only [ownCells] at hx
    simp only [repCells]
    obtain ⟨⟨u, h1, h2⟩, h3⟩ := hx
    exact ⟨⟨u, h1, hb, FV.rep_own ho h2⟩, repCells_of_own hb ho h3⟩
theorem repRows_of_own {own : Nat → Prop} {k b : Nat} (hb : ¬ own' b) (ho : ∀ b, own' b → own b) : ∀ {l : List (List FV)} {o : Nat}, ownRows w own k b o l → repRows w own' k b o l
  | [], o, _ => by simp [repRows]
  | r :: rs, o, hx => by
    simp only [ownRows] at hx
    simp only [repRows]
    exact ⟨hx.1, repCells_of_own hb ho hx.2.1, repRows_of_own hb ho hx.2.2⟩

/-- What a conversion is good for: own' is less than what the heap h owned, and owns nothing dead. -/
structure Shrinks (F : Nat → Prop) (w : World) (ρ : Names) (h : Nat → Option Blk) (dead : Nat → Prop) (own' : Nat → Prop) : Prop where
  hr : HR F w ρ h
  le : ∀ b, own' b → own ρ h b
  dead : ∀ id b, (h id).isSome = true → dead id → ρ id = some (b + 1) → ¬ own' b

theorem Shrinks.le' {F : Nat → Prop} (hs : Shrinks F w ρ h dead own') : ∀ b, sh F own' b → sh F (own ρ h) b := fun b hb => hb.imp (hs.le b) id

theorem frz_rep {F : Nat → Prop} (hs : Shrinks F w ρ h dead own') {id k len : Nat} {e : TypeId} {rs : List (List FV)} (hb : h id = some (.rows e k rs)) (hl : len = rs.length) (hd : dead id)
    {v : Value} (hv : (AV.rw id k 0 len).rep w (sh F (own ρ h)) ρ v) : (FV.ro k rs).rep w (sh F own') v := by
  subst hl
  simp only [AV.rep] at hv
  simp only [FV.rep]
  rcases hv with ⟨h1, _, h2, rfl⟩ | ⟨b, cap, c, e', h1, rfl, h2, h3, h4, h5⟩
  · have : rs = [] := List.eq_nil_of_length_eq_zero h2
    subst this
    exact ⟨none, 0, 0, rfl, rfl, Nat.le_refl _, Nat.zero_le _, fun _ => rfl, fun ad had => by cases had⟩
  · obtain ⟨n, h6, h7⟩ := hs.hr.blk id _ hb
    rw [h1] at h6; cases h6
    simp only [Blk.rep] at h7
    obtain ⟨c', h8, h9, h10⟩ := h7
    refine ⟨some ⟨b, 0 * k, none⟩, _, cap, rfl, rfl, h2, h3, (fun hn => by cases hn), fun ad had => ?_⟩
    cases had
    exact ⟨fun _ => rfl, by simpa using repRows_of_own (own' := sh F own') (fun e => e.elim (hs.dead id b (by simp [hb]) hd h1) (fun e => (hs.hr.far b e).2 ⟨id, by simp [hb], h1⟩)) hs.le' h10⟩

theorem repCells_of_repL {own : Nat → Prop} {b : Nat} (hb : ¬ own' b) (ho : ∀ b, own' b → own b) : ∀ {l : List FV} {vs : List Value} {o : Nat}, repL w own ρ (fvs l) vs → (∀ j v, vs[j]? = some v → w.cell? ⟨b, o + j, none⟩ = some v) → repCells w own' b o l
  | [], vs, o, _, _ => by simp [repCells]
  | x :: xs, vs, o, hx, hc => by
    simp only [fvs, List.map_cons, repL, AV.rep] at hx
    obtain ⟨u, us, rfl, h1, h2⟩ := hx
    simp only [repCells]
    refine ⟨⟨u, by simpa using hc 0 u (by simp), hb, FV.rep_own ho h1⟩, repCells_of_repL hb ho h2 fun j v hj => ?_⟩
    have := hc (j + 1) v (by simpa using hj)
    rwa [show o + (j + 1) = o + 1 + j by omega] at this

theorem repCells_dropP {own : Nat → Prop} {b : Nat} : ∀ {l : List FV} {o : Nat} (n : Nat), repCells w own b o l → repCells w own b (o + n) (l.drop n)
  | l, o, 0, h => by simpa using h
  | [], o, n + 1, h => by simp [repCells]
  | x :: xs, o, n + 1, h => by
    simp only [repCells] at h
    have := repCells_dropP n h.2
    simpa [show o + (n + 1) = o + 1 + n by omega] using this

mutual
theorem Cv.rep {F : Nat → Prop} (hs : Shrinks F w ρ h dead own') : ∀ {x x' : AV}, Cv h dead ν x x' → ∀ {v : Value}, x.rep w (sh F (own ρ h)) ρ v → x'.rep w (sh F own') (fun i => ρ (ν i)) v
  | _, x', .same, v, hv => (AV.rep_ren x' v).1 (AV.rep_own hs.le' hv)
  | _, _, .frz hb hl hd, v, hv => by simp only [AV.rep]; exact frz_rep hs hb hl hd hv
  | _, _, .frzp (id := id) (k := k) (row := row) (col := col) (l := l) hb hd, v, hv => by
    simp only [AV.rep] at hv ⊢
    obtain ⟨b, h1, rfl⟩ := hv
    obtain ⟨n, h2, h3⟩ := hs.hr.blk _ _ hb
    rw [h1] at h2; cases h2
    simp only [Blk.rep] at h3
    obtain ⟨vs, rest, h4, h5, h6⟩ := h3
    have hc : repCells w (sh F own') b 0 l := repCells_of_repL (own' := sh F own') (fun e => e.elim (hs.dead id b (by simp [hb]) hd h1) (fun e => (hs.hr.far b e).2 ⟨id, by simp [hb], h1⟩)) hs.le' h5
      (fun j v hj => cell_front h4 (by simpa using hj))
    exact ⟨_, rfl, rfl, by simpa using repCells_dropP (row * k + col) hc⟩
  | _, _, .nil, v, hv => by
    obtain ⟨rfl, _⟩ := rep_lit hv
    simp only [AV.rep, FV.rep]
    exact ⟨none, 0, 0, rfl, rfl, Nat.le_refl _, Nat.zero_le _, fun _ => rfl, fun ad had => by cases had⟩
  | _, _, .agg hl, v, hv => by
    simp only [AV.rep] at hv ⊢
    obtain ⟨vs, h1, h2, h3⟩ := hv
    exact ⟨vs, h1, CvL.rep hs hl h2, h3⟩
  | _, _, .tup hl, v, hv => by
    simp only [AV.rep] at hv ⊢
    obtain ⟨vs, h1, h2⟩ := hv
    exact ⟨vs, h1, CvL.rep hs hl h2⟩
theorem CvL.rep {F : Nat → Prop} (hs : Shrinks F w ρ h dead own') : ∀ {l l' : List AV}, CvL h dead ν l l' → ∀ {vs : List Value}, repL w (sh F (own ρ h)) ρ l vs → repL w (sh F own') (fun i => ρ (ν i)) l' vs
  | _, _, .nil, vs, hv => by simpa [repL] using hv
  | _, _, .cons hx hl, vs, hv => by
    simp only [repL] at hv ⊢
    obtain ⟨u, us, h1, h2, h3⟩ := hv
    exact ⟨u, us, h1, Cv.rep hs hx h2, CvL.rep hs hl h3⟩
end

theorem ownRows_own {own : Nat → Prop} (ho : ∀ b, own' b → own b) {k b : Nat} : ∀ {l : List (List FV)} {o : Nat}, ownRows w own k b o l → ownRows w own' k b o l :=
  fun {l o} hx => ownRows_ext' (fun b _ hb => ⟨rfl, fun h' => hb (ho b h')⟩) k b rfl l o hx

theorem CvB.rep {F : Nat → Prop} (hs : Shrinks F w ρ h dead own') {x x' : Blk} (hc : CvB h dead ν x x') {b : Nat} (hx : x.rep w (sh F (own ρ h)) ρ b) : x'.rep w (sh F own') (fun i => ρ (ν i)) b := by
  cases hc with
  | rows =>
    simp only [Blk.rep] at hx ⊢
    obtain ⟨c, h1, h2, h3⟩ := hx
    exact ⟨c, h1, h2, ownRows_own hs.le' h3⟩
  | cells hl =>
    simp only [Blk.rep] at hx ⊢
    obtain ⟨vs, rest, h1, h2, h3⟩ := hx
    exact ⟨vs, rest, h1, CvL.rep hs hl h2, h3⟩
end

/-! conversions that look into no heap hold over each -/
mutual
theorem Cv.weak {h : Nat → Option Blk} {dead : Nat → Prop} {ν : Nat → Nat} : ∀ {x x' : AV}, Cv (fun _ => none) (fun _ => False) ν x x' → Cv h dead ν x x'
  | _, _, .same => .same
  | _, _, .frz hb _ _ => by cases hb
  | _, _, .frzp hb _ => by cases hb
  | _, _, .nil => .nil
  | _, _, .agg hl => .agg (CvL.weak hl)
  | _, _, .tup hl => .tup (CvL.weak hl)
theorem CvL.weak {h : Nat → Option Blk} {dead : Nat → Prop} {ν : Nat → Nat} : ∀ {l l' : List AV}, CvL (fun _ => none) (fun _ => False) ν l l' → CvL h dead ν l l'
  | _, _, .nil => .nil
  | _, _, .cons hx hl => .cons (Cv.weak hx) (CvL.weak hl)
end

/-! ### weaker states -/
def AllT (Q : Nat → AV → Prop) : List (Nat × AV) → Prop
  | [] => True
  | (i, v) :: l => Q i v ∧ AllT Q l
def AllH (Q : Nat → Blk → Prop) : List (Nat × Option Blk) → Prop
  | [] => True
  | (i, some v) :: l => Q i v ∧ AllH Q l
  | (_, none) :: l => AllH Q l

theorem AllT.get {Q : Nat → AV → Prop} : ∀ {l : List (Nat × AV)}, AllT Q l → ∀ {i : Nat} {v : AV}, tget l i = some v → Q i v
  | [], _, i, v, h => by simp [tget] at h
  | (j, u) :: l, hl, i, v, h => by
    simp only [tget] at h
    by_cases hj : j = i
    · subst hj; rw [beq_self] at h; simp at h; subst h; exact hl.1
    · rw [beq_ne hj] at h; exact AllT.get hl.2 h
theorem AllH.get {Q : Nat → Blk → Prop} : ∀ {l : List (Nat × Option Blk)}, AllH Q l → ∀ {i : Nat} {v : Blk}, hget l i = some v → Q i v
  | [], _, i, v, h => by simp [hget] at h
  | (j, some u) :: l, hl, i, v, h => by
    simp only [hget] at h
    by_cases hj : j = i
    · subst hj; rw [beq_self] at h; simp at h; subst h; exact hl.1
    · rw [beq_ne hj] at h; exact AllH.get hl.2 h
  | (j, none) :: l, hl, i, v, h => by
    simp only [hget] at h
    by_cases hj : j = i
    · subst hj; rw [beq_self] at h; simp at h
    · rw [beq_ne hj] at h; exact AllH.get (l := l) hl h

/-- the renaming that a list of pairs says (new, old): names below n stay, all others go beyond N -/
def ren (n N : Nat) : List (Nat × Nat) → Nat → Nat
  | [], i => bif Nat.blt i n then i else i + N
  | (a, b) :: l, i => bif Nat.beq a i then b else ren n N l i

/-- no two live names of the new state come of one -/
def renOK (n N nx : Nat) : List (Nat × Nat) → Bool
  | [] => true
  | (a, b) :: l => Nat.ble n a && Nat.blt a nx && Nat.ble n b && Nat.blt b N && !(l.any fun p => Nat.beq p.1 a || Nat.beq p.2 b) && renOK n N nx l

theorem ren_low {n N nx : Nat} : ∀ {l : List (Nat × Nat)}, renOK n N nx l = true → ∀ {i : Nat}, i < n → ren n N l i = i
  | [], _, i, hi => by
    have h : Nat.blt i n = true := by rw [Nat.blt_eq]; exact hi
    simp [ren, h]
  | (a, b) :: l, h, i, hi => by
    simp only [renOK, Bool.and_eq_true] at h
    have h1 : n ≤ a := Nat.le_of_ble_eq_true h.1.1.1.1.1
    simp only [ren, beq_ne (show a ≠ i by omega), cond_false]
    exact ren_low h.2 hi

theorem ren_high {n N nx : Nat} : ∀ {l : List (Nat × Nat)}, renOK n N nx l = true → n ≤ nx → ∀ {i : Nat}, nx ≤ i → N ≤ ren n N l i
  | [], _, hn, i, hi => by
    have : Nat.blt i n = false := by
      cases hb : Nat.blt i n with
      | false => rfl
      | true => rw [Nat.blt_eq] at hb; omega
    simp [ren, this]
  | (a, b) :: l, h, hn, i, hi => by
    simp only [renOK, Bool.and_eq_true] at h
    have h1 : a < nx := by have := h.1.1.1.1.2; rwa [Nat.blt_eq] at this
    simp only [ren, beq_ne (show a ≠ i by omega), cond_false]
    exact ren_high h.2 hn hi

theorem ren_cases {n N nx : Nat} : ∀ {l : List (Nat × Nat)}, renOK n N nx l = true → ∀ (i : Nat), (∃ b, (i, b) ∈ l ∧ ren n N l i = b) ∨ (i < n ∧ ren n N l i = i) ∨ (n ≤ i ∧ ren n N l i = i + N ∧ ∀ b, (i, b) ∉ l)
  | [], _, i => by
    by_cases hi : i < n
    · have h : Nat.blt i n = true := by rw [Nat.blt_eq]; exact hi
      exact .inr (.inl ⟨hi, by simp [ren, h]⟩)
    · refine .inr (.inr ⟨by omega, ?_, by simp⟩)
      have : Nat.blt i n = false := by
        cases hb : Nat.blt i n with
        | false => rfl
        | true => rw [Nat.blt_eq] at hb; omega
      simp [ren, this]
  | (a, b) :: l, h, i => by
    simp only [renOK, Bool.and_eq_true] at h
    by_cases ha : a = i
    · subst ha; exact .inl ⟨b, by simp, by simp [ren]⟩
    · simp only [ren, beq_ne ha, cond_false]
      rcases ren_cases h.2 i with ⟨b', h1, h2⟩ | h1 | ⟨h1, h2, h3⟩
      · exact .inl ⟨b', by simp [h1], h2⟩
      · exact .inr (.inl h1)
      · refine .inr (.inr ⟨h1, h2, fun b' hb' => ?_⟩)
        simp only [List.mem_cons, Prod.mk.injEq] at hb'
        rcases hb' with ⟨h4, _⟩ | h4
        · exact ha h4.symm
        · exact h3 b' h4

theorem renOK_mem {n N nx : Nat} : ∀ {l : List (Nat × Nat)}, renOK n N nx l = true → ∀ {a b : Nat}, (a, b) ∈ l → n ≤ a ∧ n ≤ b ∧ b < N
  | (a, b) :: l, h, a', b', hm => by
    simp only [renOK, Bool.and_eq_true] at h
    simp only [List.mem_cons, Prod.mk.injEq] at hm
    rcases hm with ⟨rfl, rfl⟩ | hm
    · exact ⟨Nat.le_of_ble_eq_true h.1.1.1.1.1, Nat.le_of_ble_eq_true h.1.1.1.2, by have := h.1.1.2; rwa [Nat.blt_eq] at this⟩
    · exact renOK_mem h.2 hm

theorem renOK_inj {n N nx : Nat} : ∀ {l : List (Nat × Nat)}, renOK n N nx l = true → ∀ {a a' b : Nat}, (a, b) ∈ l → (a', b) ∈ l → a = a'
  | (c, d) :: l, h, a, a', b, h1, h2 => by
    simp only [renOK, Bool.and_eq_true] at h
    have h3 : ∀ p ∈ l, p.1 ≠ c ∧ p.2 ≠ d := by
      intro p hp
      have := h.1.2
      simp only [Bool.not_eq_true', List.any_eq_false, Bool.or_eq_true, not_or] at this
      obtain ⟨h4, h5⟩ := this p hp
      exact ⟨fun e => h4 (by rw [e]; exact beq_self c), fun e => h5 (by rw [e]; exact beq_self d)⟩
    simp only [List.mem_cons, Prod.mk.injEq] at h1 h2
    rcases h1 with ⟨rfl, rfl⟩ | h1 <;> rcases h2 with ⟨rfl, h2⟩ | h2
    · rfl
    · exact absurd rfl (h3 _ h2).2
    · subst h2; exact absurd rfl (h3 _ h1).2
    · exact renOK_inj h.2 h1 h2

theorem ren_inj {n N nx : Nat} {l : List (Nat × Nat)} (h : renOK n N nx l = true) (hn : n ≤ N) {i j : Nat} (he : ren n N l i = ren n N l j) : i = j := by
  rcases ren_cases h i with ⟨b, h1, h2⟩ | ⟨h1, h2⟩ | ⟨h1, h2, h3⟩ <;> rcases ren_cases h j with ⟨b', h4, h5⟩ | ⟨h4, h5⟩ | ⟨h4, h5, h6⟩
  · rw [h2, h5] at he; subst he; exact renOK_inj h h1 h4
  · have := renOK_mem h h1; omega
  · have := renOK_mem h h1; omega
  · have := renOK_mem h h4; omega
  · omega
  · omega
  · have := renOK_mem h h4; omega
  · omega
  · omega

theorem le_mk {E : Env} {s s' : St} (l : List (Nat × Nat)) (hl : renOK E.n0 s.nx s'.nx l = true) (hz : ∀ id, E.n0 ≤ id → E.ρ0 id = none) (hn : E.n0 ≤ s'.nx)
    (ht : AllT (fun i v' => ∃ v, tget s.t i = some v ∧ Cv (hget s.h) (fun id => ∀ id', (hget s'.h id').isSome = true → ren E.n0 s.nx l id' ≠ id) (ren E.n0 s.nx l) v v') s'.t)
    (hh : AllH (fun id x' => ∃ x, hget s.h (ren E.n0 s.nx l id) = some x ∧ CvB (hget s.h) (fun id => ∀ id', (hget s'.h id').isSome = true → ren E.n0 s.nx l id' ≠ id) (ren E.n0 s.nx l) x x') s'.h) : Le E s s' := by
  intro ρ a w hR
  have hlive : ∀ id, (hget s'.h id).isSome = true → (hget s.h (ren E.n0 s.nx l id)).isSome = true := by
    intro id hi
    obtain ⟨x', hx'⟩ := Option.isSome_iff_exists.1 hi
    obtain ⟨x, hx, _⟩ := hh.get hx'
    simp [hx]
  have hown : ∀ b, own (fun i => ρ (ren E.n0 s.nx l i)) (hget s'.h) b → own ρ (hget s.h) b := fun b ⟨id, h1, h2⟩ => ⟨_, hlive id h1, h2⟩
  have hs : Shrinks E.F w ρ (hget s.h) (fun id => ∀ id', (hget s'.h id').isSome = true → ren E.n0 s.nx l id' ≠ id) (own (fun i => ρ (ren E.n0 s.nx l i)) (hget s'.h)) := by
    refine ⟨hR.hp, hown, ?_⟩
    rintro id b hlv hd hb ⟨id', h1, h2⟩
    exact hd id' h1 (hR.hp.inj _ _ b (hlive id' h1) hlv h2 hb)
  refine ⟨fun i => ρ (ren E.n0 s.nx l i), ⟨fun i v' hi => ?_, ⟨fun id x' hx' => ?_, fun b hb => ⟨(hR.hp.far b hb).1, fun ho => (hR.hp.far b hb).2 (hown b ho)⟩, fun id id' b h1 h2 h3 h4 => ?_, hR.hp.gl.sub fun b hb => hb.imp (hown b) id⟩, fun id hid => ?_, ⟨hR.ext.os, hR.ext.tape, hR.ext.output, hR.ext.size, fun b hb ho => ?_, hR.ext.row, fun id b hb => ?_⟩, fun id b h1 h2 => ?_, hn, hR.df.mono hown, hR.sz⟩⟩
  · obtain ⟨v, h1, h2⟩ := ht.get hi
    obtain ⟨u, h3, h4⟩ := hR.tm i v h1
    exact ⟨u, h3, h2.rep hs h4⟩
  · obtain ⟨x, h1, h2⟩ := hh.get hx'
    obtain ⟨n, h3, h4⟩ := hR.hp.blk _ x h1
    refine ⟨n, h3, ?_⟩
    cases n with
    | zero =>
      obtain ⟨e, k, rfl⟩ := h4
      cases h2
      exact ⟨e, k, rfl⟩
    | succ b => exact h2.rep hs h4
  · exact ren_inj hl hR.n0 (hR.hp.inj _ _ b (hlive id h1) (hlive id' h2) h3 h4)
  · exact hR.fr _ (ren_high hl hn hid)
  · obtain ⟨h1, h2⟩ := hR.ext.same b hb ho
    exact ⟨h1, fun h' => h2 (hown b h')⟩
  · have h0 : id < E.n0 := by
      rcases Nat.lt_or_ge id E.n0 with h | h
      · exact h
      · rw [hz id h] at hb; cases hb
    show ρ (ren E.n0 s.nx l id) = some b
    rw [ren_low hl h0]
    exact hR.ext.names id b hb
  · exact hR.old _ b (hlive id h1) h2
end Go.Uw
