/- The heap of the call's own: a new block, a block written, a block let go. Own work. -/
import Derived.Test.YtkcjomglcjhkgaaDoorUwB
set_option linter.unusedVariables false
set_option linter.unusedSimpArgs false
set_option linter.unusedVariables false
namespace Go.Uw
open Go

section
variable {F : Nat → Prop} {w : World} {ρ : Names} {h : Nat → Option Blk}

theorem beq_ne {i j : Nat} (hij : i ≠ j) : Nat.beq i j = false := by
  cases hb : Nat.beq i j with
  | false => rfl
  | true => exact absurd (Nat.eq_of_beq_eq_true hb) hij
theorem beq_self (i : Nat) : Nat.beq i i = true := Nat.beq_refl i

theorem happ1_same {n : Nat} {x : Option Blk} : happ [(n, x)] h n = x := by simp [happ]
theorem happ1_other {n i : Nat} {x : Option Blk} (hi : n ≠ i) : happ [(n, x)] h i = h i := by simp [happ, beq_ne hi]

def rput (ρ : Names) (n m : Nat) : Names := fun i => bif Nat.beq n i then some m else ρ i
theorem rput_same {n m : Nat} : rput ρ n m n = some m := by simp [rput]
theorem rput_other {n m i : Nat} (hi : n ≠ i) : rput ρ n m i = ρ i := by simp [rput, beq_ne hi]

theorem HR.lt (hh : HR F w ρ h) {id b : Nat} {x : Blk} (hx : h id = some x) (hb : ρ id = some (b + 1)) : b < w.heap.size := by
  obtain ⟨n, h1, h2⟩ := hh.blk id x hx
  rw [hb] at h1
  cases h1
  simp only at h2
  cases x <;> simp only [Blk.rep] at h2
  · obtain ⟨vs, _, h3, _⟩ := h2; exact (Array.getElem?_eq_some_iff.1 h3).1
  · obtain ⟨c, h3, _⟩ := h2; exact (Array.getElem?_eq_some_iff.1 h3).1

theorem Blk.row {own : Nat → Prop} {b : Nat} {x : Blk} (h : x.rep w own ρ b) : ∃ (c : Array Value) (e : TypeId), w.heap[b]? = some (.cells c e (0, 0)) := by
  cases x <;> simp only [Blk.rep] at h
  · obtain ⟨vs, _, h3, _⟩ := h; exact ⟨_, _, h3⟩
  · obtain ⟨c, h3, _⟩ := h; exact ⟨_, _, h3⟩

/-- A new row of cells under a new name. -/
theorem Out.new (hh : HR F w ρ h) {n : Nat} (hn : ρ n = none) {vs : Array Value} {e : TypeId} {x : Blk} {v : AV} {u : Value}
    (hx : ∀ own' ρ', Ext w (sh F (own ρ h)) ρ (w.alloc (.cells vs e (0, 0))) own' ρ' → x.rep (w.alloc (.cells vs e (0, 0))) own' ρ' w.heap.size)
    (hv : ∀ own' ρ', Ext w (sh F (own ρ h)) ρ (w.alloc (.cells vs e (0, 0))) own' ρ' → ρ' n = some (w.heap.size + 1) → v.rep (w.alloc (.cells vs e (0, 0))) own' ρ' u) :
    Out F w ρ h [n] v [(n, some x)] (w.alloc (.cells vs e (0, 0))) u := by
  have hlive : ∀ id, (h id).isSome = true → id ≠ n := by
    rintro id hi rfl
    obtain ⟨y, hy⟩ := Option.isSome_iff_exists.1 hi
    obtain ⟨m, hm, _⟩ := hh.blk id y hy
    rw [hn] at hm; cases hm
  have hown : ∀ b, own (rput ρ n (w.heap.size + 1)) (happ [(n, some x)] h) b → own ρ h b ∨ b = w.heap.size := by
    rintro b ⟨id, h1, h2⟩
    by_cases hid : n = id
    · subst hid; rw [rput_same] at h2; right; simpa using h2.symm
    · rw [happ1_other hid] at h1; rw [rput_other hid] at h2; exact .inl ⟨id, h1, h2⟩
  have hE : Ext w (own ρ h) ρ (w.alloc (.cells vs e (0, 0))) (own (rput ρ n (w.heap.size + 1)) (happ [(n, some x)] h)) (rput ρ n (w.heap.size + 1)) := by
    refine ⟨rfl, rfl, rfl, by simp, fun b hb ho => ⟨heap_alloc_old w _ hb, fun h' => ?_⟩, fun b c e' hc => ⟨c, ?_, rfl⟩, fun id b hb => ?_⟩
    · rcases hown b h' with h1 | h1
      · exact ho h1
      · omega
    · obtain ⟨fz, hc⟩ := hc; exact ⟨fz, by rw [heap_alloc_old w _ (Array.getElem?_eq_some_iff.1 hc).1]; exact hc⟩
    · rw [rput_other]; exact hb
      rintro rfl; rw [hn] at hb; cases hb
  refine ⟨rput ρ n (w.heap.size + 1), ⟨fun id y hy => ?_, fun b hb => ⟨by have := (hh.far b hb).1; simp; omega, fun ho => ?_⟩, fun id id' b h1 h2 h3 h4 => ?_, hh.gl.ext hE.sh⟩, hv _ _ hE.sh rput_same, hE, fun id hid => rput_other (by simpa using Ne.symm (by simpa using hid)), fun id b h1 h2 => ?_⟩
  · by_cases hid : n = id
    · subst hid
      rw [happ1_same] at hy; cases hy
      exact ⟨_, rput_same, hx _ _ hE.sh⟩
    · rw [happ1_other hid] at hy
      obtain ⟨m, hm, hr⟩ := hh.blk id y hy
      refine ⟨m, by rw [rput_other hid]; exact hm, ?_⟩
      cases m with
      | zero => exact hr
      | succ b => exact Blk.rep_ext hE.sh (heap_alloc_old w _ (hh.lt hy hm)) y hr
  · rcases hown b ho with h1 | h1
    · exact (hh.far b hb).2 h1
    · have := (hh.far b hb).1; omega
  · by_cases hid : n = id
    · by_cases hid' : n = id'
      · exact hid.symm.trans hid'
      · subst hid
        rw [rput_same] at h3; rw [rput_other hid'] at h4; rw [happ1_other hid'] at h2
        obtain ⟨y, hy⟩ := Option.isSome_iff_exists.1 h2
        have := hh.lt hy h4
        simp at h3; omega
    · by_cases hid' : n = id'
      · subst hid'
        rw [rput_same] at h4; rw [rput_other hid] at h3; rw [happ1_other hid] at h1
        obtain ⟨y, hy⟩ := Option.isSome_iff_exists.1 h1
        have := hh.lt hy h3
        simp at h4; omega
      · rw [happ1_other hid] at h1; rw [happ1_other hid'] at h2; rw [rput_other hid] at h3; rw [rput_other hid'] at h4
        exact hh.inj id id' b h1 h2 h3 h4
  · by_cases hid : n = id
    · subst hid; rw [rput_same] at h2; right; simp at h2; omega
    · rw [happ1_other hid] at h1; rw [rput_other hid] at h2; exact .inl ⟨id, h1, h2⟩

/-- A row of the call's own, written. -/
theorem Out.set (hh : HR F w ρ h) {id b : Nat} {x0 x : Blk} (hid : h id = some x0) (hb : ρ id = some (b + 1)) {c c' : Array Value} {e : TypeId}
    (hc : w.heap[b]? = some (.cells c e (0, 0))) (hs : c'.size = c.size) {v : AV} {u : Value}
    (hx : ∀ own' ρ', Ext w (sh F (own ρ h)) ρ (w.setRow b c') own' ρ' → x.rep (w.setRow b c') own' ρ' b)
    (hv : ∀ own' ρ', Ext w (sh F (own ρ h)) ρ (w.setRow b c') own' ρ' → v.rep (w.setRow b c') own' ρ' u) :
    Out F w ρ h [] v [(id, some x)] (w.setRow b c') u := by
  have hlive : ∀ i, (happ [(id, some x)] h i).isSome = true → (h i).isSome = true := by
    intro i hi
    by_cases hij : id = i
    · subst hij; simp [hid]
    · rwa [happ1_other hij] at hi
  have hlive' : ∀ i, (h i).isSome = true → (happ [(id, some x)] h i).isSome = true := by
    intro i hi
    by_cases hij : id = i
    · subst hij; simp [happ1_same]
    · rwa [happ1_other hij]
  have hown : ∀ b', own ρ (happ [(id, some x)] h) b' → own ρ h b' := fun b' ⟨i, h1, h2⟩ => ⟨i, hlive i h1, h2⟩
  have hob : own ρ h b := ⟨id, by simp [hid], hb⟩
  have hE : Ext w (own ρ h) ρ (w.setRow b c') (own ρ (happ [(id, some x)] h)) ρ := by
    refine ⟨rfl, rfl, rfl, by simp, fun b' hb' ho => ⟨setRow_other w b b' c' (fun e => ho (e ▸ hob)), fun h' => ho (hown _ h')⟩, fun b' c1 e1 hc1 => ?_, fun i b' hb' => hb'⟩
    by_cases hbb : b' = b
    · subst hbb
      obtain ⟨fz, hc1⟩ := hc1
      rw [hc] at hc1; cases hc1
      exact ⟨c', ⟨_, setRow_heap w b' c c' e (0, 0) hc⟩, hs⟩
    · exact ⟨c1, by rw [setRow_other w b b' c' hbb]; exact hc1, rfl⟩
  refine ⟨ρ, ⟨fun i y hy => ?_, fun b' hb' => ⟨by have := (hh.far b' hb').1; simpa using this, fun ho => (hh.far b' hb').2 (hown b' ho)⟩, fun i i' b' h1 h2 => hh.inj i i' b' (hlive i h1) (hlive i' h2), hh.gl.ext hE.sh⟩, hv _ _ hE.sh, hE, fun _ _ => rfl, fun i b' h1 h2 => .inl ⟨i, hlive i h1, h2⟩⟩
  by_cases hij : id = i
  · subst hij
    rw [happ1_same] at hy; cases hy
    exact ⟨_, hb, hx _ _ hE.sh⟩
  · rw [happ1_other hij] at hy
    obtain ⟨m, hm, hr⟩ := hh.blk i y hy
    refine ⟨m, hm, ?_⟩
    cases m with
    | zero => exact hr
    | succ b' =>
      refine Blk.rep_ext hE.sh (setRow_other w b b' c' fun e => hij ?_) y hr
      subst e
      exact hh.inj id i b' (by simp [hid]) (by simp [hy]) hb hm

/-- From a step that yields one value to the operation. -/
theorem LTr.of_run {P : Program} {o : Oper} {T : List (Nat × AV)} {H : List (Nat × Blk)} {nid : List Nat} {v : AV} {puts : List (Nat × Option Blk)}
    (hr : ∀ (F : Nat → Prop) (ρ : Names) (h : Nat → Option Blk) (a : Act) (w : World), HR F w ρ h → (∀ p ∈ H, h p.1 = some p.2) → (∀ id ∈ nid, ρ id = none) → TR T a w (sh F (own ρ h)) ρ →
      ∃ u w', ((execOp a.eval o).run P w = .ok (.value u) w' ∨ (u = undef ∧ (execOp a.eval o).run P w = .ok .skip w')) ∧ Out F w ρ h nid v puts w' u) : LTr P o T H nid v puts := by
  intro F ρ h a w next Q hh hH hn hT hk
  obtain ⟨u, w', h1, h2⟩ := hr F ρ h a w hh hH hn hT
  unfold Oper.wp
  rcases h1 with h1 | ⟨rfl, h1⟩ <;> rw [h1] <;> exact hk _ w' h2
end

/-! ### lists of cells -/
section
variable {w : World} {own : Nat → Prop} {ρ : Names}

theorem repL_length : ∀ {l : List AV} {vs : List Value}, repL w own ρ l vs → vs.length = l.length
  | [], vs, h => by simp only [repL] at h; subst h; rfl
  | x :: xs, vs, h => by
    simp only [repL] at h
    obtain ⟨u, us, rfl, _, h2⟩ := h
    simp [repL_length h2]

theorem repL_append : ∀ {l l' : List AV} {vs vs' : List Value}, repL w own ρ l vs → repL w own ρ l' vs' → repL w own ρ (l ++ l') (vs ++ vs')
  | [], l', vs, vs', h, h' => by simp only [repL] at h; subst h; exact h'
  | x :: xs, l', vs, vs', h, h' => by
    simp only [repL] at h
    obtain ⟨u, us, rfl, h1, h2⟩ := h
    simp only [List.cons_append, repL]
    exact ⟨u, _, rfl, h1, repL_append h2 h'⟩

theorem repL_drop : ∀ {l : List AV} {vs : List Value} (n : Nat), repL w own ρ l vs → repL w own ρ (l.drop n) (vs.drop n)
  | l, vs, 0, h => by simpa using h
  | [], vs, n + 1, h => by simp only [repL] at h; subst h; simp [repL]
  | x :: xs, vs, n + 1, h => by
    simp only [repL] at h
    obtain ⟨u, us, rfl, h1, h2⟩ := h
    simpa using repL_drop n h2

theorem repL_take : ∀ {l : List AV} {vs : List Value} (n : Nat), repL w own ρ l vs → repL w own ρ (l.take n) (vs.take n)
  | l, vs, 0, h => by simp [repL]
  | [], vs, n + 1, h => by simp only [repL] at h; subst h; simp [repL]
  | x :: xs, vs, n + 1, h => by
    simp only [repL] at h
    obtain ⟨u, us, rfl, h1, h2⟩ := h
    simp only [List.take_succ_cons, repL]
    exact ⟨u, _, rfl, h1, repL_take n h2⟩

def fvs (l : List FV) : List AV := l.map .fv

theorem repL_of_repCells {b : Nat} : ∀ {l : List FV} {o : Nat}, repCells w own b o l → ∃ vs, repL w own ρ (fvs l) vs ∧ ∀ j v, vs[j]? = some v → w.cell? ⟨b, o + j, none⟩ = some v
  | [], o, h => ⟨[], by simp [fvs, repL], by simp⟩
  | x :: xs, o, h => by
    simp only [repCells] at h
    obtain ⟨⟨u, h1, _, h2⟩, h3⟩ := h
    obtain ⟨vs, h4, h5⟩ := repL_of_repCells h3
    refine ⟨u :: vs, by simp only [fvs, List.map_cons, repL, AV.rep]; exact ⟨u, vs, rfl, h2, h4⟩, fun j v hj => ?_⟩
    cases j with
    | zero => simp at hj; subst hj; exact h1
    | succ j => simp at hj; have := h5 j v hj; rwa [show o + 1 + j = o + (j + 1) by omega] at this

theorem repL_of_ownCells {b : Nat} : ∀ {l : List FV} {o : Nat}, ownCells w own b o l → ∃ vs, repL w own ρ (fvs l) vs ∧ ∀ j v, vs[j]? = some v → w.cell? ⟨b, o + j, none⟩ = some v
  | [], o, h => ⟨[], by simp [fvs, repL], by simp⟩
  | x :: xs, o, h => by
    simp only [ownCells] at h
    obtain ⟨⟨u, h1, h2⟩, h3⟩ := h
    obtain ⟨vs, h4, h5⟩ := repL_of_ownCells h3
    refine ⟨u :: vs, by simp only [fvs, List.map_cons, repL, AV.rep]; exact ⟨u, vs, rfl, h2, h4⟩, fun j v hj => ?_⟩
    cases j with
    | zero => simp at hj; subst hj; exact h1
    | succ j => simp at hj; have := h5 j v hj; rwa [show o + 1 + j = o + (j + 1) by omega] at this

theorem FV.oneCell {x : FV} {u : Value} (h : x.rep w own u) : u.oneCell' = true := by
  cases x with
  | lit v =>
    simp only [FV.rep] at h
    obtain ⟨rfl, h⟩ := h
    cases u <;> simp_all [litOK, Value.oneCell']
  | ro k rows =>
    simp only [FV.rep] at h
    obtain ⟨a, len, cap, rfl, _⟩ := h
    rfl

theorem fvs_oneCell : ∀ {l : List FV} {vs : List Value}, repL w own ρ (fvs l) vs → ∀ u ∈ vs, u.oneCell' = true
  | [], vs, h, u, hu => by simp only [fvs, List.map_nil, repL] at h; subst h; simp at hu
  | x :: xs, vs, h, u, hu => by
    simp only [fvs, List.map_cons, repL, AV.rep] at h
    obtain ⟨v, us, rfl, h1, h2⟩ := h
    rcases List.mem_cons.1 hu with rfl | hu
    · exact FV.oneCell h1
    · exact fvs_oneCell h2 u hu

def isCell : AV → Bool
  | .agg _ | .tup _ | .undef => false
  | _ => true

theorem oneCell_of {x : AV} {u : Value} (hx : isCell x = true) (h : x.rep w own ρ u) : u.oneCell' = true := by
  cases x <;> simp [isCell] at hx <;> simp only [AV.rep] at h
  · exact FV.oneCell h
  · obtain ⟨b, _, rfl⟩ := h; rfl
  · rcases h with ⟨_, _, _, rfl⟩ | ⟨b, cap, c, e, _, rfl, _⟩ <;> rfl
  · obtain ⟨a, rfl, _⟩ := h; rfl
  · obtain ⟨vs, rfl, _⟩ := h; rfl

/-- The cells that a value fills. -/
def cellsOfA : AV → List AV
  | .agg cs => cs
  | v => [v]

def cellish : AV → Bool
  | .tup _ | .undef => false
  | _ => true

theorem cellsOfA_rep {x : AV} {u : Value} (hx : cellish x = true) (h : x.rep w own ρ u) : repL w own ρ (cellsOfA x) u.cells.toList ∧ ∀ v ∈ u.cells.toList, v.oneCell' = true := by
  cases x with
  | agg cs =>
    simp only [AV.rep] at h
    obtain ⟨vs, rfl, h1, h2⟩ := h
    simp only [cellsOfA, Value.cells]
    exact ⟨by simpa using h1, by simpa using h2⟩
  | tup _ => simp [cellish] at hx
  | undef => simp [cellish] at hx
  | _ =>
    all_goals
      have h1 : u.oneCell' = true := oneCell_of rfl h
      have h2 : u.cells.toList = [u] := by cases u <;> simp_all [Value.oneCell', Value.cells]
      rw [h2]
      exact ⟨by simp only [cellsOfA, repL]; exact ⟨u, [], rfl, h, rfl⟩, by simp [h1]⟩
end
end Go.Uw
