/- The heap of the call's own: a new block, a block written, a block let go. Own work. -/
import Derived.Test.YtkcjomglcjhkgaaDoorUwB
set_option linter.unusedVariables false
set_option linter.unusedSimpArgs false
namespace Go.Uw
open Go

section
variable {F : Nat → Prop} {w : World} {ρ : Names} {h : Nat → Option Blk}

theorem beq_ne {i j : Nat} (hij : i ≠ j) : Nat.beq i j = false := by
  cases hb : Nat.beq i j with
  | false => rfl
  | true => exact absurd (Nat.eq_of_beq_eq_true hb) hij
theorem beq_self (i : Nat) : Nat.beq i i = true := Nat.beq_refl i

theorem happ1_same {n : Nat} {x : Option Blk} : happ [(n, x)] h n = x := by simp [happ]
theorem happ1_other {n i : Nat} {x : Option Blk} (hi : n ≠ i) : happ [(n, x)] h i = h i := by simp [happ, beq_ne hi]

def rput (ρ : Names) (n m : Nat) : Names := fun i => bif Nat.beq n i then some m else ρ i
theorem rput_same {n m : Nat} : rput ρ n m n = some m := by simp [rput]
theorem rput_other {n m i : Nat} (hi : n ≠ i) : rput ρ n m i = ρ i := by simp [rput, beq_ne hi]

theorem HR.lt (hh : HR F w ρ h) {id b : Nat} {x : Blk} (hx : h id = some x) (hb : ρ id = some (b + 1)) : b < w.heap.size := by
  obtain ⟨n, h1, h2⟩ := hh.blk id x hx
  rw [hb] at h1
  cases h1
  simp only at h2
  cases x <;> simp only [Blk.rep] at h2
  · obtain ⟨vs, _, h3, _⟩ := h2; exact (Array.getElem?_eq_some_iff.1 h3).1
  · obtain ⟨c, h3, _⟩ := h2; exact (Array.getElem?_eq_some_iff.1 h3).1

theorem Blk.row {own : Nat → Prop} {b : Nat} {x : Blk} (h : x.rep w own ρ b) : ∃ (c : Array Value) (e : TypeId), w.heap[b]? = some (.cells c e (0, 0)) := by
  cases x <;> simp only [Blk.rep] at h
  · obtain ⟨vs, _, h3, _⟩ := h; exact ⟨_, _, h3⟩
  · obtain ⟨c, h3, _⟩ := h; exact ⟨_, _, h3⟩

/-- A new row of cells under a new name. -/
theorem Out.new (hh : HR F w ρ h) {n : Nat} (hn : ρ n = none) {vs : Array Value} {e : TypeId} {x : Blk} {v : AV} {u : Value}
    (hx : ∀ own' ρ', Ext w (sh F (own ρ h)) ρ (w.alloc (.cells vs e (0, 0))) own' ρ' → x.rep (w.alloc (.cells vs e (0, 0))) own' ρ' w.heap.size)
    (hv : ∀ own' ρ', Ext w (sh F (own ρ h)) ρ (w.alloc (.cells vs e (0, 0))) own' ρ' → ρ' n = some (w.heap.size + 1) → v.rep (w.alloc (.cells vs e (0, 0))) own' ρ' u) :
    Out F w ρ h [n] v [(n, some x)] (w.alloc (.cells vs e (0, 0))) u := by
  have hlive : ∀ id, (h id).isSome = true → id ≠ n := by
    rintro id hi rfl
    obtain ⟨y, hy⟩ := Option.isSome_iff_exists.1 hi
    obtain ⟨m, hm, _⟩ := hh.blk id y hy
    rw [hn] at hm; cases hm
  have hown : ∀ b, own (rput ρ n (w.heap.size + 1)) (happ [(n, some x)] h) b → own ρ h b ∨ b = w.heap.size := by
    rintro b ⟨id, h1, h2⟩
    by_cases hid : n = id
    · subst hid; rw [rput_same] at h2; right; simpa using h2.symm
    · rw [happ1_other hid] at h1; rw [rput_other hid] at h2; exact .inl ⟨id, h1, h2⟩
  have hE : Ext w (own ρ h) ρ (w.alloc (.cells vs e (0, 0))) (own (rput ρ n (w.heap.size + 1)) (happ [(n, some x)] h)) (rput ρ n (w.heap.size + 1)) := by
    refine ⟨rfl, rfl, rfl, by simp, fun b hb ho => ⟨heap_alloc_old w _ hb, fun h' => ?_⟩, fun b c e' hc => ⟨c, ?_, rfl⟩, fun id b hb => ?_⟩
    · rcases hown b h' with h1 | h1
      · exact ho h1
      · omega
    · obtain ⟨fz, hc⟩ := hc; exact ⟨fz, by rw [heap_alloc_old w _ (Array.getElem?_eq_some_iff.1 hc).1]; exact hc⟩
    · rw [rput_other]; exact hb
      rintro rfl; rw [hn] at hb; cases hb
  refine ⟨rput ρ n (w.heap.size + 1), ⟨fun id y hy => ?_, fun b hb => ⟨by have := (hh.far b hb).1; simp; omega, fun ho => ?_⟩, fun id id' b h1 h2 h3 h4 => ?_, hh.gl.ext hE.sh⟩, hv _ _ hE.sh rput_same, hE, fun id hid => rput_other (by simpa using Ne.symm (by simpa using hid)), fun id b h1 h2 => ?_⟩
  · by_cases hid : n = id
    · subst hid
      rw [happ1_same] at hy; cases hy
      exact ⟨_, rput_same, hx _ _ hE.sh⟩
    · rw [happ1_other hid] at hy
      obtain ⟨m, hm, hr⟩ := hh.blk id y hy
      refine ⟨m, by rw [rput_other hid]; exact hm, ?_⟩
      cases m with
      | zero => exact hr
      | succ b => exact Blk.rep_ext hE.sh (heap_alloc_old w _ (hh.lt hy hm)) y hr
  · rcases hown b ho with h1 | h1
    · exact (hh.far b hb).2 h1
    · have := (hh.far b hb).1; omega
  · by_cases hid : n = id
    · by_cases hid' : n = id'
      · exact hid.symm.trans hid'
      · subst hid
        rw [rput_same] at h3; rw [rput_other hid'] at h4; rw [happ1_other hid'] at h2
        obtain ⟨y, hy⟩ := Option.isSome_iff_exists.1 h2
        have := hh.lt hy h4
        simp at h3; omega
    · by_cases hid' : n = id'
      · subst hid'
        rw [rput_same] at h4; rw [rput_other hid] at h3; rw [happ1_other hid] at h1
        obtain ⟨y, hy⟩ := Option.isSome_iff_exists.1 h1
        have := hh.lt hy h3
        simp at h4; omega
      · rw [happ1_other hid] at h1; rw [happ1_other hid'] at h2; rw [rput_other hid] at h3; rw [rput_other hid'] at h4
        exact hh.inj id id' b h1 h2 h3 h4
  · by_cases hid : n = id
    · subst hid; rw [rput_same] at h2; right; simp at h2; omega
    · rw [happ1_other hid] at h1; rw [rput_other hid] at h2; exact .inl ⟨id, h1, h2⟩

/-- A row of the call's own, written. -/
theorem Out.set (hh : HR F w ρ h) {id b : Nat} {x0 x : Blk} (hid : h id = some x0) (hb : ρ id = some (b + 1)) {c c' : Array Value} {e : TypeId}
    (hc : w.heap[b]? = some (.cells c e (0, 0))) (hs : c'.size = c.size) {v : AV} {u : Value}
    (hx : ∀ own' ρ', Ext w (sh F (own ρ h)) ρ (w.setRow b c') own' ρ' → x.rep (w.setRow b c') own' ρ' b)
    (hv : ∀ own' ρ', Ext w (sh F (own ρ h)) ρ (w.setRow b c') own' ρ' → v.rep (w.setRow b c') own' ρ' u) :
    Out F w ρ h [] v [(id, some x)] (w.setRow b c') u := by
  have hlive : ∀ i, (happ [(id, some x)] h i).isSome = true → (h i).isSome = true := by
    intro i hi
    by_cases hij : id = i
    · subst hij; simp [hid]
    · rwa [happ1_other hij] at hi
  have hlive' : ∀ i, (h i).isSome = true → (happ [(id, some x)] h i).isSome = true := by
    intro i hi
    by_cases hij : id = i
    · subst hij; simp [happ1_same]
    · rwa [happ1_other hij]
  have hown : ∀ b', own ρ (happ [(id, some x)] h) b' → own ρ h b' := fun b' ⟨i, h1, h2⟩ => ⟨i, hlive i h1, h2⟩
  have hob : own ρ h b := ⟨id, by simp [hid], hb⟩
  have hE : Ext w (own ρ h) ρ (w.setRow b c') (own ρ (happ [(id, some x)] h)) ρ := by
    refine ⟨rfl, rfl, rfl, by simp, fun b' hb' ho => ⟨setRow_other w b b' c' (fun e => ho (e ▸ hob)), fun h' => ho (hown _ h')⟩, fun b' c1 e1 hc1 => ?_, fun i b' hb' => hb'⟩
    by_cases hbb : b' = b
    · subst hbb
      obtain ⟨fz, hc1⟩ := hc1
      rw [hc] at hc1; cases hc1
      exact ⟨c', ⟨_, setRow_heap w b' c c' e (0, 0) hc⟩, hs⟩
    · exact ⟨c1, by rw [setRow_other w b b' c' hbb]; exact hc1, rfl⟩
  refine ⟨ρ, ⟨fun i y hy => ?_, fun b' hb' => ⟨by have := (hh.far b' hb').1; simpa using this, fun ho => (hh.far b' hb').2 (hown b' ho)⟩, fun i i' b' h1 h2 => hh.inj i i' b' (hlive i h1) (hlive i' h2), hh.gl.ext hE.sh⟩, hv _ _ hE.sh, hE, fun _ _ => rfl, fun i b' h1 h2 => .inl ⟨i, hlive i h1, h2⟩⟩
  by_cases hij : id = i
  · subst hij
    rw [happ1_same] at hy; cases hy
    exact ⟨_, hb, hx _ _ hE.sh⟩
  · rw [happ1_other hij] at hy
    obtain ⟨m, hm, hr⟩ := hh.blk i y hy
    refine ⟨m, hm, ?_⟩
    cases m with
    | zero => exact hr
    | succ b' =>
      refine Blk.rep_ext hE.sh (setRow_other w b b' c' fun e => hij ?_) y hr
      subst e
      exact hh.inj id i b' (by simp [hid]) (by simp [hy]) hb hm

/-- From a step that yields one value to the operation. -/
theorem LTr.of_run {P : Program} {o : Oper} {T : List (Nat × AV)} {H : List (Nat × Blk)} {nid : List Nat} {v : AV} {puts : List (Nat × Option Blk)}
    (hr : ∀ (F : Nat → Prop) (ρ : Names) (h : Nat → Option Blk) (a : Act) (w : World), HR F w ρ h → (∀ p ∈ H, h p.1 = some p.2) → (∀ id ∈ nid, ρ id = none) → TR T a w (sh F (own ρ h)) ρ →
      ∃ u w', ((execOp a.eval o).run P w = .ok (.value u) w' ∨ (u = undef ∧ (execOp a.eval o).run P w = .ok .skip w')) ∧ Out F w ρ h nid v puts w' u) : LTr P o T H nid v puts := by
  intro rd F ρ h a w next Q hh hH hn hT hk
  obtain ⟨u, w', h1, h2⟩ := hr F ρ h a w hh hH hn hT
  rcases h1 with h1 | ⟨rfl, h1⟩
  · exact Wp.value h1 (hk _ w' h2)
  · exact Wp.skip h1 (hk _ w' h2)
end

/-! ### lists of cells -/
section
variable {w : World} {own : Nat → Prop} {ρ : Names}

theorem repL_length : ∀ {l : List AV} {vs : List Value}, repL w own ρ l vs → vs.length = l.length
  | [], vs, h => by simp only [repL] at h; subst h; rfl
  | x :: xs, vs, h => by
    simp only [repL] at h
    obtain ⟨u, us, rfl, _, h2⟩ := h
    simp [repL_length h2]

theorem repL_append : ∀ {l l' : List AV} {vs vs' : List Value}, repL w own ρ l vs → repL w own ρ l' vs' → repL w own ρ (l ++ l') (vs ++ vs')
  | [], l', vs, vs', h, h' => by simp only [repL] at h; subst h; exact h'
  | x :: xs, l', vs, vs', h, h' => by
    simp only [repL] at h
    obtain ⟨u, us, rfl, h1, h2⟩ := h
    simp only [List.cons_append, repL]
    exact ⟨u, _, rfl, h1, repL_append h2 h'⟩

theorem repL_drop : ∀ {l : List AV} {vs : List Value} (n : Nat), repL w own ρ l vs → repL w own ρ (l.drop n) (vs.drop n)
  | l, vs, 0, h => by simpa using h
  | [], vs, n + 1, h => by simp only [repL] at h; subst h; simp [repL]
  | x :: xs, vs, n + 1, h => by
    simp only [repL] at h
    obtain ⟨u, us, rfl, h1, h2⟩ := h
    simpa using repL_drop n h2

theorem repL_take : ∀ {l : List AV} {vs : List Value} (n : Nat), repL w own ρ l vs → repL w own ρ (l.take n) (vs.take n)
  | l, vs, 0, h => by simp [repL]
  | [], vs, n + 1, h => by simp only [repL] at h; subst h; simp [repL]
  | x :: xs, vs, n + 1, h => by
    simp only [repL] at h
    obtain ⟨u, us, rfl, h1, h2⟩ := h
    simp only [List.take_succ_cons, repL]
    exact ⟨u, _, rfl, h1, repL_take n h2⟩

def fvs (l : List FV) : List AV := l.map .fv

theorem repL_of_repCells {b : Nat} : ∀ {l : List FV} {o : Nat}, repCells w own b o l → ∃ vs, repL w own ρ (fvs l) vs ∧ ∀ j v, vs[j]? = some v → w.cell? ⟨b, o + j, none⟩ = some v
  | [], o, h => ⟨[], by simp [fvs, repL], by simp⟩
  | x :: xs, o, h => by
    simp only [repCells] at h
    obtain ⟨⟨u, h1, _, h2⟩, h3⟩ := h
    obtain ⟨vs, h4, h5⟩ := repL_of_repCells h3
    refine ⟨u :: vs, by simp only [fvs, List.map_cons, repL, AV.rep]; exact ⟨u, vs, rfl, h2, h4⟩, fun j v hj => ?_⟩
    cases j with
    | zero => simp at hj; subst hj; exact h1
    | succ j => simp at hj; have := h5 j v hj; rwa [show o + 1 + j = o + (j + 1) by omega] at this

theorem repL_of_ownCells {b : Nat} : ∀ {l : List FV} {o : Nat}, ownCells w own b o l → ∃ vs, repL w own ρ (fvs l) vs ∧ ∀ j v, vs[j]? = some v → w.cell? ⟨b, o + j, none⟩ = some v
  | [], o, h => ⟨[], by simp [fvs, repL], by simp⟩
  | x :: xs, o, h => by
    simp only [ownCells] at h
    obtain ⟨⟨u, h1, h2⟩, h3⟩ := h
    obtain ⟨vs, h4, h5⟩ := repL_of_ownCells h3
    refine ⟨u :: vs, by simp only [fvs, List.map_cons, repL, AV.rep]; exact ⟨u, vs, rfl, h2, h4⟩, fun j v hj => ?_⟩
    cases j with
    | zero => simp at hj; subst hj; exact h1
    | succ j => simp at hj; have := h5 j v hj; rwa [show o + 1 + j = o + (j + 1) by omega] at this

theorem FV.oneCell {x : FV} {u : Value} (h : x.rep w own u) : u.oneCell' = true := by
  cases x with
  | lit v =>
    simp only [FV.rep] at h
    obtain ⟨rfl, h⟩ := h
    cases u <;> simp_all [litOK, Value.oneCell']
  | ro k rows =>
    simp only [FV.rep] at h
    obtain ⟨a, len, cap, rfl, _⟩ := h
    rfl

theorem fvs_oneCell : ∀ {l : List FV} {vs : List Value}, repL w own ρ (fvs l) vs → ∀ u ∈ vs, u.oneCell' = true
  | [], vs, h, u, hu => by simp only [fvs, List.map_nil, repL] at h; subst h; simp at hu
  | x :: xs, vs, h, u, hu => by
    simp only [fvs, List.map_cons, repL, AV.rep] at h
    obtain ⟨v, us, rfl, h1, h2⟩ := h
    rcases List.mem_cons.1 hu with rfl | hu
    · exact FV.oneCell h1
    · exact fvs_oneCell h2 u hu

def isCell : AV → Bool
  | .agg _ | .tup _ | .undef | .top => false
  | _ => true

theorem oneCell_of {x : AV} {u : Value} (hx : isCell x = true) (h : x.rep w own ρ u) : u.oneCell' = true := by
  cases x <;> simp [isCell] at hx <;> simp only [AV.rep] at h
  · exact FV.oneCell h
  · obtain ⟨b, _, rfl⟩ := h; rfl
  · rcases h with ⟨_, _, _, rfl⟩ | ⟨b, cap, c, e, _, rfl, _⟩ <;> rfl
  · obtain ⟨a, rfl, _⟩ := h; rfl
  · obtain ⟨vs, rfl, _⟩ := h; rfl

/-- The cells that a value fills. -/
def cellsOfA : AV → List AV
  | .agg cs => cs
  | v => [v]

def cellish : AV → Bool
  | .tup _ | .undef | .top => false
  | _ => true

theorem cellsOfA_rep {x : AV} {u : Value} (hx : cellish x = true) (h : x.rep w own ρ u) : repL w own ρ (cellsOfA x) u.cells.toList ∧ ∀ v ∈ u.cells.toList, v.oneCell' = true := by
  cases x with
  | agg cs =>
    simp only [AV.rep] at h
    obtain ⟨vs, rfl, h1, h2⟩ := h
    simp only [cellsOfA, Value.cells]
    exact ⟨by simpa using h1, by simpa using h2⟩
  | tup _ => simp [cellish] at hx
  | undef => simp [cellish] at hx
  | top => simp [cellish] at hx
  | _ =>
    all_goals
      have h1 : u.oneCell' = true := oneCell_of rfl h
      have h2 : u.cells.toList = [u] := by cases u <;> simp_all [Value.oneCell', Value.cells]
      rw [h2]
      exact ⟨by simp only [cellsOfA, repL]; exact ⟨u, [], rfl, h, rfl⟩, by simp [h1]⟩
end
end Go.Uw
namespace Go.Uw
open Go

/-! ### facts on types, as closed questions -/
def fldB (P : Program) (T j : Nat) : Option Nat :=
  match P.underlying T with
  | some (.struct fs) => match fs[j]? with
    | some f => match P.info? f.type with
      | some i => if i.size = 0 then none else some f.offset
      | none => none
    | none => none
  | _ => none

def aggB (d : TypeDesc) : Bool := match d with | .struct _ | .array _ _ => true | _ => false

/-- is it a struct or an array? its cells, its bytes -/
def tyB (P : Program) (T : Nat) : Option (Bool × Nat × Nat) :=
  match P.underlying T, P.info? T with
  | some d, some i => some (aggB d, i.size, i.bytes)
  | _, _ => none

def zeroB (P : Program) (T : Nat) : Option (List Value) :=
  match P.info? T with
  | some i => match i.zero with
    | some z => if z.cells.size = i.size ∧ z.cells.toList.all (litOKb ·) = true then some z.cells.toList else none
    | none => none
  | none => none

def slB (P : Program) (T : Nat) : Option Nat :=
  match P.underlying T with
  | some (.slice e) => some e
  | _ => none

def arB (P : Program) (T : Nat) : Option (Nat × Nat) :=
  match P.underlying T with
  | some (.array n e) => some (n, e)
  | _ => none

section
variable {P : Program} {w : World}

theorem slB_spec {T e : Nat} (h : slB P T = some e) : P.underlying T = some (.slice e) := by
  unfold slB at h; split at h <;> simp_all
theorem arB_spec {T n e : Nat} (h : arB P T = some (n, e)) : P.underlying T = some (.array n e) := by
  unfold arB at h; split at h <;> simp_all
theorem tyB_spec {T : Nat} {g : Bool} {k n : Nat} (h : tyB P T = some (g, k, n)) : ∃ d i, P.underlying T = some d ∧ P.info? T = some i ∧ aggB d = g ∧ i.size = k ∧ i.bytes = n := by
  unfold tyB at h; split at h
  · rename_i d i h1 h2; simp at h; exact ⟨d, i, h1, h2, h.1, h.2.1, h.2.2⟩
  · simp at h
theorem zeroB_spec {T : Nat} {zs : List Value} (h : zeroB P T = some zs) : ∃ i z, P.info? T = some i ∧ i.zero = some z ∧ z.cells = zs.toArray ∧ zs.length = i.size ∧ ∀ v ∈ zs, litOK v := by
  unfold zeroB at h
  split at h
  · rename_i i h1
    split at h
    · rename_i z h2
      split at h
      · rename_i h3
        simp only [Option.some.injEq] at h
        subst h
        exact ⟨i, z, h1, h2, by simp, by simpa using h3.1, fun v hv => litOK_of_b (List.all_eq_true.1 h3.2 v hv)⟩
      · simp at h
    · simp at h
  · simp at h

theorem add_none {b o n : Nat} : (⟨b, o, none⟩ : Addr).add n = ⟨b, o + n, none⟩ := by
  unfold Addr.add; split <;> simp_all

theorem run_fieldAt {T j off b o : Nat} (hf : fldB P T j = some off) : (Instr.fieldAt T (.pointer (some ⟨b, o, none⟩)) j).run P w = .ok (.pointer (some ⟨b, o + off, none⟩)) w := by
  unfold fldB at hf
  split at hf
  · rename_i fs h1
    split at hf
    · rename_i f h2
      split at hf
      · rename_i i h3
        split at hf
        · simp at hf
        · rename_i h4
          simp at hf
          subst hf
          simp [Instr.fieldAt, run_underlying h1, h2, Instr.sureAddr, fieldPlace, sizeOf, typeInfo, h3, h4, add_none]
      · simp at hf
    · simp at hf
  · simp at hf

theorem run_isAgg {T : Nat} {d : TypeDesc} (h : P.underlying T = some d) : (isAgg T).run P w = .ok (aggB d) w := by
  simp only [isAgg, Sem.run_bind, run_underlying h, Result.andThen_ok]
  cases d <;> rfl

theorem run_loadAt_agg {T k n b o : Nat} (ht : tyB P T = some (true, k, n)) {vs : List Value} (hl : vs.length = k) (hc : ∀ j v, vs[j]? = some v → w.cell? ⟨b, o + j, none⟩ = some v) :
    (Instr.loadAt T (.pointer (some ⟨b, o, none⟩))).run P w = .ok (.agg vs.toArray) w := by
  obtain ⟨d, i, h1, h2, h3, h4, h5⟩ := tyB_spec ht
  have hL : (loadCells ⟨b, o, none⟩ i.size).run P w = .ok vs.toArray w := by
    rw [h4, ← hl]
    exact run_loadCells_list w _ vs (fun j v hv => by rw [add_none]; exact hc j v hv)
  simp [Instr.loadAt, Instr.sureAddr, loadVar, run_isAgg h1, h3, sizeOf, typeInfo, h2, hL]

theorem run_loadAt_one {T k n b o : Nat} (ht : tyB P T = some (false, k, n)) {v : Value} (hc : w.cell? ⟨b, o, none⟩ = some v) :
    (Instr.loadAt T (.pointer (some ⟨b, o, none⟩))).run P w = .ok v w := by
  obtain ⟨d, i, h1, h2, h3, h4, h5⟩ := tyB_spec ht
  simp [Instr.loadAt, Instr.sureAddr, loadVar, run_isAgg h1, h3, run_load, hc]

theorem cell_of_heap {b o : Nat} {c : Array Value} {e : TypeId} (h : w.heap[b]? = some (.cells c e (0, 0))) : w.cell? ⟨b, o, none⟩ = c[o]? := by
  simp [World.cell?, h]

theorem cell_front {w : World} {b j : Nat} {vs rest : List Value} {e : TypeId} {u : Value} (h : w.heap[b]? = some (.cells (vs ++ rest).toArray e (0, 0))) (hj : vs[j]? = some u) : w.cell? ⟨b, j, none⟩ = some u := by
  rw [cell_of_heap h]
  have hl := (List.getElem?_eq_some_iff.1 hj).1
  rw [List.getElem?_toArray, List.getElem?_append_left hl]
  exact hj

theorem run_storeAt {T b o : Nat} {g : Bool} {k n : Nat} (ht : tyB P T = some (g, k, n)) {v : Value} (hk : v.cells.size = k) (h1 : ∀ u ∈ v.cells.toList, u.oneCell' = true)
    {c : Array Value} {e : TypeId} (hc : w.heap[b]? = some (.cells c e (0, 0))) (hfit : o + k ≤ c.size) :
    (Instr.storeAt T (.pointer (some ⟨b, o, none⟩)) v).run P w = .ok () (w.setRow b (c.toList.take o ++ v.cells.toList ++ c.toList.drop (o + k)).toArray) := by
  obtain ⟨d, i, h2, h3, h4, h5, h6⟩ := tyB_spec ht
  have hst := run_storeCells_at P b o e v.cells.toList 0 c w hc (by simpa [hk] using hfit) h1
  simp only [Nat.add_zero, Array.length_toList, hk] at hst
  simp [Instr.storeAt, Instr.sureAddr, storeVar, sizeOf, typeInfo, h3, h5, hk, hst]
end

/-! ### rules -/
section
variable {P : Program} {dst : Option Tmp} {ty : TypeId} {pos : String} {af : Array Edge} {g : Option (Nat × Bool)}

theorem ltr_box {T n : Nat} {x : Operand} {v : AV} (hx : EvAt x v) (hc : cellish v = true) :
    LTr P ⟨dst, .box T x, ty, pos, af, g⟩ (foot x v) [] [n] (.ptr n 0 0 0) [(n, some (.cells T (cellsOfA v)))] :=
  LTr.of_run fun F ρ h a w hh _ hn hT => by
    have h1 := eval_rep hx (List.Subset.refl _) hT
    obtain ⟨h2, h3⟩ := cellsOfA_rep hc h1
    refine ⟨.pointer (some ⟨w.heap.size, 0, none⟩), w.alloc (.cells (a.eval x).cells T (0, 0)), .inl ?_, Out.new hh (hn n (by simp)) (fun own' ρ' hE => ?_) (fun own' ρ' hE hnn => ?_)⟩
    · simp [execOp, Instr.box, newVar, newRow]
    · simp only [Blk.rep]
      exact ⟨(a.eval x).cells.toList, [], by rw [heap_alloc_new]; simp, repL_ext hE _ _ h2, h3⟩
    · simp only [AV.rep]; exact ⟨_, hnn, by simp⟩

def zeroA (zs : List Value) : List AV := zs.map fun v => .fv (.lit v)

theorem zeroA_rep {w : World} {own : Nat → Prop} {ρ : Names} : ∀ {zs : List Value}, (∀ v ∈ zs, litOK v) → repL w own ρ (zeroA zs) zs
  | [], _ => by simp [zeroA, repL]
  | z :: zs, h => by
    simp only [zeroA, List.map_cons, repL, AV.rep, FV.rep]
    exact ⟨z, zs, rfl, ⟨rfl, h z (by simp)⟩, zeroA_rep fun v hv => h v (by simp [hv])⟩

theorem oneCell_of_lit {v : Value} (h : litOK v) : v.oneCell' = true := by
  cases v <;> simp_all [litOK, Value.oneCell']

theorem ltr_alloc {T n : Nat} {zs : List Value} (hz : zeroB P T = some zs) :
    LTr P ⟨dst, .alloc T, ty, pos, af, g⟩ [] [] [n] (.ptr n 0 0 0) [(n, some (.cells T (zeroA zs)))] :=
  LTr.of_run fun F ρ h a w hh _ hn hT => by
    obtain ⟨i, z, h1, h2, h3, h4, h5⟩ := zeroB_spec hz
    refine ⟨.pointer (some ⟨w.heap.size, 0, none⟩), w.alloc (.cells zs.toArray T (0, 0)), .inl ?_, Out.new hh (hn n (by simp)) (fun own' ρ' hE => ?_) (fun own' ρ' hE hnn => ?_)⟩
    · simp [execOp, Instr.alloc, zeroValue, typeInfo, h1, h2, newVar, newRow, h3]
    · simp only [Blk.rep]
      exact ⟨zs, [], by rw [heap_alloc_new]; simp, zeroA_rep h5, fun v hv => oneCell_of_lit (h5 v hv)⟩
    · simp only [AV.rep]; exact ⟨_, hnn, by simp⟩

theorem ltr_fld {T j off id k row col : Nat} {x : Operand} (hf : fldB P T j = some off) (hx : EvAt x (.ptr id k row col)) :
    LTr P ⟨dst, .fieldAddr T x j, ty, pos, af, g⟩ (foot x (.ptr id k row col)) [] [] (.ptr id k row (col + off)) [] :=
  LTr.pure fun F ρ h a w _ _ hT => by
    have h1 := eval_rep hx (List.Subset.refl _) hT
    simp only [AV.rep] at h1
    obtain ⟨b, h2, h3⟩ := h1
    refine ⟨.pointer (some ⟨b, row * k + (col + off), none⟩), ?_, by simp only [AV.rep]; exact ⟨b, h2, rfl⟩⟩
    simp only [execOp, h3, Sem.run_bind, run_fieldAt hf, Result.andThen_ok, Sem.run_pure, Nat.add_assoc]

theorem repCells_drop {w : World} {own : Nat → Prop} {b : Nat} : ∀ {l : List FV} {o : Nat} (n : Nat), repCells w own b o l → repCells w own b (o + n) (l.drop n)
  | l, o, 0, h => by simpa using h
  | [], o, n + 1, h => by simp [repCells]
  | x :: xs, o, n + 1, h => by
    simp only [repCells] at h
    have := repCells_drop n h.2
    simpa [show o + (n + 1) = o + 1 + n by omega] using this

theorem repCells_take {w : World} {own : Nat → Prop} {b : Nat} : ∀ {l : List FV} {o : Nat} (n : Nat), repCells w own b o l → repCells w own b o (l.take n)
  | l, o, 0, h => by simp [repCells]
  | [], o, n + 1, h => by simp [repCells]
  | x :: xs, o, n + 1, h => by
    simp only [repCells] at h
    simp only [List.take_succ_cons, repCells]
    exact ⟨h.1, repCells_take n h.2⟩

theorem addr_eta {a : Addr} (h : a.spot = none) : a = ⟨a.block, a.off, none⟩ := by cases a; simp_all

theorem ltr_fldr {T j off : Nat} {cells : List FV} {x : Operand} (hf : fldB P T j = some off) (hx : EvAt x (.rptr cells)) :
    LTr P ⟨dst, .fieldAddr T x j, ty, pos, af, g⟩ (foot x (.rptr cells)) [] [] (.rptr (cells.drop off)) [] :=
  LTr.pure fun F ρ h a w _ _ hT => by
    have h1 := eval_rep hx (List.Subset.refl _) hT
    simp only [AV.rep] at h1
    obtain ⟨ad, h2, h3, h4⟩ := h1
    refine ⟨.pointer (some ⟨ad.block, ad.off + off, none⟩), ?_, by simp only [AV.rep]; exact ⟨_, rfl, rfl, repCells_drop off h4⟩⟩
    rw [addr_eta h3] at h2
    simp only [execOp, h2, Sem.run_bind, run_fieldAt hf, Result.andThen_ok, Sem.run_pure]

/-- a load through a pointer into frozen memory -/
theorem ltr_ldr {T k n : Nat} {cells : List FV} {v : FV} {x : Operand} (ht : tyB P T = some (false, k, n)) (hx : EvAt x (.rptr cells)) (hv : cells[0]? = some v) :
    LTr P ⟨dst, .load T x, ty, pos, af, g⟩ (foot x (.rptr cells)) [] [] (.fv v) [] :=
  LTr.pure fun F ρ h a w _ _ hT => by
    have h1 := eval_rep hx (List.Subset.refl _) hT
    simp only [AV.rep] at h1
    obtain ⟨ad, h2, h3, h4⟩ := h1
    cases cells with
    | nil => simp at hv
    | cons c cs =>
      simp at hv
      subst hv
      simp only [repCells] at h4
      obtain ⟨⟨u, h5, _, h6⟩, _⟩ := h4
      rw [addr_eta h3] at h2
      exact ⟨u, by simp only [execOp, h2, Sem.run_bind, run_loadAt_one ht h5, Result.andThen_ok, Sem.run_pure], by simpa [AV.rep] using h6⟩

theorem ltr_ldra {T k n : Nat} {cells : List FV} {x : Operand} (ht : tyB P T = some (true, k, n)) (hx : EvAt x (.rptr cells)) (hk : k ≤ cells.length) :
    LTr P ⟨dst, .load T x, ty, pos, af, g⟩ (foot x (.rptr cells)) [] [] (.agg (fvs (cells.take k))) [] :=
  LTr.pure fun F ρ h a w _ _ hT => by
    have h1 := eval_rep hx (List.Subset.refl _) hT
    simp only [AV.rep] at h1
    obtain ⟨ad, h2, h3, h4⟩ := h1
    obtain ⟨vs, h5, h6⟩ := repL_of_repCells (ρ := ρ) (repCells_take k h4)
    rw [addr_eta h3] at h2
    have hl : vs.length = k := by rw [repL_length h5]; simp [fvs]; omega
    exact ⟨.agg vs.toArray, by simp only [execOp, h2, Sem.run_bind, run_loadAt_agg ht hl h6, Result.andThen_ok, Sem.run_pure], by simp only [AV.rep]; exact ⟨vs, rfl, h5, fvs_oneCell h5⟩⟩

theorem cells_at {w : World} {own : Nat → Prop} {ρ : Names} : ∀ {cs : List AV} {vs : List Value} {i : Nat} {v : AV}, repL w own ρ cs vs → cs[i]? = some v → ∃ u, vs[i]? = some u ∧ v.rep w own ρ u :=
  fun h hi => tup_get h hi

/-- a load from a block of the call's own -/
theorem ltr_ld {T k n id kk row col : Nat} {e : TypeId} {cs : List AV} {v : AV} {x : Operand} (ht : tyB P T = some (false, k, n)) (hx : EvAt x (.ptr id kk row col)) (hv : cs[row * kk + col]? = some v) :
    LTr P ⟨dst, .load T x, ty, pos, af, g⟩ (foot x (.ptr id kk row col)) [(id, .cells e cs)] [] v [] :=
  LTr.pure fun F ρ h a w hh hH hT => by
    have h1 := eval_rep hx (List.Subset.refl _) hT
    simp only [AV.rep] at h1
    obtain ⟨b, h2, h3⟩ := h1
    obtain ⟨m, h4, h5⟩ := hh.blk id (.cells e cs) (hH (id, .cells e cs) (by simp))
    rw [h2] at h4; cases h4
    simp only [Blk.rep] at h5
    obtain ⟨vs, rest, h6, h7, h8⟩ := h5
    obtain ⟨u, h9, h10⟩ := cells_at h7 hv
    exact ⟨u, by simp only [execOp, h3, Sem.run_bind, run_loadAt_one ht (v := u) (cell_front h6 h9), Result.andThen_ok, Sem.run_pure], h10⟩

theorem ltr_lda {T k n id kk row col : Nat} {e : TypeId} {cs : List AV} {x : Operand} (ht : tyB P T = some (true, k, n)) (hx : EvAt x (.ptr id kk row col)) (hk : row * kk + col + k ≤ cs.length) :
    LTr P ⟨dst, .load T x, ty, pos, af, g⟩ (foot x (.ptr id kk row col)) [(id, .cells e cs)] [] (.agg ((cs.drop (row * kk + col)).take k)) [] :=
  LTr.pure fun F ρ h a w hh hH hT => by
    have h1 := eval_rep hx (List.Subset.refl _) hT
    simp only [AV.rep] at h1
    obtain ⟨b, h2, h3⟩ := h1
    obtain ⟨m, h4, h5⟩ := hh.blk id (.cells e cs) (hH (id, .cells e cs) (by simp))
    rw [h2] at h4; cases h4
    simp only [Blk.rep] at h5
    obtain ⟨vs, rest, h6, h7, h8⟩ := h5
    have h9 := repL_take k (repL_drop (row * kk + col) h7)
    have hl : ((vs.drop (row * kk + col)).take k).length = k := by rw [repL_length h9]; simp; omega
    refine ⟨.agg ((vs.drop (row * kk + col)).take k).toArray, ?_, by simp only [AV.rep]; exact ⟨_, rfl, h9, fun u hu => h8 u (List.mem_of_mem_drop (List.mem_of_mem_take hu))⟩⟩
    simp only [execOp, h3, Sem.run_bind]
    rw [run_loadAt_agg ht hl (fun j v hv => ?_)]
    · rfl
    · rw [List.getElem?_take] at hv
      split at hv
      · rw [List.getElem?_drop] at hv; exact cell_front h6 hv
      · simp at hv

theorem ownRows_at {w : World} {own : Nat → Prop} {k b : Nat} : ∀ {rs : List (List FV)} {o i : Nat} {r : List FV}, ownRows w own k b o rs → rs[i]? = some r → r.length = k ∧ ownCells w own b (o + i * k) r
  | [], o, i, r, _, h => by simp at h
  | r0 :: rs, o, 0, r, h, hr => by
    simp only [ownRows] at h
    simp at hr; subst hr
    exact ⟨h.1, by simpa using h.2.1⟩
  | r0 :: rs, o, i + 1, r, h, hr => by
    simp only [ownRows] at h
    simp at hr
    have := ownRows_at h.2.2 hr
    rwa [show o + k + i * k = o + (i + 1) * k by rw [Nat.add_mul]; omega] at this

theorem repRows_at {w : World} {own : Nat → Prop} {k b : Nat} : ∀ {rs : List (List FV)} {o i : Nat} {r : List FV}, repRows w own k b o rs → rs[i]? = some r → r.length = k ∧ repCells w own b (o + i * k) r
  | [], o, i, r, _, h => by simp at h
  | r0 :: rs, o, 0, r, h, hr => by
    simp only [repRows] at h
    simp at hr; subst hr
    exact ⟨h.1, by simpa using h.2.1⟩
  | r0 :: rs, o, i + 1, r, h, hr => by
    simp only [repRows] at h
    simp at hr
    have := repRows_at h.2.2 hr
    rwa [show o + k + i * k = o + (i + 1) * k by rw [Nat.add_mul]; omega] at this

theorem ownCells_drop {w : World} {own : Nat → Prop} {b : Nat} : ∀ {l : List FV} {o : Nat} (n : Nat), ownCells w own b o l → ownCells w own b (o + n) (l.drop n)
  | l, o, 0, h => by simpa using h
  | [], o, n + 1, h => by simp [ownCells]
  | x :: xs, o, n + 1, h => by
    simp only [ownCells] at h
    have := ownCells_drop n h.2
    simpa [show o + (n + 1) = o + 1 + n by omega] using this

theorem ownCells_take {w : World} {own : Nat → Prop} {b : Nat} : ∀ {l : List FV} {o : Nat} (n : Nat), ownCells w own b o l → ownCells w own b o (l.take n)
  | l, o, 0, h => by simp [ownCells]
  | [], o, n + 1, h => by simp [ownCells]
  | x :: xs, o, n + 1, h => by
    simp only [ownCells] at h
    simp only [List.take_succ_cons, ownCells]
    exact ⟨h.1, ownCells_take n h.2⟩

/-- a load from a row of the call's own -/
theorem ltr_ldo {T k n id kk row col : Nat} {e : TypeId} {rs : List (List FV)} {r : List FV} {v : FV} {x : Operand} (ht : tyB P T = some (false, k, n)) (hx : EvAt x (.ptr id kk row col))
    (hr : rs[row]? = some r) (hv : r[col]? = some v) :
    LTr P ⟨dst, .load T x, ty, pos, af, g⟩ (foot x (.ptr id kk row col)) [(id, .rows e kk rs)] [] (.fv v) [] :=
  LTr.pure fun F ρ h a w hh hH hT => by
    have h1 := eval_rep hx (List.Subset.refl _) hT
    simp only [AV.rep] at h1
    obtain ⟨b, h2, h3⟩ := h1
    obtain ⟨m, h4, h5⟩ := hh.blk id (.rows e kk rs) (hH (id, .rows e kk rs) (by simp))
    rw [h2] at h4; cases h4
    simp only [Blk.rep] at h5
    obtain ⟨c, h6, h7, h8⟩ := h5
    obtain ⟨h9, h10⟩ := ownRows_at h8 hr
    have h11 := ownCells_drop col h10
    rw [Nat.zero_add] at h11
    cases hd : r.drop col with
    | nil => have := List.drop_eq_nil_iff.1 hd; rw [List.getElem?_eq_none this] at hv; simp at hv
    | cons y ys =>
      have hy : y = v := by
        have : (r.drop col)[0]? = some v := by rw [List.getElem?_drop]; simpa using hv
        rw [hd] at this; simpa using this
      subst hy
      rw [hd] at h11
      simp only [ownCells] at h11
      obtain ⟨⟨u, h12, h13⟩, _⟩ := h11
      exact ⟨u, by simp only [execOp, h3, Sem.run_bind, run_loadAt_one ht h12, Result.andThen_ok, Sem.run_pure], by simpa [AV.rep] using h13⟩

theorem ltr_ldoa {T k n id kk row col : Nat} {e : TypeId} {rs : List (List FV)} {r : List FV} {x : Operand} (ht : tyB P T = some (true, k, n)) (hx : EvAt x (.ptr id kk row col))
    (hr : rs[row]? = some r) (hk : col + k ≤ r.length) :
    LTr P ⟨dst, .load T x, ty, pos, af, g⟩ (foot x (.ptr id kk row col)) [(id, .rows e kk rs)] [] (.agg (fvs ((r.drop col).take k))) [] :=
  LTr.pure fun F ρ h a w hh hH hT => by
    have h1 := eval_rep hx (List.Subset.refl _) hT
    simp only [AV.rep] at h1
    obtain ⟨b, h2, h3⟩ := h1
    obtain ⟨m, h4, h5⟩ := hh.blk id (.rows e kk rs) (hH (id, .rows e kk rs) (by simp))
    rw [h2] at h4; cases h4
    simp only [Blk.rep] at h5
    obtain ⟨c, h6, h7, h8⟩ := h5
    obtain ⟨h9, h10⟩ := ownRows_at h8 hr
    have h11 := ownCells_take k (ownCells_drop col h10)
    rw [Nat.zero_add] at h11
    obtain ⟨vs, h12, h13⟩ := repL_of_ownCells (ρ := ρ) h11
    have hl : vs.length = k := by rw [repL_length h12]; simp [fvs]; omega
    exact ⟨.agg vs.toArray, by simp only [execOp, h3, Sem.run_bind, run_loadAt_agg ht hl h13, Result.andThen_ok, Sem.run_pure], by simp only [AV.rep]; exact ⟨vs, rfl, h12, fvs_oneCell h12⟩⟩

/-- cells laid over a list of cells -/
def setAt {α : Type} : List α → Nat → List α → List α
  | cs, 0, [] => cs
  | [], _, _ => []
  | _ :: cs, 0, v :: vs => v :: setAt cs 0 vs
  | c :: cs, n + 1, vs => c :: setAt cs n vs

theorem setAt_eq {α : Type} : ∀ (cs : List α) (n : Nat) (vs : List α), n + vs.length ≤ cs.length → setAt cs n vs = cs.take n ++ vs ++ cs.drop (n + vs.length)
  | cs, 0, [], _ => by cases cs <;> simp [setAt]
  | [], 0, v :: vs, h => by simp at h
  | [], n + 1, vs, h => by simp at h
  | c :: cs, 0, v :: vs, h => by
    simp only [setAt, setAt_eq cs 0 vs (by simp at h ⊢; omega)]
    simp
  | c :: cs, n + 1, vs, h => by
    simp only [setAt, setAt_eq cs n vs (by simp at h ⊢; omega)]
    simp [show n + 1 + vs.length = n + vs.length + 1 by omega]

theorem setAt_length {α : Type} (cs : List α) (n : Nat) (vs : List α) (h : n + vs.length ≤ cs.length) : (setAt cs n vs).length = cs.length := by
  rw [setAt_eq cs n vs h]; simp; omega

theorem ltr_st {T k n id kk row col : Nat} {gg : Bool} {e : TypeId} {cs : List AV} {v : AV} {x y : Operand} (ht : tyB P T = some (gg, k, n)) (hx : EvAt x (.ptr id kk row col)) (hy : EvAt y v)
    (hc : cellish v = true) (hk : (cellsOfA v).length = k) (hf : row * kk + col + k ≤ cs.length) :
    LTr P ⟨dst, .store T x y, ty, pos, af, g⟩ (foot x (.ptr id kk row col) ++ foot y v) [(id, .cells e cs)] [] .undef [(id, some (.cells e (setAt cs (row * kk + col) (cellsOfA v))))] :=
  LTr.of_run fun F ρ h a w hh hH _ hT => by
    have h1 := eval_rep hx sub1 hT
    have h1' := eval_rep hy sub2 hT
    simp only [AV.rep] at h1
    obtain ⟨b, h2, h3⟩ := h1
    have hid : h id = some (.cells e cs) := hH (id, .cells e cs) (by simp)
    obtain ⟨m, h4, h5⟩ := hh.blk id _ hid
    rw [h2] at h4; cases h4
    simp only [Blk.rep] at h5
    obtain ⟨vs, rest, h6, h7, h8⟩ := h5
    obtain ⟨h9, h10⟩ := cellsOfA_rep hc h1'
    have hlen : (a.eval y).cells.size = k := by have := repL_length h9; simp at this; omega
    have hvs : vs.length = cs.length := repL_length h7
    have hst := run_storeAt (P := P) (w := w) (o := row * kk + col) ht hlen h10 h6 (by simp [hvs]; omega)
    refine ⟨undef, w.setRow b ((vs ++ rest).toArray.toList.take (row * kk + col) ++ (a.eval y).cells.toList ++ (vs ++ rest).toArray.toList.drop (row * kk + col + k)).toArray, .inr ⟨rfl, ?_⟩,
      Out.set hh hid h2 h6 (by simp [hlen]; omega) (fun own' ρ' hE => ?_) (fun _ _ _ => by simp [AV.rep])⟩
    · simp only [execOp, h3, Sem.run_bind, hst, Result.andThen_ok, Sem.run_pure]
    · simp only [Blk.rep]
      refine ⟨vs.take (row * kk + col) ++ (a.eval y).cells.toList ++ vs.drop (row * kk + col + k), rest, ?_, ?_, ?_⟩
      · rw [setRow_heap w b _ _ e (0, 0) h6]
        have e1 : (vs ++ rest).take (row * kk + col) = vs.take (row * kk + col) := List.take_append_of_le_length (by omega)
        have e2 : (vs ++ rest).drop (row * kk + col + k) = vs.drop (row * kk + col + k) ++ rest := List.drop_append_of_le_length (by omega)
        simp only [e1, e2, List.append_assoc]
      · have hL := repL_append (repL_append (repL_take (row * kk + col) h7) h9) (repL_drop (row * kk + col + k) h7)
        rw [setAt_eq _ _ _ (by rw [hk]; exact hf), hk]
        exact repL_ext hE _ _ (by simpa using hL)
      · intro u hu
        simp only [List.mem_append] at hu
        rcases hu with (hu | hu) | hu
        · exact h8 u (by simpa using List.mem_of_mem_take hu)
        · exact h10 u hu
        · exact h8 u (by simpa using List.mem_of_mem_drop hu)
end
end Go.Uw
