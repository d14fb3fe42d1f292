/- Calls in the abstract machine. Own work. -/
import Derived.Test.YtkcjomglcjhkgaaDoorUwH
set_option linter.unusedVariables false
set_option linter.unusedSimpArgs false
namespace Go.Uw
open Go

def callB (P : Program) (f : FuncId) : Bool :=
  match P.funcs[f]? with
  | some fn => !(fn.name == "runtime.NumGoroutine") && fn.body.isSome
  | none => false

theorem run_callFunc {P : Program} {f : FuncId} (h : callB P f = true) {args : Array Value} {w : World} : (callFunc f args).run P w = .ok (.enter f args) w := by
  unfold callB at h
  split at h
  · rename_i fn hf
    simp only [Bool.and_eq_true, Bool.not_eq_true'] at h
    have h2 : fn.body.isNone = false := by
      cases hb : fn.body <;> simp_all
    simp only [callFunc, Sem.run_bind, run_program, Result.andThen_ok, hf, h.1, h2, Bool.false_eq_true, if_false, Sem.run_pure]
  · simp at h

def EvLAt : List Operand → List AV → Prop
  | [], [] => True
  | x :: xs, v :: vs => EvAt x v ∧ EvLAt xs vs
  | _, _ => False

def footL : List Operand → List AV → List (Nat × AV)
  | x :: xs, v :: vs => foot x v ++ footL xs vs
  | _, _ => []

def evL (t : List (Nat × AV)) : List Operand → Option (List AV)
  | [] => some []
  | x :: xs => match evF t x, evL t xs with
    | some v, some vs => some (v :: vs)
    | _, _ => none

theorem evLAt_of {t : List (Nat × AV)} : ∀ {xs : List Operand} {vs : List AV}, evL t xs = some vs → EvLAt xs vs ∧ ∀ p ∈ footL xs vs, tget t p.1 = some p.2
  | [], vs, h => by simp [evL] at h; subst h; simp [EvLAt, footL]
  | x :: xs, vs, h => by
    simp only [evL] at h
    split at h
    · rename_i v us h1 h2
      simp at h; subst h
      obtain ⟨h3, h4⟩ := evLAt_of h2
      refine ⟨⟨evAt_of h1, h3⟩, fun p hp => ?_⟩
      simp only [footL, List.mem_append] at hp
      rcases hp with hp | hp
      · cases x <;> simp [foot] at hp
        subst hp
        exact h1
      · exact h4 p hp
    · simp at h

theorem evalL_rep {T : List (Nat × AV)} {a : Act} {w : World} {own : Nat → Prop} {ρ : Names} (hT : TR T a w own ρ) : ∀ {xs : List Operand} {vs : List AV}, EvLAt xs vs → footL xs vs ⊆ T → repL w own ρ vs (xs.map a.eval)
  | [], [], _, _ => by simp [repL]
  | x :: xs, v :: vs, h, hs => by
    simp only [List.map_cons, repL]
    exact ⟨_, _, rfl, eval_rep h.1 (fun p hp => hs (by simp [footL, hp])) hT, evalL_rep hT h.2 fun p hp => hs (by simp [footL, hp])⟩
  | [], _ :: _, h, _ => h.elim
  | _ :: _, [], h, _ => h.elim

section
variable {P : Program} {dst : Option Tmp} {ty : TypeId} {pos : String} {af : Array Edge} {g : Option (Nat × Bool)}

theorem run_callOp {f : FuncId} (hf : callB P f = true) {c : Operand} {xs : List Operand} {at_ : Array TypeId} {a : Act} {w : World} {cvs : List Value} (hc : a.eval c = .func (.func f) #[] cvs.toArray) :
    (execOp a.eval ⟨dst, .call ⟨.value c, ⟨xs⟩, at_⟩, ty, pos, af, g⟩).run P w = .ok (.enter f (xs.map a.eval ++ cvs).toArray) w := by
  simp [execOp, resolve, hc, Deferred.ofValue, invoke, run_callFunc hf]

def renH (ν : Nat → Nat) (l : List (Nat × Option Blk)) : List (Nat × Option Blk) := l.map fun p => (ν p.1, p.2.map (Blk.ren ν))

def liveH : List (Nat × Option Blk) → List (Nat × Blk)
  | [] => []
  | (i, some b) :: l => (i, b) :: liveH l
  | (_, none) :: l => liveH l

theorem liveH_get : ∀ {l : List (Nat × Option Blk)} {i : Nat} {x : Blk}, hget l i = some x → (i, x) ∈ liveH l
  | [], i, x, h => by simp [hget] at h
  | (j, some u) :: l, i, x, h => by
    simp only [hget] at h
    by_cases hj : j = i
    · subst hj; rw [beq_self] at h; simp at h; subst h; simp [liveH]
    · rw [beq_ne hj] at h; simp only [liveH]; exact List.mem_cons_of_mem _ (liveH_get h)
  | (j, none) :: l, i, x, h => by
    simp only [hget] at h
    by_cases hj : j = i
    · subst hj; rw [beq_self] at h; simp at h
    · rw [beq_ne hj] at h; exact liveH_get (l := l) h

theorem happ_ren {ν : Nat → Nat} (hν : ∀ i j, ν i = ν j → i = j) (h hc : Nat → Option Blk) : ∀ (puts : List (Nat × Option Blk)) (id : Nat),
    ((∃ p ∈ puts, p.1 = id) ∧ happ (renH ν puts) h (ν id) = (happ puts hc id).map (Blk.ren ν)) ∨ ((∀ p ∈ puts, p.1 ≠ id) ∧ happ (renH ν puts) h (ν id) = h (ν id) ∧ happ puts hc id = hc id)
  | [], id => .inr ⟨by simp, rfl, rfl⟩
  | (i, x) :: l, id => by
    by_cases hi : i = id
    · subst hi; exact .inl ⟨⟨(i, x), by simp, rfl⟩, by simp [renH, happ]⟩
    · have hn : ν i ≠ ν id := fun e => hi (hν _ _ e)
      simp only [renH, List.map_cons, happ, beq_ne hi, beq_ne hn, cond_false]
      rcases happ_ren hν h hc l id with ⟨⟨p, hp, he⟩, h2⟩ | ⟨h1, h2, h3⟩
      · exact .inl ⟨⟨p, by simp [hp], he⟩, h2⟩
      · refine .inr ⟨fun p hp => ?_, h2, h3⟩
        rcases List.mem_cons.1 hp with rfl | hp
        · exact hi
        · exact h1 p hp

theorem happ_out {ν : Nat → Nat} (h : Nat → Option Blk) : ∀ (puts : List (Nat × Option Blk)) (j : Nat), (∀ id, ν id ≠ j) → happ (renH ν puts) h j = h j
  | [], j, _ => rfl
  | (i, x) :: l, j, hj => by
    simp only [renH, List.map_cons, happ, beq_ne (hj i), cond_false]
    exact happ_out h l j hj

/-- A call: the callee has its own names (h0: what is lent to it; nid: what it makes); l says which name of the caller each is. -/
theorem ltr_call {c : Operand} {xs : List Operand} {at_ : Array TypeId} {vs caps : List AV} {f : FuncId} (hc : EvAt c (.fn f caps)) (hx : EvLAt xs vs) (hf : callB P f = true)
    {args : List AV} {h0 : List (Nat × Option Blk)} {nid : List Nat} {v : AV} {puts : List (Nat × Option Blk)} (hF : Fun P f args h0 nid v puts) (N nx : Nat) (l : List (Nat × Nat)) (hl : renOK 0 N nx l = true)
    (hargs : CvL (fun _ => none) (fun _ => False) (ren 0 N l) (vs ++ caps) args) :
    LTr P ⟨dst, .call ⟨.value c, ⟨xs⟩, at_⟩, ty, pos, af, g⟩ (foot c (.fn f caps) ++ footL xs vs) ((liveH h0).map fun p => (ren 0 N l p.1, p.2.ren (ren 0 N l))) (nid.map (ren 0 N l)) (v.ren (ren 0 N l)) (renH (ren 0 N l) puts) := by
  have hν : ∀ i j, ren 0 N l i = ren 0 N l j → i = j := fun i j he => ren_inj hl (Nat.zero_le _) he
  generalize ren 0 N l = ν at hν hargs ⊢
  intro rd F ρ h a w next Q hh hH hn hT hk
  have e1 := eval_rep hc sub1 hT
  simp only [AV.rep] at e1
  obtain ⟨cvs, e2, e3⟩ := e1
  have e4 := evalL_rep hT hx sub2
  have hvals := repL_append e4 e3
  -- the callee's view
  have hlow : ∀ id x, hget h0 id = some x → h (ν id) = some (x.ren ν) := fun id x hx' => hH (ν id, x.ren ν) (List.mem_map.2 ⟨(id, x), liveH_get hx', rfl⟩)
  have hsub : ∀ b, own (fun i => ρ (ν i)) (hget h0) b → own ρ h b := by
    rintro b ⟨id, h1, h2⟩
    obtain ⟨x, hx'⟩ := Option.isSome_iff_exists.1 h1
    exact ⟨ν id, by simp [hlow id x hx'], h2⟩
  let Fc : Nat → Prop := fun b => sh F (own ρ h) b ∧ ¬ own (fun i => ρ (ν i)) (hget h0) b
  have hset : sh Fc (own (fun i => ρ (ν i)) (hget h0)) = sh F (own ρ h) := by
    funext b
    apply propext
    constructor
    · rintro (h1 | h1)
      · exact .inl (hsub b h1)
      · exact h1.1
    · intro h1
      by_cases h2 : own (fun i => ρ (ν i)) (hget h0) b
      · exact .inl h2
      · exact .inr ⟨h1, h2⟩
  have hhc : HR Fc w (fun i => ρ (ν i)) (hget h0) := by
    refine ⟨fun id x hx' => ?_, fun b hb => ⟨?_, hb.2⟩, fun id id' b h1 h2 h3 h4 => ?_, by rw [hset]; exact hh.gl⟩
    · obtain ⟨n, h1, h2⟩ := hh.blk _ _ (hlow id x hx')
      refine ⟨n, h1, ?_⟩
      cases n with
      | zero =>
        obtain ⟨e, k, h3⟩ := h2
        cases x <;> simp [Blk.ren] at h3
        exact ⟨_, _, by rw [h3.2.2]⟩
      | succ b =>
        show x.rep w (sh Fc (own (fun i => ρ (ν i)) (hget h0))) (fun i => ρ (ν i)) b
        rw [hset]
        exact (Blk.rep_ren b x).1 h2
    · rcases hb.1 with ⟨id, h1, h2⟩ | h1
      · obtain ⟨x, hx'⟩ := Option.isSome_iff_exists.1 h1
        exact hh.lt hx' h2
      · exact (hh.far b h1).1
    · obtain ⟨x, hx'⟩ := Option.isSome_iff_exists.1 h1
      obtain ⟨y, hy'⟩ := Option.isSome_iff_exists.1 h2
      exact hν _ _ (hh.inj (ν id) (ν id') b (by simp [hlow id x hx']) (by simp [hlow id' y hy']) h3 h4)
  have hs : Shrinks F w ρ h (fun _ => False) (own ρ h) := ⟨hh, fun _ h => h, fun _ _ _ h => h.elim⟩
  have hcv : repL w (sh F (own ρ h)) (fun i => ρ (ν i)) args (xs.map a.eval ++ cvs) := by
    have hcv' : CvL h (fun _ => False) ν (vs ++ caps) args := CvL.weak hargs
    exact hcv'.rep hs hvals
  have hcall := hF Fc (fun i => ρ (ν i)) w _ hhc (fun id hid => hn (ν id) (List.mem_map.2 ⟨id, hid, rfl⟩)) (by rw [hset]; exact hcv)
  refine Wp.enter (run_callOp hf e2) (hcall.mono ?_)
  rintro e w' ⟨u, rfl, ρc', o1, o2, o3, o4, o5⟩
  refine ⟨u, rfl, hk u w' ?_⟩
  -- back to the caller's names
  let ρ' : Names := fun j => match nid.find? (fun n => Nat.beq (ν n) j) with | some n => ρc' n | none => ρ j
  have hA : ∀ id, ρ' (ν id) = ρc' id := by
    intro id
    show (match nid.find? (fun n => Nat.beq (ν n) (ν id)) with | some n => ρc' n | none => ρ (ν id)) = ρc' id
    cases hfnd : nid.find? (fun n => Nat.beq (ν n) (ν id)) with
    | some n =>
      have := List.find?_some hfnd
      rw [hν _ _ (Nat.eq_of_beq_eq_true this)]
    | none =>
      have hni : id ∉ nid := by
        intro hm
        have := List.find?_eq_none.1 hfnd id hm
        simp [beq_self] at this
      exact (o4 id hni).symm
  have hB : ∀ j, j ∉ nid.map ν → ρ' j = ρ j := by
    intro j hj
    show (match nid.find? (fun n => Nat.beq (ν n) j) with | some n => ρc' n | none => ρ j) = ρ j
    cases hfnd : nid.find? (fun n => Nat.beq (ν n) j) with
    | some n =>
      have h1 := List.find?_some hfnd
      exact absurd (List.mem_map.2 ⟨n, List.mem_of_find?_eq_some hfnd, Nat.eq_of_beq_eq_true h1⟩) hj
    | none => rfl
  have hAf : (fun i => ρ' (ν i)) = ρc' := funext hA
  -- each live name of the new heap
  have hcl : ∀ j x', happ (renH ν puts) h j = some x' → (∃ id x, j = ν id ∧ happ puts (hget h0) id = some x ∧ x' = x.ren ν) ∨
      ((∀ id, (hget h0 id).isSome = true → j ≠ ν id) ∧ h j = some x' ∧ j ∉ nid.map ν) := by
    intro j x' hx'
    by_cases hj : ∃ id, ν id = j
    · obtain ⟨id, rfl⟩ := hj
      rcases happ_ren hν h (hget h0) puts id with ⟨_, h2⟩ | ⟨h1, h2, h3⟩
      · rw [h2] at hx'
        cases hq : happ puts (hget h0) id with
        | none => rw [hq] at hx'; simp at hx'
        | some x => rw [hq] at hx'; simp at hx'; exact .inl ⟨id, x, rfl, hq, hx'.symm⟩
      · rw [h2] at hx'
        cases hq : hget h0 id with
        | some x =>
          have := hlow id x hq
          rw [this] at hx'; simp at hx'
          exact .inl ⟨id, x, rfl, by rw [h3, hq], hx'.symm⟩
        | none =>
          refine .inr ⟨fun id' hi he => ?_, hx', fun hm => ?_⟩
          · have := hν _ _ he; subst this; simp [hq] at hi
          · obtain ⟨n, h4, _⟩ := hh.blk _ _ hx'
            rw [hn _ hm] at h4; cases h4
    · rw [happ_out h puts j (fun id he => hj ⟨id, he⟩)] at hx'
      refine .inr ⟨fun id _ he => hj ⟨id, he.symm⟩, hx', fun hm => ?_⟩
      obtain ⟨n, h4, _⟩ := hh.blk _ _ hx'
      rw [hn _ hm] at h4; cases h4
  have hother : ∀ j x' b, (∀ id, (hget h0 id).isSome = true → j ≠ ν id) → h j = some x' → ρ j = some (b + 1) → ¬ own (fun i => ρ (ν i)) (hget h0) b := by
    rintro j x' b h1 h2 h3 ⟨id, h4, h5⟩
    obtain ⟨x, hx'⟩ := Option.isSome_iff_exists.1 h4
    exact h1 id h4 (hh.inj j (ν id) b (by simp [h2]) (by simp [hlow id x hx']) h3 h5)
  have hown : ∀ b, own ρ' (happ (renH ν puts) h) b → own ρc' (happ puts (hget h0)) b ∨ (own ρ h b ∧ ¬ own (fun i => ρ (ν i)) (hget h0) b) := by
    rintro b ⟨j, h1, h2⟩
    obtain ⟨x', hx'⟩ := Option.isSome_iff_exists.1 h1
    rcases hcl j x' hx' with ⟨id, x, rfl, h3, rfl⟩ | ⟨h3, h4, h5⟩
    · rw [hA] at h2; exact .inl ⟨id, by simp [h3], h2⟩
    · rw [hB j h5] at h2
      exact .inr ⟨⟨j, by simp [h4], h2⟩, hother j x' b h3 h4 h2⟩
  have hcown : ∀ b, own ρc' (happ puts (hget h0)) b → own (fun i => ρ (ν i)) (hget h0) b ∨ w.heap.size ≤ b := by
    rintro b ⟨id, h1, h2⟩
    exact o5 id b h1 h2
  have hsh : ∀ b, sh F (own ρ' (happ (renH ν puts) h)) b → sh Fc (own ρc' (happ puts (hget h0))) b := by
    rintro b (h1 | h1)
    · rcases hown b h1 with h2 | ⟨h2, h3⟩
      · exact .inl h2
      · exact .inr ⟨.inl h2, h3⟩
    · exact .inr ⟨.inr h1, fun h2 => (hh.far b h1).2 (hsub b h2)⟩
  have hE : Ext w (own ρ h) ρ w' (own ρ' (happ (renH ν puts) h)) ρ' := by
    refine ⟨o3.os, o3.tape, o3.output, o3.size, fun b hb ho => ?_, o3.row, fun j b hb => ?_⟩
    · have h1 : ¬ own (fun i => ρ (ν i)) (hget h0) b := fun h2 => ho (hsub b h2)
      obtain ⟨h2, h3⟩ := o3.same b hb h1
      refine ⟨h2, fun h4 => ?_⟩
      rcases hown b h4 with h5 | h5
      · exact h3 h5
      · exact ho h5.1
    · have : j ∉ nid.map ν := fun hm => by rw [hn j hm] at hb; cases hb
      rw [hB j this]; exact hb
  refine ⟨ρ', ⟨fun j x' hx' => ?_, fun b hb => ⟨Nat.lt_of_lt_of_le (hh.far b hb).1 o3.size, fun ho => ?_⟩, fun j j' b h1 h2 h3 h4 => ?_, hh.gl.ext hE.sh⟩, ?_, hE, hB, fun j b h1 h2 => ?_⟩
  · rcases hcl j x' hx' with ⟨id, x, rfl, h3, rfl⟩ | ⟨h3, h4, h5⟩
    · obtain ⟨n, h6, h7⟩ := o1.blk id x h3
      refine ⟨n, by rw [hA]; exact h6, ?_⟩
      cases n with
      | zero => obtain ⟨e, k, rfl⟩ := h7; exact ⟨e, k, rfl⟩
      | succ b =>
        refine (Blk.rep_ren b x).2 ?_
        rw [hAf]
        exact Blk.rep_ext ⟨rfl, rfl, rfl, Nat.le_refl _, fun b _ hb => ⟨rfl, fun h' => hb (hsh b h')⟩, fun b c e hc => ⟨c, hc, rfl⟩, fun _ _ h => h⟩ rfl x h7
    · obtain ⟨n, h6, h7⟩ := hh.blk j x' h4
      refine ⟨n, by rw [hB j h5]; exact h6, ?_⟩
      cases n with
      | zero => exact h7
      | succ b => exact Blk.rep_ext hE.sh (o3.same b (hh.lt h4 h6) (hother j x' b h3 h4 h6)).1 x' h7
  · rcases hown b ho with h1 | h1
    · rcases hcown b h1 with h2 | h2
      · exact (hh.far b hb).2 (hsub b h2)
      · have := (hh.far b hb).1; omega
    · exact (hh.far b hb).2 h1.1
  · obtain ⟨x, hx1⟩ := Option.isSome_iff_exists.1 h1
    obtain ⟨y, hy1⟩ := Option.isSome_iff_exists.1 h2
    rcases hcl j x hx1 with ⟨id, x0, rfl, g1, rfl⟩ | ⟨g1, g2, g3⟩ <;> rcases hcl j' y hy1 with ⟨id', y0, rfl, g4, rfl⟩ | ⟨g4, g5, g6⟩
    · rw [hA] at h3; rw [hA] at h4
      rw [o1.inj id id' b (by simp [g1]) (by simp [g4]) h3 h4]
    · rw [hA] at h3; rw [hB j' g6] at h4
      rcases o5 id b (by simp [g1]) h3 with g7 | g7
      · exact absurd g7 (hother j' y b g4 g5 h4)
      · have := hh.lt g5 h4; omega
    · rw [hB j g3] at h3; rw [hA] at h4
      rcases o5 id' b (by simp [g4]) h4 with g7 | g7
      · exact absurd g7 (hother j x b g1 g2 h3)
      · have := hh.lt g2 h3; omega
    · rw [hB j g3] at h3; rw [hB j' g6] at h4
      exact hh.inj j j' b (by simp [g2]) (by simp [g5]) h3 h4
  · refine (AV.rep_ren v u).2 ?_
    rw [hAf]
    exact AV.rep_own hsh o2
  · rcases hown b ⟨j, h1, h2⟩ with g1 | g1
    · rcases hcown b g1 with g2 | g2
      · exact .inl (hsub b g2)
      · exact .inr g2
    · exact .inl g1.1
end
end Go.Uw
