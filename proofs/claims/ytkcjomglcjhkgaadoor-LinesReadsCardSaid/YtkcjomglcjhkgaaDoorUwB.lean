/- The abstract machine's steps: what one operation does, stated by what it reads and writes. Own work. -/
import Derived.Test.YtkcjomglcjhkgaaDoorUwA
import Derived.CallsIn
import Derived.OrdersIn
set_option linter.unusedVariables false
set_option linter.unusedSimpArgs false
namespace Go.Uw
open Go

/-- The fence of an activation: none: a function's; some l: a round's of the range over a function whose record is block l. -/
def fen : Option Nat → Fence
  | none => Fence.wide
  | some l => Fence.wide.inRound l
theorem fen_fn (rd : Option Nat) (f : FuncId) : (fen rd).fn f := by cases rd <;> trivial
theorem fen_depth (rd : Option Nat) : (fen rd).depth = none := by cases rd <;> rfl
theorem fen_round (rd : Option Nat) : (fen rd).round = rd := by cases rd <;> rfl
theorem callsIn_fen {rd : Option Nat} {n : Nat} {P : Program} {f : FuncId} {args : Array Value} {w : World} {R : Ending → World → Prop} (h : Calls P f args w R) : CallsIn (fen rd) n P f args w R := by
  cases rd with
  | none => exact callsIn_wide.2 h
  | some l => exact (callsIn_wide (n := n)).2 h

theorem semAt_of {P : Program} {rd : Option Nat} {ρ : Operand → Value} {o : Oper} {w w' : World} {n : Next} (h : (execOp ρ o).run P w = .ok n w') (hn : ∀ d, n ≠ .defer d) : Oper.semAt rd ρ o = execOp ρ o := by
  refine Oper.semAt_eq rd ρ o fun c hc => ?_
  obtain ⟨d, op, ty, ps, af, g⟩ := o
  simp only at hc
  subst hc
  simp only [execOp, Sem.run_bind] at h
  cases hr : (resolve ρ c ty).run P w with
  | ok x w1 => rw [hr] at h; simp only [Result.andThen_ok, Sem.run_pure] at h; cases h; exact hn _ rfl
  | halt x w1 => rw [hr] at h; cases h

/-- an operation, in an activation of either kind -/
def Wp (rd : Option Nat) (P : Program) (o : Oper) (a : Act) (w : World) (next : Act → World → Prop) (Q : Exit → Act → World → Prop) : Prop := o.wpIn (fen rd) 0 P a w next Q
theorem Wp.value {rd : Option Nat} {P : Program} {o : Oper} {a : Act} {w w' : World} {next : Act → World → Prop} {Q : Exit → Act → World → Prop} {u : Value} (h : (execOp a.eval o).run P w = .ok (.value u) w') (hn : next (a.put o.dst u) w') : Wp rd P o a w next Q := by
  refine ⟨fun f _ => fen_fn rd f, ?_⟩
  rw [fen_round, semAt_of h (fun d hd => by cases hd), h]
  exact hn
theorem Wp.skip {rd : Option Nat} {P : Program} {o : Oper} {a : Act} {w w' : World} {next : Act → World → Prop} {Q : Exit → Act → World → Prop} (h : (execOp a.eval o).run P w = .ok .skip w') (hn : next (a.put o.dst undef) w') : Wp rd P o a w next Q := by
  refine ⟨fun f _ => fen_fn rd f, ?_⟩
  rw [fen_round, semAt_of h (fun d hd => by cases hd), h]
  exact hn
theorem Wp.enter {rd : Option Nat} {P : Program} {o : Oper} {a : Act} {w w' : World} {next : Act → World → Prop} {Q : Exit → Act → World → Prop} {f : FuncId} {args : Array Value} (h : (execOp a.eval o).run P w = .ok (.enter f args) w')
    (hc : Calls P f args w' fun e w'' => ∃ v, e = .returned v ∧ next (a.put o.dst v) w'') : Wp rd P o a w next Q := by
  refine ⟨fun f _ => fen_fn rd f, ?_⟩
  rw [fen_round, semAt_of h (fun d hd => by cases hd), h]
  refine ⟨(fun hd => by rw [fen_depth] at hd; cases hd), callsIn_fen (hc.mono ?_)⟩
  rintro e w'' ⟨v, rfl, hv⟩
  exact hv

/-- What an operation or a call leaves. -/
def Out (F : Nat → Prop) (w : World) (ρ : Names) (h : Nat → Option Blk) (nid : List Nat) (v : AV) (puts : List (Nat × Option Blk)) (w' : World) (u : Value) : Prop :=
  ∃ ρ' : Names, HR F w' ρ' (happ puts h) ∧ v.rep w' (sh F (own ρ' (happ puts h))) ρ' u ∧ Ext w (own ρ h) ρ w' (own ρ' (happ puts h)) ρ' ∧
    (∀ id, id ∉ nid → ρ' id = ρ id) ∧ (∀ id b, (happ puts h id).isSome = true → ρ' id = some (b + 1) → own ρ h b ∨ w.heap.size ≤ b)

def TR (T : List (Nat × AV)) (a : Act) (w : World) (own : Nat → Prop) (ρ : Names) : Prop := ∀ p ∈ T, ∃ u, a.tmps[p.1]? = some u ∧ p.2.rep w own ρ u

/-- One operation: wherever the slots T and the blocks H are as said, it yields v and puts 'puts'. -/
def LTr (P : Program) (o : Oper) (T : List (Nat × AV)) (H : List (Nat × Blk)) (nid : List Nat) (v : AV) (puts : List (Nat × Option Blk)) : Prop :=
  ∀ (rd : Option Nat) (F : Nat → Prop) (ρ : Names) (h : Nat → Option Blk) (a : Act) (w : World) (next : Act → World → Prop) (Q : Exit → Act → World → Prop),
    HR F w ρ h → (∀ p ∈ H, h p.1 = some p.2) → (∀ id ∈ nid, ρ id = none) → TR T a w (sh F (own ρ h)) ρ →
    (∀ u w', Out F w ρ h nid v puts w' u → next (a.put o.dst u) w') → Wp rd P o a w next Q

theorem Out.same {F : Nat → Prop} {w : World} {ρ : Names} {h : Nat → Option Blk} {v : AV} {u : Value} (hh : HR F w ρ h) (hv : v.rep w (sh F (own ρ h)) ρ u) : Out F w ρ h [] v [] w u :=
  ⟨ρ, hh, hv, Ext.refl, fun _ _ => rfl, fun id b h1 h2 => .inl ⟨id, h1, h2⟩⟩

theorem LTr.pure {P : Program} {o : Oper} {T : List (Nat × AV)} {H : List (Nat × Blk)} {v : AV}
    (hr : ∀ (F : Nat → Prop) (ρ : Names) (h : Nat → Option Blk) (a : Act) (w : World), HR F w ρ h → (∀ p ∈ H, h p.1 = some p.2) → TR T a w (sh F (own ρ h)) ρ →
      ∃ u, (execOp a.eval o).run P w = .ok (.value u) w ∧ v.rep w (sh F (own ρ h)) ρ u) : LTr P o T H [] v [] := by
  intro rd F ρ h a w next Q hh hH _ hT hk
  obtain ⟨u, h1, h2⟩ := hr F ρ h a w hh hH hT
  exact Wp.value h1 (hk u w (Out.same hh h2))

/-! ### operands -/
def litOKb : Value → Bool
  | .int k n => decide (k.min ≤ n) && decide (n ≤ k.max)
  | .string s => decide (s.size ≤ maxLen)
  | v => v.oneCell'

theorem litOK_of_b {v : Value} (h : litOKb v = true) : litOK v := by
  cases v <;> simp_all [litOKb, litOK]

def constA (u : Value) : Option AV := bif litOKb u then some (.fv (.lit u)) else none

def evF (t : List (Nat × AV)) : Operand → Option AV
  | .tmp i => tget t i
  | .const u => constA u
  | .func f => some (.fn f [])
  | .global _ => none

def foot : Operand → AV → List (Nat × AV)
  | .tmp i, v => [(i, v)]
  | _, _ => []

def EvAt (x : Operand) (v : AV) : Prop :=
  match x with
  | .tmp _ => True
  | .const u => constA u = some v
  | .func f => v = .fn f []
  | .global _ => False

theorem evAt_of {t : List (Nat × AV)} {x : Operand} {v : AV} (h : evF t x = some v) : EvAt x v := by
  cases x <;> simp_all [evF, EvAt]

theorem eval_rep {x : Operand} {v : AV} {T : List (Nat × AV)} {a : Act} {w : World} {own : Nat → Prop} {ρ : Names} (hx : EvAt x v) (hs : foot x v ⊆ T) (hT : TR T a w own ρ) :
    v.rep w own ρ (a.eval x) := by
  cases x with
  | tmp i =>
    obtain ⟨u, h1, h2⟩ := hT (i, v) (hs (by simp [foot]))
    simp only [Act.eval]
    have : a.tmps.getD i Go.undef = u := by simp [Array.getD_eq_getD_getElem?, h1]
    rw [this]; exact h2
  | const u =>
    simp only [EvAt, constA] at hx
    cases hb : litOKb u <;> simp [hb] at hx
    subst hx
    simp [Act.eval, AV.rep, FV.rep, litOK_of_b hb]
  | func f =>
    simp only [EvAt] at hx
    subst hx
    simp only [Act.eval, AV.rep]
    exact ⟨[], rfl, by simp [repL]⟩
  | global g => simp [EvAt] at hx

theorem sub1 {α : Type} {a b : List α} : a ⊆ a ++ b := List.subset_append_left a b
theorem sub2 {α : Type} {a b : List α} : b ⊆ a ++ b := List.subset_append_right a b

abbrev lit (v : Value) : AV := .fv (.lit v)
abbrev iv (k : IntKind) (n : Int) : AV := .fv (.lit (.int k n))
abbrev I (n : Int) : FV := .lit (.int .i64 n)
abbrev B (b : Bool) : FV := .lit (.bool b)
abbrev iA (n : Int) : AV := .fv (.lit (.int .i64 n))
abbrev bA (b : Bool) : AV := .fv (.lit (.bool b))

section
variable {w : World} {own : Nat → Prop} {ρ : Names} {u : Value}
theorem rep_lit {v : Value} (h : (lit v).rep w own ρ u) : u = v ∧ litOK v := by simpa [AV.rep, FV.rep] using h
theorem rep_lit_mk {v : Value} (h : litOK v) : (lit v).rep w own ρ v := by simp [AV.rep, FV.rep, h]
end

/-! ### wraps -/
theorem wrap_in (k : IntKind) (n : Int) (h : k.min ≤ n ∧ n ≤ k.max) : k.wrap n = n := by
  obtain ⟨h1, h2⟩ := h
  cases k <;> simp [IntKind.min, IntKind.max, IntKind.bits, IntKind.signed] at h1 h2 <;> simp [IntKind.wrap, IntKind.bits, IntKind.signed] <;> omega

theorem wrap_ok (k : IntKind) (n : Int) : k.min ≤ k.wrap n ∧ k.wrap n ≤ k.max := by
  cases k <;> simp [IntKind.min, IntKind.max, IntKind.wrap, IntKind.bits, IntKind.signed] <;> omega

/-! ### the plain operations -/
section
variable {P : Program} {dst : Option Tmp} {ty : TypeId} {pos : String} {af : Array Edge} {g : Option (Nat × Bool)}

theorem ltr_move {x : Operand} {v : AV} (hx : EvAt x v) : LTr P ⟨dst, .move x, ty, pos, af, g⟩ (foot x v) [] [] v [] :=
  LTr.pure fun F ρ h a w _ _ hT => ⟨a.eval x, rfl, eval_rep hx (List.Subset.refl _) hT⟩

theorem ltr_assign {x : Operand} {v : AV} (hx : EvAt x v) : LTr P ⟨dst, .assign x, ty, pos, af, g⟩ (foot x v) [] [] v [] :=
  LTr.pure fun F ρ h a w _ _ hT => ⟨a.eval x, rfl, eval_rep hx (List.Subset.refl _) hT⟩

theorem ltr_pick {c x y : Operand} {b : Bool} {v : AV} (hc : EvAt c (bA b)) (hx : EvAt (bif b then x else y) v) :
    LTr P ⟨dst, .pick c x y, ty, pos, af, g⟩ (foot c (bA b) ++ foot (bif b then x else y) v) [] [] v [] :=
  LTr.pure fun F ρ h a w _ _ hT => by
    have h1 := (rep_lit (eval_rep hc sub1 hT)).1
    have h2 := eval_rep hx sub2 hT
    refine ⟨_, ?_, h2⟩
    simp only [execOp, h1, asBool]
    cases b <;> rfl

/-- An operation that only reckons: the run of the two operands' literals gives the literal. -/
theorem ltr_bin {op : BinOp} {T : TypeId} {x y : Operand} {yt : TypeId} {a b r : Value} (hx : EvAt x (lit a)) (hy : EvAt y (lit b))
    (hr : litOK a → litOK b → litOK r ∧ ∀ w, (do eqGuard op T x y a b; binOp op T a b : Sem Value).run P w = .ok r w) :
    LTr P ⟨dst, .binOp op T x y yt, ty, pos, af, g⟩ (foot x (lit a) ++ foot y (lit b)) [] [] (lit r) [] :=
  LTr.pure fun F ρ h ac w _ _ hT => by
    obtain ⟨h1, h1'⟩ := rep_lit (eval_rep hx sub1 hT)
    obtain ⟨h2, h2'⟩ := rep_lit (eval_rep hy sub2 hT)
    obtain ⟨ho, hw⟩ := hr h1' h2'
    refine ⟨r, ?_, rep_lit_mk ho⟩
    have := hw w
    simp only [execOp, h1, h2]
    simp only [Sem.run_bind] at this ⊢
    rw [this]; rfl

theorem run_guard_int {op : BinOp} {T : TypeId} {x y : Operand} {k : IntKind} {a b : Int} {w : World} {α : Type} (f : Unit → Sem α) : (eqGuard op T x y (.int k a) (.int k b) >>= f).run P w = (f ()).run P w := by
  unfold eqGuard
  cases op <;> rfl

theorem ltr_add {T : TypeId} {x y : Operand} {yt : TypeId} {k : IntKind} {a b : Int} (hx : EvAt x (iv k a)) (hy : EvAt y (iv k b)) (hr : k.min ≤ a + b ∧ a + b ≤ k.max) :
    LTr P ⟨dst, .binOp .add T x y yt, ty, pos, af, g⟩ (foot x (iv k a) ++ foot y (iv k b)) [] [] (iv k (a + b)) [] :=
  ltr_bin hx hy fun _ _ => ⟨hr, fun w => by rw [run_guard_int]; simp [binOp, Op.intArith, wrap_in k _ hr]⟩
theorem ltr_sub {T : TypeId} {x y : Operand} {yt : TypeId} {k : IntKind} {a b : Int} (hx : EvAt x (iv k a)) (hy : EvAt y (iv k b)) (hr : k.min ≤ a - b ∧ a - b ≤ k.max) :
    LTr P ⟨dst, .binOp .sub T x y yt, ty, pos, af, g⟩ (foot x (iv k a) ++ foot y (iv k b)) [] [] (iv k (a - b)) [] :=
  ltr_bin hx hy fun _ _ => ⟨hr, fun w => by rw [run_guard_int]; simp [binOp, Op.intArith, wrap_in k _ hr]⟩
theorem ltr_mul {T : TypeId} {x y : Operand} {yt : TypeId} {k : IntKind} {a b : Int} (hx : EvAt x (iv k a)) (hy : EvAt y (iv k b)) (hr : k.min ≤ a * b ∧ a * b ≤ k.max) :
    LTr P ⟨dst, .binOp .mul T x y yt, ty, pos, af, g⟩ (foot x (iv k a) ++ foot y (iv k b)) [] [] (iv k (a * b)) [] :=
  ltr_bin hx hy fun _ _ => ⟨hr, fun w => by rw [run_guard_int]; simp [binOp, Op.intArith, wrap_in k _ hr]⟩
theorem ltr_cmp {op : BinOp} {T : TypeId} {x y : Operand} {yt : TypeId} {k : IntKind} {a b : Int} {r : Bool} (hx : EvAt x (iv k a)) (hy : EvAt y (iv k b))
    (hr : ∀ w, (binOp op T (.int k a) (.int k b)).run P w = .ok (.bool r) w) :
    LTr P ⟨dst, .binOp op T x y yt, ty, pos, af, g⟩ (foot x (iv k a) ++ foot y (iv k b)) [] [] (bA r) [] :=
  ltr_bin hx hy fun _ _ => ⟨rfl, fun w => by rw [run_guard_int]; exact hr w⟩

theorem run_lss {T : TypeId} {k : IntKind} {a b : Int} {w : World} : (binOp .lss T (.int k a) (.int k b)).run P w = .ok (.bool (decide (a < b))) w := by simp [binOp, Op.intCmp]
theorem run_leq {T : TypeId} {k : IntKind} {a b : Int} {w : World} : (binOp .leq T (.int k a) (.int k b)).run P w = .ok (.bool (decide (a ≤ b))) w := by simp [binOp, Op.intCmp]
theorem run_gtr {T : TypeId} {k : IntKind} {a b : Int} {w : World} : (binOp .gtr T (.int k a) (.int k b)).run P w = .ok (.bool (decide (b < a))) w := by simp [binOp, Op.intCmp]
theorem run_geq {T : TypeId} {k : IntKind} {a b : Int} {w : World} : (binOp .geq T (.int k a) (.int k b)).run P w = .ok (.bool (decide (b ≤ a))) w := by simp [binOp, Op.intCmp]
theorem run_eqli {T : TypeId} {k : IntKind} {a b : Int} {w : World} : (binOp .eql T (.int k a) (.int k b)).run P w = .ok (.bool (decide (a = b))) w := by
  simp only [binOp, Op.intCmp]
  by_cases h : a = b <;> simp [h]
theorem run_neqi {T : TypeId} {k : IntKind} {a b : Int} {w : World} : (binOp .neq T (.int k a) (.int k b)).run P w = .ok (.bool (decide (a ≠ b))) w := by
  simp only [binOp, Op.intCmp]
  by_cases h : a = b <;> simp [h]

theorem ltr_not {T : TypeId} {x : Operand} {b : Bool} (hx : EvAt x (bA b)) : LTr P ⟨dst, .unOp .not T x, ty, pos, af, g⟩ (foot x (bA b)) [] [] (bA (!b)) [] :=
  LTr.pure fun F ρ h a w _ _ hT => by
    have h1 := (rep_lit (eval_rep hx (List.Subset.refl _) hT)).1
    refine ⟨.bool (!b), ?_, rep_lit_mk rfl⟩
    simp only [execOp, h1, Op.unary]; rfl

theorem tup_get {l : List AV} {w : World} {own : Nat → Prop} {ρ : Names} : ∀ {vs : List Value} {i : Nat} {v : AV}, repL w own ρ l vs → l[i]? = some v → ∃ u, vs[i]? = some u ∧ v.rep w own ρ u := by
  induction l with
  | nil => intro vs i v _ h; simp at h
  | cons x xs ih =>
    intro vs i v hr h
    simp only [repL] at hr
    obtain ⟨u, us, rfl, h1, h2⟩ := hr
    cases i with
    | zero => simp at h; subst h; exact ⟨u, by simp, h1⟩
    | succ i => simp at h; obtain ⟨u', h3, h4⟩ := ih h2 h; exact ⟨u', by simpa using h3, h4⟩

theorem ltr_extract {x : Operand} {i : Nat} {l : List AV} {v : AV} (hx : EvAt x (.tup l)) (hi : l[i]? = some v) :
    LTr P ⟨dst, .extract x i, ty, pos, af, g⟩ (foot x (.tup l)) [] [] v [] :=
  LTr.pure fun F ρ h a w _ _ hT => by
    have h1 := eval_rep hx (List.Subset.refl _) hT
    simp only [AV.rep] at h1
    obtain ⟨vs, h2, h3⟩ := h1
    obtain ⟨u, h4, h5⟩ := tup_get h3 hi
    exact ⟨u, by simp [execOp, h2, Instr.extract, h4], h5⟩
end
end Go.Uw
