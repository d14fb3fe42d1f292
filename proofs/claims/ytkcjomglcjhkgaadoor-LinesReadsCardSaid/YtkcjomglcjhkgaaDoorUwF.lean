/- States, regions, code, functions of the abstract machine. Own work. -/
import Derived.Test.YtkcjomglcjhkgaaDoorUwC
import Derived.RangeFuncRecord
set_option linter.unusedVariables false
set_option linter.unusedSimpArgs false
namespace Go.Uw
open Go

structure St where
  t : List (Nat × AV)
  h : List (Nat × Option Blk)
  nx : Nat

structure Env where
  w0 : World
  own0 : Nat → Prop
  ρ0 : Names
  n0 : Nat
  nt : Nat
  F : Nat → Prop
  rd : Option Nat
  /-- may the mark of a range over a function stand among the deferred calls? -/
  marks : Bool
  /-- what else a return may leave -/
  esc : Act → World → Prop

/-- The deferred calls of an activation: the marks of ranges over functions, whose blocks hold no call. -/
def DfOK (marks : Bool) (w0 : World) (own : Nat → Prop) (a : Act) (w : World) : Prop :=
  ∃ Ds : List Nat, a.defers = Ds.map (fun D => { target := .collected D, args := #[] }) ∧ Ds.Nodup ∧ (marks = false → Ds = []) ∧
    ∀ D ∈ Ds, w.heap[D]? = some (.deferred (some [])) ∧ w0.heap.size ≤ D ∧ ¬ own D
theorem DfOK.nil {marks : Bool} {w0 : World} {own : Nat → Prop} {a : Act} {w : World} (h : a.defers = []) : DfOK marks w0 own a w := ⟨[], h, List.nodup_nil, fun _ => rfl, by simp⟩
theorem DfOK.none {w0 : World} {own : Nat → Prop} {a : Act} {w : World} (h : DfOK false w0 own a w) : a.defers = [] := by
  obtain ⟨Ds, h1, _, h2, _⟩ := h
  rw [h2 rfl] at h1; exact h1
theorem DfOK.mono {marks : Bool} {w0 : World} {own own' : Nat → Prop} {a : Act} {w : World} (h : DfOK marks w0 own a w) (ho : ∀ b, own' b → own b) : DfOK marks w0 own' a w := by
  obtain ⟨Ds, h1, h2, h3, h4⟩ := h
  exact ⟨Ds, h1, h2, h3, fun D hD => ⟨(h4 D hD).1, (h4 D hD).2.1, fun h' => (h4 D hD).2.2 (ho D h')⟩⟩

structure R (E : Env) (s : St) (ρ : Names) (a : Act) (w : World) : Prop where
  tm : ∀ i v, tget s.t i = some v → ∃ u, a.tmps[i]? = some u ∧ v.rep w (sh E.F (own ρ (hget s.h))) ρ u
  hp : HR E.F w ρ (hget s.h)
  fr : ∀ id, s.nx ≤ id → ρ id = none
  ext : Ext E.w0 E.own0 E.ρ0 w (own ρ (hget s.h)) ρ
  old : ∀ id b, (hget s.h id).isSome = true → ρ id = some (b + 1) → E.own0 b ∨ E.w0.heap.size ≤ b
  n0 : E.n0 ≤ s.nx
  df : DfOK E.marks E.w0 (own ρ (hget s.h)) a w
  sz : a.tmps.size = E.nt

def St.step (s : St) (d : Option Tmp) (v : AV) (puts : List (Nat × Option Blk)) (nx : Nat) : St :=
  ⟨match d with | some d => (d, v) :: s.t | none => s.t, puts ++ s.h, nx⟩

def dOK (nt : Nat) : Option Tmp → Bool
  | some d => Nat.blt d nt
  | none => true

theorem put_get {a : Act} {d : Tmp} {u : Value} (h : d < a.tmps.size) : (a.put (some d) u).tmps[d]? = some u := by
  simp [Act.put, h]
theorem put_get_ne {a : Act} {d i : Tmp} {u : Value} (h : d ≠ i) : (a.put (some d) u).tmps[i]? = a.tmps[i]? := by
  simp [Act.put, Array.getElem?_setIfInBounds, h]

theorem R.out {E : Env} {s : St} {ρ : Names} {a : Act} {w w' : World} {nid : List Nat} {v : AV} {puts : List (Nat × Option Blk)} {u : Value} {d : Option Tmp} {nx : Nat}
    (hR : R E s ρ a w) (ho : Out E.F w ρ (hget s.h) nid v puts w' u) (hn : ∀ id ∈ nid, s.nx ≤ id ∧ id < nx) (hx : s.nx ≤ nx) (hd : dOK E.nt d = true) :
    ∃ ρ', R E (s.step d v puts nx) ρ' (a.put d u) w' := by
  obtain ⟨ρ', h1, h2, h3, h4, h5⟩ := ho
  have hh : hget (puts ++ s.h) = happ puts (hget s.h) := hget_append puts s.h
  refine ⟨ρ', ⟨fun i x hi => ?_, ?_, fun id hid => ?_, ?_, fun id b hi hb => ?_, ?_, ?_, ?_⟩⟩
  · simp only [St.step, hh]
    cases d with
    | none =>
      simp only [St.step] at hi
      obtain ⟨y, h6, h7⟩ := hR.tm i x hi
      exact ⟨y, h6, AV.rep_ext h3.sh x y h7⟩
    | some d =>
      simp only [St.step, tget] at hi
      have hdl : d < a.tmps.size := by rw [hR.sz]; simpa [dOK, Nat.blt_eq] using hd
      by_cases hdi : d = i
      · subst hdi
        rw [beq_self] at hi
        simp at hi; subst hi
        exact ⟨u, put_get hdl, h2⟩
      · rw [beq_ne hdi] at hi
        simp only [cond_false] at hi
        obtain ⟨y, h6, h7⟩ := hR.tm i x hi
        exact ⟨y, by rw [put_get_ne hdi]; exact h6, AV.rep_ext h3.sh x y h7⟩
  · simp only [St.step, hh]; exact h1
  · have h6 : id ∉ nid := fun hm => by have := (hn id hm).2; simp only [St.step] at hid; omega
    rw [h4 id h6]
    exact hR.fr id (Nat.le_trans hx hid)
  · simp only [St.step, hh]; exact hR.ext.trans h3
  · simp only [St.step, hh] at hi
    rcases h5 id b hi hb with ⟨id', h6, h7⟩ | h6
    · exact hR.old id' b h6 h7
    · exact .inr (Nat.le_trans hR.ext.size h6)
  · exact Nat.le_trans hR.n0 hx
  · have hdf : (a.put d u).defers = a.defers := by cases d <;> rfl
    obtain ⟨Ds, d1, d2, d3, d4⟩ := hR.df
    refine ⟨Ds, hdf.trans d1, d2, d3, fun D hD => ?_⟩
    obtain ⟨h7, h8, h9⟩ := d4 D hD
    have h10 := h3.same D (Array.getElem?_eq_some_iff.1 h7).1 h9
    exact ⟨h10.1.trans h7, h8, by simp only [St.step, hh]; exact h10.2⟩
  · cases d <;> simpa [Act.put] using hR.sz

/-! a block that holds no cells and is nobody's: what lies in it may turn -/
section
variable {w : World} {D : Nat} {o : Obj}
theorem cell_none_of (hD : w.heap[D]? = some o) (hc : ∀ c t fz, o ≠ .cells c t fz) (j : Nat) : w.cell? ⟨D, j, none⟩ = none := by
  unfold World.cell?
  simp only [hD]
  split
  · rename_i c t fz he; cases he; exact absurd rfl (hc _ _ _)
  · rfl

theorem obj_ext {own : Nat → Prop} {ρ : Names} {o' : Obj} (hD : w.heap[D]? = some o) (hc : ∀ c t fz, o ≠ .cells c t fz) : Ext w (fun b => own b ∨ b = D) ρ (w.putObj D o') own ρ := by
  refine ⟨rfl, rfl, rfl, by simp, fun b hb ho => ⟨World.putObj_heap_other fun e => ho (.inr e), fun h => ho (.inl h)⟩, fun b c e hb => ?_, fun _ _ h => h⟩
  obtain ⟨fz, hb⟩ := hb
  have : b ≠ D := by rintro rfl; rw [hD] at hb; cases hb; exact hc _ _ _ rfl
  exact ⟨c, ⟨fz, by rw [World.putObj_heap_other this]; exact hb⟩, rfl⟩

theorem AV.rep_obj {own : Nat → Prop} {ρ : Names} {o' : Obj} (hD : w.heap[D]? = some o) (hc : ∀ c t fz, o ≠ .cells c t fz) (x : AV) (v : Value) (h : x.rep w own ρ v) : x.rep (w.putObj D o') own ρ v :=
  AV.rep_ext (obj_ext hD hc) x v (AV.rep_widen (cell_none_of hD hc) x v h)

theorem HR.obj {F : Nat → Prop} {ρ : Names} {h : Nat → Option Blk} {o' : Obj} (hD : w.heap[D]? = some o) (hc : ∀ c t fz, o ≠ .cells c t fz) (hno : ¬ own ρ h D) (hh : HR F w ρ h) : HR F (w.putObj D o') ρ h := by
  refine ⟨fun id x hx => ?_, fun b hb => ⟨by simpa using (hh.far b hb).1, (hh.far b hb).2⟩, hh.inj, fun p hp => ?_, fun g hg => ?_, fun g hg => ?_⟩
  · obtain ⟨n, h1, h2⟩ := hh.blk id x hx
    refine ⟨n, h1, ?_⟩
    cases n with
    | zero => exact h2
    | succ b =>
      have hb : b ≠ D := by rintro rfl; exact hno ⟨id, by simp [hx], h1⟩
      exact Blk.rep_ext (obj_ext hD hc) (World.putObj_heap_other hb) x (Blk.rep_widen (cell_none_of hD hc) x h2)
  · obtain ⟨h1, e, k, h2⟩ := hh.gl.1 p hp
    have hb : p.1 ≠ D := by intro e'; rw [e', hD] at h2; cases h2; exact hc _ _ _ rfl
    exact ⟨h1, e, k, by rw [World.putObj_heap_other hb]; exact h2⟩
  · obtain ⟨h1, tp, p, e, k, h2⟩ := hh.gl.2.1 g hg
    have hb : g ≠ D := by intro e'; rw [e', hD] at h2; cases h2; exact hc _ _ _ rfl
    exact ⟨h1, tp, p, e, k, by rw [World.putObj_heap_other hb]; exact h2⟩
  · obtain ⟨h1, m, h2⟩ := hh.gl.2.2 g hg
    have hb : g ≠ D := by
      rintro rfl
      cases o <;> first | exact hc _ _ _ rfl | simp [World.cell?, hD] at h2
    exact ⟨h1, m, (cell_same (World.putObj_heap_other hb)).trans h2⟩

theorem R.obj {E : Env} {s : St} {ρ : Names} {a a' : Act} {o' : Obj} (hR : R E s ρ a w) (hD : w.heap[D]? = some o) (hc : ∀ c t fz, o ≠ .cells c t fz) (hno : ¬ own ρ (hget s.h) D) (hsz : E.w0.heap.size ≤ D) (ht : a'.tmps = a.tmps)
    (hdf : DfOK E.marks E.w0 (own ρ (hget s.h)) a' (w.putObj D o')) : R E s ρ a' (w.putObj D o') := by
  obtain ⟨r1, r2, r3, r4, r5, r6, r7, r8⟩ := hR
  refine ⟨fun i v hi => ?_, r2.obj hD hc hno, r3, ⟨r4.os, r4.tape, r4.output, by simpa using r4.size, fun b hb ho => ?_, fun b c e hb => ?_, r4.names⟩, r5, r6, hdf, by rw [ht]; exact r8⟩
  · rw [ht]
    obtain ⟨u, h1, h2⟩ := r1 i v hi
    exact ⟨u, h1, AV.rep_obj hD hc v u h2⟩
  · obtain ⟨h1, h2⟩ := r4.same b hb ho
    exact ⟨(World.putObj_heap_other (by omega)).trans h1, h2⟩
  · obtain ⟨c', ⟨fz, h1⟩, h2⟩ := r4.row b c e hb
    have : b ≠ D := by rintro rfl; rw [hD] at h1; cases h1; exact hc _ _ _ rfl
    exact ⟨c', ⟨fz, by rw [World.putObj_heap_other this]; exact h1⟩, h2⟩
end

/-! ### regions -/
structure Rec where
  tk : List Nat
  hk : List Nat
  pk : List Nat
  nk : List Nat

def wantedS (ops : Array Oper) (t : List (Nat × AV)) : Option (Nat × Bool) → Prop
  | none => True
  | some (j, want) => ∃ d, (ops[j]?).bind (·.dst) = some d ∧ tget t d = some (bA want)

def unwantedS (ops : Array Oper) (t : List (Nat × AV)) : Option (Nat × Bool) → Prop
  | none => False
  | some (j, want) => ∃ d, (ops[j]?).bind (·.dst) = some d ∧ (tget t d = some (bA (!want)) ∨ tget t d = some .undef)

inductive Run (P : Program) (nt : Nat) (ops : Array Oper) : List Oper → St → List Rec → St → Prop
  | nil (s : St) : Run P nt ops [] s [] s
  | step {o : Oper} {rest : List Oper} {s s' : St} {tr : List Rec} {T : List (Nat × AV)} {H : List (Nat × Blk)} {nid : List Nat} {v : AV} {puts : List (Nat × Option Blk)} {nx : Nat}
      (hw : wantedS ops s.t o.guard) (hl : LTr P o T H nid v puts) (hT : ∀ p ∈ T, tget s.t p.1 = some p.2) (hH : ∀ p ∈ H, hget s.h p.1 = some p.2)
      (hn : ∀ id ∈ nid, s.nx ≤ id ∧ id < nx) (hx : s.nx ≤ nx) (hd : dOK nt o.dst = true) (hr : Run P nt ops rest (s.step o.dst v puts nx) tr s') :
      Run P nt ops (o :: rest) s (⟨T.map (·.1), H.map (·.1), puts.map (·.1), nid⟩ :: tr) s'
  | skip {o : Oper} {rest : List Oper} {s s' : St} {tr : List Rec} (hw : unwantedS ops s.t o.guard) (hd : dOK nt o.dst = true) (hr : Run P nt ops rest (s.step o.dst .undef [] s.nx) tr s') :
      Run P nt ops (o :: rest) s (⟨[], [], [], []⟩ :: tr) s'
  | skipx {o : Oper} {rest : List Oper} {s s' : St} {tr : List Rec} {nx : Nat} (hw : unwantedS ops s.t o.guard) (hd : dOK nt o.dst = true) (hx : s.nx ≤ nx) (hr : Run P nt ops rest (s.step o.dst .undef [] nx) tr s') :
      Run P nt ops (o :: rest) s (⟨[], [], [], []⟩ :: tr) s'
  | eqv {l : List Oper} {s s1 s' : St} {tr : List Rec} (ht : ∀ i, tget s1.t i = tget s.t i) (hh : ∀ i, hget s1.h i = hget s.h i) (hn : s1.nx = s.nx) (hr : Run P nt ops l s1 tr s') : Run P nt ops l s tr s'

theorem R.eqv {E : Env} {s s1 : St} {ρ : Names} {a : Act} {w : World} (ht : ∀ i, tget s1.t i = tget s.t i) (hh : ∀ i, hget s1.h i = hget s.h i) (hn : s1.nx = s.nx) (hR : R E s ρ a w) : R E s1 ρ a w := by
  have hh' : hget s1.h = hget s.h := funext hh
  obtain ⟨h1, h2, h3, h4, h5, h6, h7, h8⟩ := hR
  refine ⟨fun i v hi => ?_, by rw [hh']; exact h2, by rw [hn]; exact h3, by rw [hh']; exact h4, by rw [hh']; exact h5, by rw [hn]; exact h6, by rw [hh']; exact h7, h8⟩
  rw [ht] at hi; rw [hh']; exact h1 i v hi

theorem wanted_of {E : Env} {s : St} {ρ : Names} {a : Act} {w : World} {ops : Array Oper} {o : Oper} (hR : R E s ρ a w) (hw : wantedS ops s.t o.guard) : Region.wanted o (yielded ops a.tmps) = true := by
  unfold Region.wanted
  cases hg : o.guard with
  | none => rfl
  | some p =>
    obtain ⟨j, want⟩ := p
    rw [hg] at hw
    simp only [wantedS] at hw
    obtain ⟨d, h1, h2⟩ := hw
    obtain ⟨u, h3, h4⟩ := hR.tm d _ h2
    have := (rep_lit h4).1
    subst this
    simp [yielded, h1, h3]

theorem unwanted_of {E : Env} {s : St} {ρ : Names} {a : Act} {w : World} {ops : Array Oper} {o : Oper} (hR : R E s ρ a w) (hw : unwantedS ops s.t o.guard) : Region.wanted o (yielded ops a.tmps) = false := by
  unfold Region.wanted
  cases hg : o.guard with
  | none => rw [hg] at hw; exact hw.elim
  | some p =>
    obtain ⟨j, want⟩ := p
    rw [hg] at hw
    simp only [unwantedS] at hw
    obtain ⟨d, h1, h2 | h2⟩ := hw
    · obtain ⟨u, h3, h4⟩ := hR.tm d _ h2
      have := (rep_lit h4).1
      subst this
      cases want <;> simp [yielded, h1, h3]
    · obtain ⟨u, h3, h4⟩ := hR.tm d _ h2
      simp only [AV.rep] at h4
      subst h4
      simp [yielded, h1, h3, Go.undef]

theorem Run.wp {P : Program} {E : Env} {ops : Array Oper} {Q : Exit → Act → World → Prop} {l : List Oper} {s s' : St} {tr : List Rec} (hr : Run P E.nt ops l s tr s')
    (hQ : ∀ ρ a w, R E s' ρ a w → Q .normal a w) : ∀ (ix : List Nat) (hix : ix.map (ops[·]?) = l.map some) (ρ : Names) (a : Act) (w : World), R E s ρ a w → wpOpsIn (fen E.rd) 0 P ops Q ix a w := by
  induction hr with
  | nil s =>
    intro ix hix ρ a w hR
    have : ix = [] := by simpa using hix
    subst this
    exact hQ ρ a w hR
  | step hw hl hT hH hn hx hd hr ih =>
    intro ix hix ρ a w hR
    cases ix with
    | nil => simp at hix
    | cons i ix =>
      simp only [List.map_cons, List.cons.injEq] at hix
      simp only [wpOpsIn, hix.1, wanted_of hR hw, if_true]
      refine hl E.rd E.F ρ (hget _) a w _ Q hR.hp hH (fun id hid => hR.fr id (hn id hid).1) (fun p hp => hR.tm p.1 p.2 (hT p hp)) fun u w' ho => ?_
      obtain ⟨ρ', hR'⟩ := hR.out ho hn hx hd
      exact ih hQ ix hix.2 ρ' _ w' hR'
  | skip hw hd hr ih =>
    intro ix hix ρ a w hR
    cases ix with
    | nil => simp at hix
    | cons i ix =>
      simp only [List.map_cons, List.cons.injEq] at hix
      simp only [wpOpsIn, hix.1, unwanted_of hR hw, Bool.false_eq_true, if_false]
      obtain ⟨ρ', hR'⟩ := hR.out (nid := []) (v := .undef) (puts := []) (u := undef) (Out.same hR.hp (by simp [AV.rep])) (by simp) (Nat.le_refl _) hd
      exact ⟨fun f _ => fen_fn E.rd f, ih hQ ix hix.2 ρ' _ w hR'⟩
  | skipx hw hd hx hr ih =>
    intro ix hix ρ a w hR
    cases ix with
    | nil => simp at hix
    | cons i ix =>
      simp only [List.map_cons, List.cons.injEq] at hix
      simp only [wpOpsIn, hix.1, unwanted_of hR hw, Bool.false_eq_true, if_false]
      obtain ⟨ρ', hR'⟩ := hR.out (nid := []) (v := .undef) (puts := []) (u := undef) (Out.same hR.hp (by simp [AV.rep])) (by simp) hx hd
      exact ⟨fun f _ => fen_fn E.rd f, ih hQ ix hix.2 ρ' _ w hR'⟩
  | eqv ht hh hn hr ih =>
    intro ix hix ρ a w hR
    exact ih hQ ix hix ρ a w (hR.eqv ht hh hn)

/-! ### code -/
def post (E : Env) (K : Exit → St → Prop) (e : Exit) (a' : Act) (w' : World) : Prop := (∃ s' ρ', R E s' ρ' a' w' ∧ K e s') ∨ (e = .ret ∧ E.esc a' w')

def AWP (P : Program) (E : Env) (c : Code) (K : Exit → St → Prop) (s : St) : Prop :=
  ∀ ρ a w, R E s ρ a w → c.wpIn (fen E.rd) 0 P (post E K) a w

def Reg (P : Program) (nt : Nat) (ops : Array Oper) (l : List Oper) (s : St) (K : List Rec → St → Prop) : Prop := ∃ tr s', Run P nt ops l s tr s' ∧ K tr s'

section
variable {P : Program} {E : Env} {K : Exit → St → Prop} {s : St}

theorem awp_mono {c : Code} {K' : Exit → St → Prop} (h : AWP P E c K s) (hk : ∀ e s, K e s → K' e s) : AWP P E c K' s :=
  fun ρ a w hR => wpIn_mono (h ρ a w hR) fun e a w hp => hp.imp (fun ⟨s', ρ', h1, h2⟩ => ⟨s', ρ', h1, hk _ _ h2⟩) id

theorem awp_skip (h : K .normal s) : AWP P E .skip K s := fun ρ a w hR => wpIn_skip (.inl ⟨s, ρ, hR, h⟩)
theorem awp_ret (h : K .ret s) : AWP P E .ret K s := fun ρ a w hR => wpIn_ret (.inl ⟨s, ρ, hR, h⟩)
theorem awp_exit {id : Nat} (h : K (.exit id) s) : AWP P E (.exit id) K s := fun ρ a w hR => wpIn_exit (.inl ⟨s, ρ, hR, h⟩)

def thenK (next : St → Prop) (K : Exit → St → Prop) : Exit → St → Prop
  | .normal, s => next s
  | e, s => K e s

theorem awp_seq {x y : Code} (h : AWP P E x (thenK (AWP P E y K) K) s) : AWP P E (.seq x y) K s := by
  intro ρ a w hR
  refine wpIn_seq (wpIn_mono (h ρ a w hR) fun e a' w' hp => ?_)
  rcases hp with ⟨s', ρ', h1, h2⟩ | ⟨rfl, h1⟩
  · cases e with
    | normal => exact h2 ρ' a' w' h1
    | _ => exact .inl ⟨s', ρ', h1, h2⟩
  · exact .inr ⟨rfl, h1⟩

theorem awp_region {id : Nat} {l : List Oper} (h : Reg P E.nt ⟨l⟩ l s fun _ s' => K .normal s') : AWP P E (.region id ⟨l⟩ false) K s := by
  obtain ⟨tr, s', hr, hk⟩ := h
  intro ρ a w hR
  refine wpIn_region (hr.wp (fun ρ a w hR' => .inl ⟨s', ρ, hR', hk⟩) _ ?_ ρ a w hR)
  apply List.ext_getElem?
  intro i
  simp
  by_cases hi : i < l.length
  · simp [hi]
  · simp [hi, List.getElem?_eq_none (Nat.le_of_not_lt hi)]

theorem cond_eval {ρ : Names} {a : Act} {w : World} {c : Operand} {b : Bool} (hc : evF s.t c = some (bA b)) (hR : R E s ρ a w) : a.eval c = .bool b := by
  have hT : TR (foot c (bA b)) a w (sh E.F (own ρ (hget s.h))) ρ := by
    intro p hp
    cases c with
    | tmp i => simp [foot] at hp; subst hp; exact hR.tm i _ hc
    | _ => simp [foot] at hp
  exact (rep_lit (eval_rep (evAt_of hc) (List.Subset.refl _) hT)).1

theorem awp_cond {c : Operand} {x y : Code} {b : Bool} (hc : evF s.t c = some (bA b)) (h1 : b = true → AWP P E x K s) (h2 : b = false → AWP P E y K s) : AWP P E (.cond c x y) K s :=
  fun ρ a w hR => wpIn_cond_split (cond_eval hc hR) (fun h => h1 h ρ a w hR) (fun h => h2 h ρ a w hR)
theorem awp_cond_dec {c : Operand} {x y : Code} {p : Prop} [Decidable p] (hc : evF s.t c = some (bA (decide p))) (h1 : p → AWP P E x K s) (h2 : ¬ p → AWP P E y K s) : AWP P E (.cond c x y) K s :=
  awp_cond hc (fun h => h1 (of_decide_eq_true h)) (fun h => h2 (of_decide_eq_false h))
theorem awp_cond_t {c : Operand} {x y : Code} (hc : evF s.t c = some (bA true)) (h1 : AWP P E x K s) : AWP P E (.cond c x y) K s := awp_cond hc (fun _ => h1) (fun h => by cases h)
theorem awp_cond_f {c : Operand} {x y : Code} (hc : evF s.t c = some (bA false)) (h1 : AWP P E y K s) : AWP P E (.cond c x y) K s := awp_cond hc (fun h => by cases h) (fun _ => h1)

def blockK (id : Nat) (K : Exit → St → Prop) : Exit → St → Prop
  | .exit id', s => if id' = id then K .normal s else K (.exit id') s
  | e, s => K e s

theorem awp_block {id : Nat} {c : Code} (h : AWP P E c (blockK id K) s) : AWP P E (.block id c) K s := by
  intro ρ a w hR
  refine wpIn_block (wpIn_mono (h ρ a w hR) fun e a' w' hp => ?_)
  rcases hp with ⟨s', ρ', h1, h2⟩ | ⟨rfl, h1⟩
  · cases e with
    | exit id' =>
      simp only [Exit.inBlock, blockK] at h2 ⊢
      split
      · rename_i he; simp only [he, if_true] at h2; exact .inl ⟨s', ρ', h1, h2⟩
      · rename_i he; simp only [he, if_false] at h2; exact .inl ⟨s', ρ', h1, h2⟩
    | _ => exact .inl ⟨s', ρ', h1, h2⟩
  · exact .inr ⟨rfl, h1⟩

/-- What is known may be given up or said otherwise. -/
def Le (E : Env) (s s' : St) : Prop := ∀ ρ a w, R E s ρ a w → ∃ ρ', R E s' ρ' a w

theorem awp_le {c : Code} {s' : St} (hl : Le E s s') (h : AWP P E c K s') : AWP P E c K s := fun ρ a w hR => let ⟨ρ', hR'⟩ := hl ρ a w hR; h ρ' a w hR'

theorem wpIn_loop_ix {F : Fence} {n : Nat} {P : Program} {Q : Exit → Act → World → Prop} {a : Act} {w : World} {c : Code} {X : Type} (I : X → Act → World → Prop) (μ : X → Nat) (x0 : X) (h₀ : I x0 a w)
    (round : ∀ x a w, I x a w → c.wpIn F n P (Exit.then (fun a' w' => ∃ x', I x' a' w' ∧ μ x' < μ x) Q) a w) : (Code.loop c).wpIn F n P Q a w := by
  intro b k cs hro hb hr
  have key : ∀ j x a w, μ x = j → I x a w →
      ∃ e a' w', Q e a' w' ∧ ArrivesIn (Machine.fenced P F) P (lone (b.atR a (.code c :: .inLoop c :: k)) cs w) b k cs e a' w' := by
    intro j
    induction j using Nat.strongRecOn with
    | _ j ih =>
      intro x a w hn hI
      obtain ⟨e, a₁, w₁, hq, harr⟩ := round x a w hI b (.inLoop c :: k) cs hro hb hr
      cases e with
      | normal =>
        obtain ⟨x', hI₁, hlt⟩ := hq
        obtain ⟨e₂, a₂, w₂, hq₂, harr₂⟩ := ih (μ x') (hn ▸ hlt) x' a₁ w₁ rfl hI₁
        exact ⟨e₂, a₂, w₂, hq₂, .of_steps (StepsIn.trans harr (.one (fenced_calm (fr := b.atR a₁ (.inLoop c :: k)) hb hr rfl) stepR_inLoop)) harr₂⟩
      | _ => exact ⟨_, a₁, w₁, hq, .pass (x := .inLoop c) rfl (fun _ _ => .inl (by simp)) harr⟩
  obtain ⟨e, a', w', hq, harr⟩ := key _ x0 a w rfl h₀
  exact ⟨e, a', w', hq, .of_steps (.one (fenced_calm (fr := b.atR a (.code (.loop c) :: k)) hb hr rfl) stepR_loop) harr⟩

theorem awp_loop {X : Type} (Inv : X → St) (μ : X → Nat) {c : Code} (x0 : X) (h0 : Le E s (Inv x0))
    (hr : ∀ x, AWP P E c (thenK (fun s' => ∃ x', Le E s' (Inv x') ∧ μ x' < μ x) K) (Inv x)) : AWP P E (.loop c) K s := by
  intro ρ a w hR
  obtain ⟨ρ1, hR1⟩ := h0 ρ a w hR
  refine wpIn_loop_ix (fun x a w => ∃ ρ, R E (Inv x) ρ a w) μ x0 ⟨ρ1, hR1⟩ fun x a w ⟨ρ, hx⟩ => ?_
  refine wpIn_mono (hr x ρ a w hx) fun e a' w' hp => ?_
  rcases hp with ⟨s', ρ', h1, h2⟩ | ⟨rfl, h1⟩
  · cases e with
    | normal =>
      obtain ⟨x', h3, h4⟩ := h2
      obtain ⟨ρ2, h5⟩ := h3 ρ' a' w' h1
      exact ⟨x', ⟨ρ2, h5⟩, h4⟩
    | _ => exact .inl ⟨s', ρ', h1, h2⟩
  · exact .inr ⟨rfl, h1⟩
end

/-! ### giving up, renaming -/
mutual
def AV.ren (ν : Nat → Nat) : AV → AV
  | .fv x => .fv x
  | .ptr id k row col => .ptr (ν id) k row col
  | .rw id k off len => .rw (ν id) k off len
  | .rptr cells => .rptr cells
  | .fn f caps => .fn f (renL ν caps)
  | .agg cells => .agg (renL ν cells)
  | .tup l => .tup (renL ν l)
  | .undef => .undef
  | .top => .top
def renL (ν : Nat → Nat) : List AV → List AV
  | [] => []
  | x :: xs => x.ren ν :: renL ν xs
end

def Blk.ren (ν : Nat → Nat) : Blk → Blk
  | .cells e cs => .cells e (renL ν cs)
  | .rows e k rs => .rows e k rs

section
variable {w : World} {own : Nat → Prop} {ρ : Names} {ν : Nat → Nat}
mutual
theorem AV.rep_ren : ∀ (x : AV) (v : Value), (x.ren ν).rep w own ρ v ↔ x.rep w own (fun i => ρ (ν i)) v
  | .fv x, v => by simp [AV.ren, AV.rep]
  | .ptr id k row col, v => by simp [AV.ren, AV.rep]
  | .rw id k off len, v => by simp [AV.ren, AV.rep]
  | .rptr cells, v => by simp [AV.ren, AV.rep]
  | .fn f caps, v => by simp only [AV.ren, AV.rep]; exact exists_congr fun vs => and_congr_right fun _ => repL_ren caps vs
  | .agg cells, v => by simp only [AV.ren, AV.rep]; exact exists_congr fun vs => and_congr_right fun _ => and_congr_left fun _ => repL_ren cells vs
  | .tup l, v => by simp only [AV.ren, AV.rep]; exact exists_congr fun vs => and_congr_right fun _ => repL_ren l vs
  | .undef, v => by simp [AV.ren, AV.rep]
  | .top, v => by simp [AV.ren, AV.rep]
theorem repL_ren : ∀ (l : List AV) (vs : List Value), repL w own ρ (renL ν l) vs ↔ repL w own (fun i => ρ (ν i)) l vs
  | [], vs => by simp [renL, repL]
  | x :: xs, vs => by
    simp only [renL, repL]
    exact exists_congr fun u => exists_congr fun us => and_congr_right fun _ => and_congr (AV.rep_ren x u) (repL_ren xs us)
end

theorem Blk.rep_ren (b : Nat) (x : Blk) : (x.ren ν).rep w own ρ b ↔ x.rep w own (fun i => ρ (ν i)) b := by
  cases x with
  | cells e cs => simp only [Blk.ren, Blk.rep]; exact exists_congr fun vs => exists_congr fun rest => and_congr_right fun _ => and_congr_left fun _ => repL_ren cs vs
  | rows e k rs => simp [Blk.ren, Blk.rep]
end
end Go.Uw
