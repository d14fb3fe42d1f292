/- The statement 'for x := range f' in the abstract machine. Own work. -/
import Derived.Test.YtkcjomglcjhkgaaDoorUwU
set_option linter.unusedVariables false
set_option linter.unusedSimpArgs false
namespace Go.Uw
open Go

theorem HR.grow {F : Nat → Prop} {w w' : World} {ρ : Names} {h : Nat → Option Blk} (hE : Ext w (own ρ h) ρ w' (own ρ h) ρ) (hb : ∀ b, own ρ h b → w'.heap[b]? = w.heap[b]?) (hh : HR F w ρ h) : HR F w' ρ h := by
  refine ⟨fun id x hx => ?_, fun b hb' => ⟨Nat.lt_of_lt_of_le (hh.far b hb').1 hE.size, (hh.far b hb').2⟩, hh.inj, hh.gl.ext hE.sh⟩
  obtain ⟨n, h1, h2⟩ := hh.blk id x hx
  refine ⟨n, h1, ?_⟩
  cases n with
  | zero => exact h2
  | succ b => exact Blk.rep_ext hE.sh (hb b ⟨id, by simp [hx], h1⟩) x h2

theorem ext_alloc (w : World) (o : Obj) (own : Nat → Prop) (ρ : Names) : Ext w own ρ (w.alloc o) own ρ :=
  ⟨rfl, rfl, rfl, by simp, fun b hb ho => ⟨heap_alloc_old w _ hb, ho⟩, fun b c e ⟨fz, hc⟩ => ⟨c, ⟨fz, by rw [heap_alloc_old w _ (Array.getElem?_eq_some_iff.1 hc).1]; exact hc⟩, rfl⟩, fun _ _ h => h⟩

theorem own_lt {F : Nat → Prop} {w : World} {ρ : Names} {h : Nat → Option Blk} (hh : HR F w ρ h) {b : Nat} (hb : own ρ h b) : b < w.heap.size := by
  obtain ⟨id, h1, h2⟩ := hb
  obtain ⟨x, hx⟩ := Option.isSome_iff_exists.1 h1
  exact hh.lt hx h2

/-! ### what became of the heap since a world w0, block l (no cells, nobody's) left out of account -/
def ol (own : Nat → Prop) (l : Nat) (b : Nat) : Prop := own b ∨ b = l

theorem Ext.wide {w w' : World} {own own' : Nat → Prop} {ρ ρ' : Names} (l : Nat) (h : Ext w own ρ w' own' ρ') : Ext w (ol own l) ρ w' (ol own' l) ρ' :=
  ⟨h.os, h.tape, h.output, h.size, fun b hb ho => by
    obtain ⟨h1, h2⟩ := h.same b hb fun e => ho (.inl e)
    exact ⟨h1, fun e => e.elim h2 fun e => ho (.inr e)⟩, h.row, h.names⟩

theorem Ext.narrow {w w' : World} {own own' : Nat → Prop} {ρ ρ' : Names} {l : Nat} (h : Ext w (ol own l) ρ w' (ol own' l) ρ') (hl : l < w.heap.size → ¬ own l → w'.heap[l]? = w.heap[l]? ∧ ¬ own' l) : Ext w own ρ w' own' ρ' :=
  ⟨h.os, h.tape, h.output, h.size, fun b hb ho => by
    by_cases hbl : b = l
    · subst hbl; exact hl hb ho
    · obtain ⟨h1, h2⟩ := h.same b hb fun e => e.elim ho hbl
      exact ⟨h1, fun e => h2 (.inl e)⟩, h.row, h.names⟩

theorem ext_obj {w : World} {own : Nat → Prop} {ρ : Names} {l : Nat} {o o' : Obj} (hD : w.heap[l]? = some o) (hc : ∀ c t fz, o ≠ .cells c t fz) : Ext w (ol own l) ρ (w.putObj l o') (ol own l) ρ := by
  refine ⟨rfl, rfl, rfl, by simp, fun b hb ho => ⟨World.putObj_heap_other fun e => ho (.inr e), ho⟩, fun b c e hb => ?_, fun _ _ h => h⟩
  obtain ⟨fz, hb⟩ := hb
  have : b ≠ l := by rintro rfl; rw [hD] at hb; cases hb; exact hc _ _ _ rfl
  exact ⟨c, ⟨fz, by rw [World.putObj_heap_other this]; exact hb⟩, rfl⟩

structure Hp (l : Nat) (F : Nat → Prop) (w0 : World) (own0 : Nat → Prop) (ρ0 : Names) (h : List (Nat × Option Blk)) (nx : Nat) (ρ : Names) (w : World) : Prop where
  hp : HR F w ρ (hget h)
  fr : ∀ id, nx ≤ id → ρ id = none
  ext : Ext w0 (ol own0 l) ρ0 w (ol (own ρ (hget h)) l) ρ
  old : ∀ id b, (hget h id).isSome = true → ρ id = some (b + 1) → own0 b ∨ w0.heap.size ≤ b
  nl : ¬ own ρ (hget h) l

section
variable {l : Nat} {F : Nat → Prop} {w0 w w' : World} {own0 : Nat → Prop} {ρ0 ρ ρ' : Names} {h h' : List (Nat × Option Blk)} {nx nx' : Nat}

theorem Hp.refl (hp : HR F w ρ (hget h)) (fr : ∀ id, nx ≤ id → ρ id = none) (nl : ¬ own ρ (hget h) l) : Hp l F w (own ρ (hget h)) ρ h nx ρ w := ⟨hp, fr, Ext.refl, fun id b h1 h2 => .inl ⟨id, h1, h2⟩, nl⟩

theorem Hp.transn {ρb : Names} (h1 : Hp l F w0 own0 ρ0 h nx ρ w) (h2 : Hp l F w (own ρ (hget h)) ρb h' nx' ρ' w') (hn : ∀ id b, ρ0 id = some b → ρb id = some b) : Hp l F w0 own0 ρ0 h' nx' ρ' w' :=
  ⟨h2.hp, h2.fr, ⟨h2.ext.os.trans h1.ext.os, h2.ext.tape.trans h1.ext.tape, h2.ext.output.trans h1.ext.output, Nat.le_trans h1.ext.size h2.ext.size, fun b hb ho => by
      obtain ⟨g1, g2⟩ := h1.ext.same b hb ho
      obtain ⟨g3, g4⟩ := h2.ext.same b (Nat.lt_of_lt_of_le hb h1.ext.size) g2
      exact ⟨g3.trans g1, g4⟩, fun b c e hc => by
      obtain ⟨c', g1, g2⟩ := h1.ext.row b c e hc
      obtain ⟨c'', g3, g4⟩ := h2.ext.row b c' e g1
      exact ⟨c'', g3, g4.trans g2⟩, fun id b hi => h2.ext.names _ _ (hn _ _ hi)⟩, fun id b g1 g2 => (h2.old id b g1 g2).elim (fun ⟨i, g3, g4⟩ => h1.old i b g3 g4) fun g => .inr (Nat.le_trans h1.ext.size g), h2.nl⟩

theorem Hp.trans (h1 : Hp l F w0 own0 ρ0 h nx ρ w) (h2 : Hp l F w (own ρ (hget h)) ρ h' nx' ρ' w') : Hp l F w0 own0 ρ0 h' nx' ρ' w' :=
  ⟨h2.hp, h2.fr, h1.ext.trans h2.ext, fun id b g1 g2 => (h2.old id b g1 g2).elim (fun ⟨i, g3, g4⟩ => h1.old i b g3 g4) fun g => .inr (Nat.le_trans h1.ext.size g), h2.nl⟩

theorem Hp.obj {o o' : Obj} (h1 : Hp l F w0 own0 ρ0 h nx ρ w) (hD : w.heap[l]? = some o) (hc : ∀ c t fz, o ≠ .cells c t fz) : Hp l F w0 own0 ρ0 h nx ρ (w.putObj l o') :=
  ⟨h1.hp.obj hD hc h1.nl, h1.fr, h1.ext.trans (ext_obj hD hc), h1.old, h1.nl⟩

theorem Hp.alloc {o : Obj} (h1 : Hp l F w0 own0 ρ0 h nx ρ w) : Hp l F w0 own0 ρ0 h nx ρ (w.alloc o) :=
  ⟨h1.hp.grow (ext_alloc w o _ _) (fun b hb => heap_alloc_old w _ (own_lt h1.hp hb)), h1.fr, h1.ext.trans ((ext_alloc w o _ _).wide l), h1.old, h1.nl⟩

theorem Hp.of_R {E : Env} {s : St} {a : Act} (hR : R E s ρ a w) (nl : ¬ own ρ (hget s.h) l) : Hp l E.F E.w0 E.own0 E.ρ0 s.h s.nx ρ w := ⟨hR.hp, hR.fr, hR.ext.wide l, hR.old, nl⟩

/-- a value that was there is there -/
theorem Hp.rep (h1 : Hp l F w0 own0 ρ0 h nx ρ w) (hn : ∀ o, w0.cell? ⟨l, o, none⟩ = none) {x : AV} {v : Value} (hx : x.rep w0 (sh F own0) ρ0 v) : x.rep w (sh F (own ρ (hget h))) ρ v := by
  have e1 : (fun b => sh F own0 b ∨ b = l) = sh F (ol own0 l) := by
    funext b; apply propext; simp only [sh, ol]
    constructor
    · rintro ((h | h) | h)
      · exact .inl (.inl h)
      · exact .inr h
      · exact .inl (.inr h)
    · rintro ((h | h) | h)
      · exact .inl (.inl h)
      · exact .inr h
      · exact .inl (.inr h)
  have h2 := AV.rep_widen hn x v hx
  rw [e1] at h2
  exact AV.rep_own (fun b hb => hb.imp .inl id) (AV.rep_ext h1.ext.sh x v h2)

theorem R.of_Hp {E : Env} {t : List (Nat × AV)} {a : Act} (h1 : Hp l E.F E.w0 E.own0 E.ρ0 h nx ρ w) (hl : l < E.w0.heap.size → w.heap[l]? = E.w0.heap[l]?)
    (tm : ∀ i v, tget t i = some v → ∃ u, a.tmps[i]? = some u ∧ v.rep w (sh E.F (own ρ (hget h))) ρ u) (n0 : E.n0 ≤ nx) (df : DfOK E.marks E.w0 (own ρ (hget h)) a w) (sz : a.tmps.size = E.nt) : R E ⟨t, h, nx⟩ ρ a w :=
  ⟨tm, h1.hp, h1.fr, h1.ext.narrow fun g1 _ => ⟨hl g1, h1.nl⟩, h1.old, n0, df, sz⟩
end

/-- the names below n -/
def cut (n : Nat) (ρ : Names) : Names := fun id => if id < n then ρ id else none
theorem cut_none {n : Nat} {ρ : Names} : ∀ id, n ≤ id → cut n ρ id = none := fun id h => by simp [cut]; omega
theorem cut_le {n : Nat} {ρ ρ' : Names} (h : ∀ id b, ρ id = some b → ρ' id = some b) : ∀ id b, cut n ρ id = some b → ρ' id = some b := fun id b hb => by
  unfold cut at hb
  split at hb
  · exact h _ _ hb
  · cases hb
theorem cut_in {n : Nat} {ρ ρ' : Names} (hn : ∀ id, n ≤ id → ρ id = none) (h : ∀ id b, ρ id = some b → ρ' id = some b) : ∀ id b, ρ id = some b → cut n ρ' id = some b := fun id b hb => by
  unfold cut
  split
  · exact h _ _ hb
  · rw [hn id (by omega)] at hb; cases hb
theorem ext_cut {w : World} {own : Nat → Prop} {n : Nat} {ρ : Names} : Ext w own (cut n ρ) w own ρ := ⟨rfl, rfl, rfl, Nat.le_refl _, fun _ _ h => ⟨rfl, h⟩, fun _ c _ h => ⟨c, h, rfl⟩, cut_le fun _ _ h => h⟩

/-- what the walk of the function that is ranged over may use: a call of yield in the state of a round x -/
def YOK (P : Program) (E : Env) (l : Nat) {X : Type} (Q : X → Prop) (ln : X → AV) (Hy : X → List (Nat × Option Blk)) (Ny : X → Nat) (go : X → Bool) (Hn : X → List (Nat × Option Blk)) (Nn : X → Nat) : Prop :=
  ∀ (x : X), Q x → ∀ (t : List (Nat × AV)) (ρ : Names) (a : Act) (w : World) (dst : Option Tmp) (yo xo : Operand) (at_ : Array TypeId) (ty : TypeId) (pos : String) (af : Array Edge) (g : Option (Nat × Bool)) (next : Act → World → Prop) (Z : Exit → Act → World → Prop),
    R E ⟨t, Hy x, Ny x⟩ ρ a w → (∀ i v, tget t i = some v → v.idsIn (List.range E.n0) = true) → evF t yo = some (lit (.func (.yield l) #[] #[])) → evF t xo = some (ln x) → dOK E.nt dst = true →
    (go x = true → ∀ ρ' w', R E (St.step ⟨t, Hn x, Nn x⟩ dst (bA true) [] (Nn x)) ρ' (a.put dst (.bool true)) w' → next (a.put dst (.bool true)) w') →
    (go x = false → ∀ w', E.esc { a with defers := [] } w' → next (a.put dst (.bool false)) w') →
    (Oper.mk dst (.call ⟨.value yo, ⟨[xo]⟩, at_⟩) ty pos af g).wpIn (fen E.rd) 0 P a w next Z

theorem yield_run {P : Program} {l : Nat} {r : Loop} {eval : Operand → Value} {dst : Option Tmp} {yo xo : Operand} {at_ : Array TypeId} {ty : TypeId} {pos : String} {af : Array Edge} {g : Option (Nat × Bool)} {w : World}
    (hy : eval yo = .func (.yield l) #[] #[]) (h : w.heap[l]? = some (.loop r)) (hs : r.params.size = 1) :
    (execOp eval ⟨dst, .call ⟨.value yo, ⟨[xo]⟩, at_⟩, ty, pos, af, g⟩).run P w = .ok (.round l r.fn ((r.params.zip #[eval xo]).foldl (fun tmps (t, a) => tmps.setIfInBounds t a) r.tmps) r.assign r.body) w := by
  have := run_yield (P := P) (args := #[eval xo]) h (by simp [hs])
  simp [execOp, resolve, hy, Deferred.ofValue, invoke, this]

set_option maxHeartbeats 1000000 in
theorem awp_range {P : Program} {E : Env} {K : Exit → St → Prop} {t : List (Nat × AV)} {h : List (Nat × Option Blk)} {n : Nat} {g p : Tmp} {assign body : Code} {gf : FuncId} {gfn : Func} {gc : Code} {caps : List AV}
    (hf : P.funcs[gf]? = some gfn) (hb : gfn.body = some gc) (hres : gfn.results = #[]) (hcb : callB P gf = true) (hcl : caps.length + 1 ≤ gfn.ntmps) (hrd : E.rd = none) (hmk : E.marks = true) (hp : Nat.blt p E.nt = true)
    (hg : tget t g = some (.fn gf caps))
    {X : Type} (Q : X → Prop) (ln : X → AV) (Hy : X → List (Nat × Option Blk)) (Ny : X → Nat) (go : X → Bool) (Hn : X → List (Nat × Option Blk)) (Nn : X → Nat) (Hs : X → List (Nat × Option Blk)) (Ns : X → Nat)
    (Qd : X → Prop) (Hd : X → List (Nat × Option Blk)) (Nd : X → Nat) (s1 : X → List (Nat × AV)) (hfv : ∀ x, ∃ y, ln x = .fv y)
    (hit : ∀ (w1 : World) (own1 : Nat → Prop) (ρ1 : Names) (F : Nat → Prop) (l : Nat) (esc : Act → World → Prop), (∀ id, n ≤ id → ρ1 id = none) → (∀ (a a' : Act) (w : World), a'.defers = [] → esc a w → esc a' w) →
      YOK P ⟨w1, own1, ρ1, n, gfn.ntmps, F, none, false, esc⟩ l Q ln Hy Ny go Hn Nn →
      AWP P ⟨w1, own1, ρ1, n, gfn.ntmps, F, none, false, esc⟩ gc (fun e s' => e = .normal ∧ ∃ x, Qd x ∧ (∀ i, hget (Hd x) i = hget s'.h i) ∧ Nd x = s'.nx) ⟨zipT 0 (lit (.func (.yield l) #[] #[]) :: caps), h, n⟩)
    (hassign : ∀ x, Q x → ∀ (w1 : World) (own1 : Nat → Prop) (ρ1 : Names) (F : Nat → Prop) (l : Nat), (∀ id, n ≤ id → ρ1 id = none) →
      AWP P ⟨w1, own1, ρ1, n, E.nt, F, some l, false, fun _ _ => False⟩ assign (fun e s' => e = .normal ∧ s' = ⟨s1 x, Hy x, Ny x⟩) ⟨(p, ln x) :: t, Hy x, Ny x⟩)
    (hbody : ∀ x, Q x → ∀ (w1 : World) (own1 : Nat → Prop) (ρ1 : Names) (F : Nat → Prop) (l : Nat), (∀ id, n ≤ id → ρ1 id = none) →
      AWP P ⟨w1, own1, ρ1, n, E.nt, F, some l, false, fun _ _ => False⟩ body (fun e s' => (e = .normal ∧ go x = true ∧ Le ⟨w1, own1, ρ1, n, E.nt, F, some l, false, fun _ _ => False⟩ s' ⟨[], Hn x, Nn x⟩) ∨
        (e = .ret ∧ go x = false ∧ Le ⟨w1, own1, ρ1, n, E.nt, F, some l, false, fun _ _ => False⟩ s' ⟨[], Hs x, Ns x⟩)) ⟨s1 x, Hy x, Ny x⟩)
    (hdone : ∀ x, Qd x → K .normal ⟨t, Hd x, Nd x⟩) (hstop : ∀ x, Q x → go x = false → K .ret ⟨t, Hs x, Ns x⟩) :
    AWP P E (.rangeFunc (.tmp g) #[p] assign body) K ⟨t, h, n⟩ := by
  intro ρ a w hR
  have hfe : fen E.rd = Fence.wide := by rw [hrd]; rfl
  rw [hfe]
  refine wpIn_rangeFunc fun fn hfn => ?_
  obtain ⟨gv, hg1, hg2⟩ := hR.tm g _ hg
  simp only [AV.rep] at hg2
  obtain ⟨cvs, rfl, hcv⟩ := hg2
  have hge : a.eval (.tmp g) = .func (.func gf) #[] cvs.toArray := by simp [Act.eval, Array.getD_eq_getD_getElem?, hg1]
  obtain ⟨rec, hrec⟩ : ∃ rec : LoopState → Option Code → Loop, rec = fun st pe => { state := st, pending := pe, fn, tmps := a.tmps, params := #[p], assign, body, defers := w.heap.size } := ⟨_, rfl⟩
  obtain ⟨w1, hw1⟩ : ∃ w1, (w.alloc (.deferred (some []))).alloc (.loop (rec .ready none)) = w1 := ⟨_, rfl⟩
  obtain ⟨l, hl⟩ : ∃ l, l = w.heap.size + 1 := ⟨_, rfl⟩
  have hL1 : w1.heap[l]? = some (.loop (rec .ready none)) := by
    rw [← hw1, hl]; have := World.alloc_heap_new (w.alloc (.deferred (some []))) (.loop (rec .ready none)); rwa [World.size_alloc] at this
  have hK1 : w1.heap[w.heap.size]? = some (.deferred (some [])) := by
    rw [← hw1, heap_alloc_old _ _ (by simp)]; exact World.alloc_heap_new w _
  have hnc : ∀ st pe, ∀ c t fz, Obj.loop (rec st pe) ≠ .cells c t fz := fun _ _ _ _ _ h => by cases h
  -- the heap since the statement began
  have hnl0 : ¬ own ρ (hget h) l := fun hb => by have := own_lt hR.hp hb; omega
  have p0 : Hp l E.F w (own ρ (hget h)) ρ h n ρ w1 := by
    rw [← hw1]; exact (Hp.refl hR.hp hR.fr hnl0).alloc.alloc
  have hln : ∀ (W : World) (st : LoopState) (pe : Option Code), W.heap[l]? = some (.loop (rec st pe)) → ∀ o, W.cell? ⟨l, o, none⟩ = none := fun W st pe h o => cell_none_of h (hnc st pe) o
  have hw0n : ∀ o, w.cell? ⟨l, o, none⟩ = none := fun o => by
    unfold World.cell?
    rw [show w.heap[(⟨l, o, none⟩ : Addr).block]? = none from Array.getElem?_eq_none (by simp [hl])]
  have hfr : ∀ id, n ≤ id → ρ id = none := hR.fr
  -- what has become of the activation at the end of all
  have back : ∀ (h3 : List (Nat × Option Blk)) (n3 : Nat) (ρ3 : Names) (w3 : World), Hp l E.F w1 (own ρ (hget h)) ρ h3 n3 ρ3 w3 → n ≤ n3 → w3.heap[w.heap.size]? = some (.deferred (some [])) → ¬ own ρ3 (hget h3) w.heap.size →
      R E ⟨t, h3, n3⟩ ρ3 { a with defers := { target := .collected w.heap.size, args := #[] } :: a.defers } w3 := by
    intro h3 n3 ρ3 w3 hq hn hd hno
    have hq' : Hp l E.F w (own ρ (hget h)) ρ h3 n3 ρ3 w3 := p0.trans hq
    have hq'' : Hp l E.F E.w0 E.own0 E.ρ0 h3 n3 ρ3 w3 := (Hp.of_R hR hnl0).trans hq'
    refine R.of_Hp hq'' (fun hlt => ?_) (fun i v hi => ?_) (Nat.le_trans hR.n0 hn) ?_ hR.sz
    · have := hR.ext.size; omega
    · obtain ⟨u, u1, u2⟩ := hR.tm i v hi
      exact ⟨u, u1, hq'.rep hw0n u2⟩
    · obtain ⟨Ds, d1, d2, d3, d4⟩ := hR.df
      refine ⟨w.heap.size :: Ds, by simp [d1], List.nodup_cons.2 ⟨fun hm => ?_, d2⟩, (fun hf => by rw [hmk] at hf; cases hf), fun D hD => ?_⟩
      · have := (Array.getElem?_eq_some_iff.1 (d4 _ hm).1).1; omega
      · rcases List.mem_cons.1 hD with rfl | hD
        · exact ⟨hd, hR.ext.size, hno⟩
        · obtain ⟨e1, e2, e3⟩ := d4 D hD
          have hlt := (Array.getElem?_eq_some_iff.1 e1).1
          have := hq'.ext.same D hlt (fun e => e.elim e3 (by omega))
          exact ⟨this.1.trans e1, e2, fun e => this.2 (.inl e)⟩
  refine ⟨l, [{ target := .collected w.heap.size, args := #[] }], w1, { target := .fn (.func gf) cvs.toArray, args := #[.func (.yield l) #[] #[]] }, w1, gf, #[.func (.yield l) #[] #[]] ++ cvs.toArray, w1, ?_, ?_, fun _ _ => trivial, ?_, (fun h => by cases h), ?_⟩
  · rw [← hw1, hrec, hl]; exact run_enterLoop_outer _ _ _ _ _
  · simp only [resolve, hge]
    simp [Deferred.ofValue, Act.eval]
  · simp [invoke, run_callFunc hcb]
  -- the function that is ranged over
  let esc : Act → World → Prop := fun a' w' => a'.defers = [] ∧ ∃ x ρ3, Q x ∧ go x = false ∧ w'.heap[l]? = some (.loop (rec .done (some .ret))) ∧ w'.heap[w.heap.size]? = some (.deferred (some [])) ∧
    n ≤ Ns x ∧ ¬ own ρ3 (hget (Hs x)) w.heap.size ∧ Hp l E.F w1 (own ρ (hget h)) ρ (Hs x) (Ns x) ρ3 w'
  let E1 : Env := ⟨w1, own ρ (hget h), ρ, n, gfn.ntmps, E.F, none, false, esc⟩
  have hyok : YOK P E1 l Q ln Hy Ny go Hn Nn := by
    intro x hx tt ρ1 a1 W dst yo xo at_ ty pos af gd next Z hR1 hids hyo hxo hdst hcont hend
    have h1 := hR1.ext.same l (Array.getElem?_eq_some_iff.1 hL1).1 hnl0
    have hL : W.heap[l]? = some (.loop (rec .ready none)) := h1.1.trans hL1
    have hnl1 : ¬ own ρ1 (hget (Hy x)) l := h1.2
    have hnD0 : ¬ own ρ (hget h) w.heap.size := fun hb => by have := own_lt hR.hp hb; omega
    have h2 := hR1.ext.same w.heap.size (Array.getElem?_eq_some_iff.1 hK1).1 hnD0
    have hK : W.heap[w.heap.size]? = some (.deferred (some [])) := h2.1.trans hK1
    have ev1 : a1.eval yo = .func (.yield l) #[] #[] := by
      have := eval_rep (w := W) (own := sh E1.F (own ρ1 (hget (Hy x)))) (ρ := ρ1) (evAt_of hyo) (List.Subset.refl _) (fun q hq => hR1.tm q.1 q.2 (foot_ok hyo q hq))
      exact (rep_lit this).1
    have ev2 : (ln x).rep W (sh E1.F (own ρ1 (hget (Hy x)))) ρ1 (a1.eval xo) := eval_rep (evAt_of hxo) (List.Subset.refl _) (fun q hq => hR1.tm q.1 q.2 (foot_ok hxo q hq))
    have hyr := yield_run (P := P) (dst := dst) (yo := yo) (xo := xo) (at_ := at_) (ty := ty) (pos := pos) (af := af) (g := gd) (eval := a1.eval) (w := W) ev1 hL (by rw [hrec]; rfl)
    refine ⟨fun f _ => fen_fn none f, ?_⟩
    show (Oper.mk dst _ ty pos af gd).uponIn (fen none) 0 P a1 next Z _
    rw [fen_round, semAt_of hyr (fun d hd => by cases hd), hyr]
    refine ⟨(fun h => by cases h), ?_⟩
    -- the round's slots
    obtain ⟨a2, ha2⟩ : ∃ a2 : Act, a2 = ⟨((rec .ready none).params.zip #[a1.eval xo]).foldl (fun tmps (t, a) => tmps.setIfInBounds t a) (rec .ready none).tmps, []⟩ := ⟨_, rfl⟩
    have ha2' : a2 = ⟨a.tmps.setIfInBounds p (a1.eval xo), []⟩ := by rw [ha2, hrec]; simp
    have hfn' : (rec .ready none).fn = fn := by rw [hrec]
    have has : (rec .ready none).assign = assign := by rw [hrec]
    have hbo : (rec .ready none).body = body := by rw [hrec]
    have hpn : p < a.tmps.size := by rw [hR.sz]; rwa [Nat.blt_eq] at hp
    have q0 : Hp l E.F w (own ρ (hget h)) ρ (Hy x) (Ny x) ρ1 W := p0.trans (Hp.of_R hR1 hnl1)
    have hRr : R ⟨W, own ρ1 (hget (Hy x)), cut n ρ1, n, E.nt, E.F, some l, false, fun _ _ => False⟩ ⟨(p, ln x) :: t, Hy x, Ny x⟩ ρ1 a2 W := by
      refine ⟨fun i v hi => ?_, hR1.hp, hR1.fr, ext_cut, fun id b g1 g2 => .inl ⟨id, g1, g2⟩, hR1.n0, .nil (by rw [ha2']), by rw [ha2']; simpa using hR.sz⟩
      simp only [tget] at hi
      rw [ha2']
      by_cases hip : p = i
      · subst hip
        rw [beq_self] at hi; simp at hi; subst hi
        exact ⟨_, by simp [hpn], ev2⟩
      · rw [beq_ne hip] at hi
        obtain ⟨u, u1, u2⟩ := hR.tm i v hi
        exact ⟨u, by simp [hip, u1], q0.rep hw0n u2⟩
    have ha2t : ((rec .ready none).params.zip #[a1.eval xo]).foldl (fun tmps (t, a) => tmps.setIfInBounds t a) (rec .ready none).tmps = a2.tmps := by rw [ha2]
    rw [hfn', has, hbo, ha2t]
    refine roundIn_of_wpIn hfn ?_
    show assign.wpIn (fen (some l)) 0 P _ ⟨a2.tmps, []⟩ W
    have ha2d : (⟨a2.tmps, []⟩ : Act) = a2 := by rw [ha2']
    rw [ha2d]
    refine wpIn_mono (hassign x hx W (own ρ1 (hget (Hy x))) (cut n ρ1) E.F l cut_none ρ1 a2 W hRr) fun e a3 W1 hpost => ?_
    obtain ⟨s', ρ', hR2, rfl, rfl⟩ := hpost.resolve_right (fun h => h.2)
    -- the record is busy
    have k1 := hR2.ext.same l (Array.getElem?_eq_some_iff.1 hL).1 hnl1
    have hL1' : W1.heap[l]? = some (.loop (rec .ready none)) := k1.1.trans hL
    have k2 := hR2.ext.same w.heap.size (Array.getElem?_eq_some_iff.1 hK).1 h2.2
    have hK1' : W1.heap[w.heap.size]? = some (.deferred (some [])) := k2.1.trans hK
    have hbr := run_beginRound (P := P) hL1' (by rw [hrec])
    refine ⟨_, hbr, ?_⟩
    obtain ⟨W2, hW2⟩ : ∃ W2, W1.putObj l (.loop { rec .ready none with state := .busy }) = W2 := ⟨_, rfl⟩
    rw [hW2]
    have hL2 : W2.heap[l]? = some (.loop { rec .ready none with state := .busy }) := by rw [← hW2]; exact World.putObj_heap_same (Array.getElem?_eq_some_iff.1 hL1').1
    have hDl : w.heap.size ≠ l := by omega
    have hK2 : W2.heap[w.heap.size]? = some (.deferred (some [])) := by rw [← hW2]; exact (World.putObj_heap_other hDl).trans hK1'
    have c1 : Hp l E.F W (own ρ1 (hget (Hy x))) (cut n ρ1) (Hy x) (Ny x) ρ' W1 := Hp.of_R hR2 k1.2
    have c2 : Hp l E.F W (own ρ1 (hget (Hy x))) (cut n ρ1) (Hy x) (Ny x) ρ' W2 := by rw [← hW2]; exact c1.obj hL1' (hnc _ _)
    have hR3 : R ⟨W2, own ρ' (hget (Hy x)), cut n ρ', n, E.nt, E.F, some l, false, fun _ _ => False⟩ ⟨s1 x, Hy x, Ny x⟩ ρ' a3 W2 := by
      refine ⟨fun i v hi => ?_, c2.hp, c2.fr, ext_cut, fun id b g1 g2 => .inl ⟨id, g1, g2⟩, hR2.n0, .nil hR2.df.none, hR2.sz⟩
      obtain ⟨u, u1, u2⟩ := hR2.tm i v hi
      refine ⟨u, u1, ?_⟩
      rw [← hW2]
      exact AV.rep_obj hL1' (hnc _ _) v u u2
    refine wpIn_mono (hbody x hx W2 (own ρ' (hget (Hy x))) (cut n ρ') E.F l cut_none ρ' a3 W2 hR3) fun e a4 W3 hpost => ?_
    obtain ⟨s'', ρ'', hR4, hk4⟩ := hpost.resolve_right (fun h => h.2)
    have m1 := hR4.ext.same l (Array.getElem?_eq_some_iff.1 hL2).1 c2.nl
    have hL3 : W3.heap[l]? = some (.loop { rec .ready none with state := .busy }) := m1.1.trans hL2
    have hnc3 : ∀ c t fz, Obj.loop { rec .ready none with state := .busy } ≠ .cells c t fz := fun _ _ _ h => by cases h
    -- how the round is left
    have leave : ∀ (H3 : List (Nat × Option Blk)) (N3 : Nat), Le ⟨W2, own ρ' (hget (Hy x)), cut n ρ', n, E.nt, E.F, some l, false, fun _ _ => False⟩ s'' ⟨[], H3, N3⟩ → ∀ o', ∃ ρ3, n ≤ N3 ∧ (W3.putObj l o').heap[w.heap.size]? = some (.deferred (some [])) ∧ ¬ own ρ3 (hget H3) w.heap.size ∧
        Hp l E.F W (own ρ1 (hget (Hy x))) (cut n ρ1) H3 N3 ρ3 (W3.putObj l o') := by
      intro H3 N3 hle o'
      obtain ⟨ρ3, hR5⟩ := hle ρ'' a4 W3 hR4
      have m1' := hR5.ext.same l (Array.getElem?_eq_some_iff.1 hL2).1 c2.nl
      have m2 := hR5.ext.same w.heap.size (Array.getElem?_eq_some_iff.1 hK2).1 k2.2
      have c3 : Hp l E.F W2 (own ρ' (hget (Hy x))) (cut n ρ') H3 N3 ρ3 W3 := Hp.of_R hR5 m1'.2
      have c4 := (c2.transn c3 fun id b hb => by
        unfold cut at hb
        split at hb
        · rename_i hlt
          have := hR2.ext.names id b (by show cut n ρ1 id = some b; simp [cut, hlt, hb])
          simp [cut, hlt, this]
        · cases hb).obj (o' := o') hL3 hnc3
      exact ⟨ρ3, hR5.n0, (World.putObj_heap_other hDl).trans (m2.1.trans hK2), m2.2, c4⟩
    have hput : ∀ o' : Obj, (W3.putObj l o').heap[l]? = some o' := fun o' => World.putObj_heap_same (Array.getElem?_eq_some_iff.1 hL3).1
    have base : ∀ (H3 : List (Nat × Option Blk)) (N3 : Nat) (ρ3 : Names) (w' : World), Hp l E.F W (own ρ1 (hget (Hy x))) (cut n ρ1) H3 N3 ρ3 w' → Hp l E.F w1 (own ρ (hget h)) ρ H3 N3 ρ3 w' := fun H3 N3 ρ3 w' hq =>
      (Hp.of_R (l := l) hR1 hnl1).transn hq (cut_in hfr fun id b hb => hR1.ext.names id b hb)
    rcases hk4 with ⟨rfl, hgo, hle⟩ | ⟨rfl, hgo, hle⟩
    · -- it goes on
      obtain ⟨ρ3, d1, d2, d3, d4⟩ := leave _ _ hle (.loop (rec .ready none))
      refine ⟨_, _, run_endRound (P := P) none hL3, ?_⟩
      have hrr : ({ { rec .ready none with state := .busy } with state := if (none : Option Code).isNone then .ready else .done, pending := none } : Loop) = rec .ready none := by rw [hrec]; rfl
      rw [hrr]
      refine hcont hgo ρ3 _ ?_
      refine R.of_Hp (base _ _ _ _ d4) (fun _ => (hput _).trans hL1.symm) (fun i v hi => ?_) d1 (.nil ?_) ?_
      · simp only [St.step] at hi
        have hold : ∀ v, tget tt i = some v → ∃ u, a1.tmps[i]? = some u ∧ v.rep (W3.putObj l (.loop (rec .ready none))) (sh E1.F (own ρ3 (hget (Hn x)))) ρ3 u := fun v hi => by
          obtain ⟨u, u1, u2⟩ := hR1.tm i v hi
          have u3 := AV.rep_congr (ρ' := cut n ρ1) (l := List.range n) (fun id hid => by simp [cut, List.mem_range.1 hid]) v u (hids i v hi) u2
          exact ⟨u, u1, d4.rep (hln _ _ _ hL) u3⟩
        cases dst with
        | none => exact hold v hi
        | some d =>
          simp only [tget] at hi
          have hdl : d < a1.tmps.size := by rw [hR1.sz]; simpa [dOK, Nat.blt_eq] using hdst
          by_cases hdi : d = i
          · subst hdi
            rw [beq_self] at hi; simp at hi; subst hi
            exact ⟨_, put_get hdl, rep_lit_mk rfl⟩
          · rw [beq_ne hdi] at hi
            obtain ⟨u, u1, u2⟩ := hold v hi
            exact ⟨u, by rw [put_get_ne hdi]; exact u1, u2⟩
      · have := hR1.df.none
        cases dst <;> simpa [Act.put] using this
      · have := hR1.sz
        cases dst <;> simpa [Act.put] using this
    · -- it has left
      obtain ⟨ρ3, d1, d2, d3, d4⟩ := leave _ _ hle (.loop (rec .done (some .ret)))
      refine ⟨_, _, run_endRound (P := P) (some .ret) hL3, ?_⟩
      have hrr : ({ { rec .ready none with state := .busy } with state := if (some Code.ret : Option Code).isNone then .ready else .done, pending := some .ret } : Loop) = rec .done (some .ret) := by rw [hrec]; rfl
      rw [hrr]
      exact hend hgo _ ⟨rfl, x, ρ3, hx, hgo, hput _, d2, d1, d3, base _ _ _ _ d4⟩
  have hresr : ∀ (tmps : Array Value) (W : World), ∃ v, (results gfn tmps).run P W = .ok v W := fun tmps W => by
    unfold results
    rw [hres]
    exact ⟨.tuple #[], by simp⟩
  have hE01 : Ext w (own ρ (hget h)) ρ w1 (own ρ (hget h)) ρ := by
    rw [← hw1]; exact (ext_alloc _ _ _ _).trans (ext_alloc _ _ _ _)
  have hcv1 := repL_ext hE01.sh _ _ hcv
  have hvals : repL w1 (sh E.F (own ρ (hget h))) ρ (lit (.func (.yield l) #[] #[]) :: caps) (.func (.yield l) #[] #[] :: cvs) := by
    simp only [repL]; exact ⟨_, _, rfl, rep_lit_mk rfl, hcv1⟩
  have hlen := repL_length hcv
  have hnl1 : ¬ own ρ (hget h) l := hnl0
  have hnD1 : ¬ own ρ (hget h) w.heap.size := fun hb => by have := own_lt hR.hp hb; omega
  refine callsIn_of_wp (F := Fence.wide) hf hb trivial ?_
  have hR1 : R E1 ⟨zipT 0 (lit (.func (.yield l) #[] #[]) :: caps), h, n⟩ ρ { tmps := #[Value.func (.yield l) #[] #[]] ++ cvs.toArray ++ Array.replicate (gfn.ntmps - (#[Value.func (.yield l) #[] #[]] ++ cvs.toArray).size) undef, defers := [] } w1 := by
    refine ⟨fun i v hi => ?_, p0.hp, p0.fr, Ext.refl, fun id b g1 g2 => .inl ⟨id, g1, g2⟩, Nat.le_refl _, .nil rfl, ?_⟩
    · obtain ⟨_, u, g1, g2⟩ := zipT_get hvals hi
      refine ⟨u, ?_, g2⟩
      simp only [Nat.sub_zero] at g1
      have hlt : i < (Value.func (.yield l) #[] #[] :: cvs).length := (List.getElem?_eq_some_iff.1 g1).1
      have e1 : (#[Value.func (.yield l) #[] #[]] ++ cvs.toArray) = (Value.func (.yield l) #[] #[] :: cvs).toArray := by simp
      rw [e1, Array.getElem?_append_left (by simpa using hlt)]
      simpa using g1
    · show _ = gfn.ntmps
      simp
      omega
  refine wpIn_mono (hit w1 (own ρ (hget h)) ρ E.F l esc hfr (fun _ _ _ hd he => ⟨hd, he.2⟩) hyok ρ _ w1 hR1) fun e a' w' hpost => ?_
  rcases hpost with ⟨s', ρ', hR2, rfl, x, hx, hh, hn⟩ | ⟨rfl, hd, x, ρ3, hx, hgo, d1, d2, d3, d4, d5⟩
  · have k1 := hR2.ext.same l (Array.getElem?_eq_some_iff.1 hL1).1 hnl1
    have k2 := hR2.ext.same w.heap.size (Array.getElem?_eq_some_iff.1 hK1).1 hnD1
    have hL2 := k1.1.trans hL1
    obtain ⟨v, hv⟩ := hresr a'.tmps w'
    subst hrec
    refine ⟨hR2.df.none, v, hv, none, _, run_endLoop (P := P) hL2 (by simp), ?_⟩
    have := back _ _ _ _ ((Hp.of_R hR2 k1.2).obj hL2 (hnc _ _)) hR2.n0 ((World.putObj_heap_other (o := .loop { state := .exhausted, pending := none, fn, tmps := a.tmps, params := #[p], assign, body, defers := w.heap.size }) (show w.heap.size ≠ l by omega)).trans (k2.1.trans hK1)) k2.2
    exact .inl ⟨⟨t, Hd x, Nd x⟩, ρ', R.eqv (s := ⟨t, s'.h, s'.nx⟩) (fun _ => rfl) hh hn this, hdone x hx⟩
  · obtain ⟨v, hv⟩ := hresr a'.tmps w'
    subst hrec
    refine ⟨hd, v, hv, some .ret, _, run_endLoop (P := P) d1 (by simp), ?_⟩
    have := back _ _ _ _ (d5.obj d1 (hnc _ _)) d3 ((World.putObj_heap_other (o := .loop { state := .exhausted, pending := some .ret, fn, tmps := a.tmps, params := #[p], assign, body, defers := w.heap.size }) (show w.heap.size ≠ l by omega)).trans d2) d4
    exact wpIn_ret (.inl ⟨_, ρ3, this, hstop x hx hgo⟩)
end Go.Uw
