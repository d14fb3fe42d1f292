/- Regions that draw their order. Own work. -/
import Derived.Test.YtkcjomglcjhkgaaDoorUwO
import Derived.Orders
import Derived.OrdersIn
set_option linter.unusedVariables false
set_option linter.unusedSimpArgs false
namespace Go.Uw
open Go

/-- one operation of a run, carried out or passed over -/
structure Sd (P : Program) (nt : Nat) (ops : Array Oper) (o : Oper) (s : St) (r : Rec) (v : AV) (puts : List (Nat × Option Blk)) (nx : Nat) : Prop where
  hx : s.nx ≤ nx
  hd : dOK nt o.dst = true
  hn : ∀ id ∈ r.nk, s.nx ≤ id ∧ id < nx
  hp : r.pk = puts.map (·.1)
  act : (∃ (T : List (Nat × AV)) (H : List (Nat × Blk)), wantedS ops s.t o.guard ∧ LTr P o T H r.nk v puts ∧ (∀ p ∈ T, tget s.t p.1 = some p.2) ∧ (∀ p ∈ H, hget s.h p.1 = some p.2) ∧ r.tk = T.map (·.1) ∧ r.hk = H.map (·.1)) ∨
    (unwantedS ops s.t o.guard ∧ v = .undef ∧ puts = [] ∧ r = ⟨[], [], [], []⟩)

def Same (s s1 : St) : Prop := (∀ i, tget s1.t i = tget s.t i) ∧ (∀ i, hget s1.h i = hget s.h i) ∧ s1.nx = s.nx

section
variable {P : Program} {nt : Nat} {ops : Array Oper}

theorem wantedS_same {t t1 : List (Nat × AV)} (h : ∀ i, tget t1 i = tget t i) {g : Option (Nat × Bool)} (hw : wantedS ops t1 g) : wantedS ops t g := by
  cases g with
  | none => trivial
  | some p => obtain ⟨j, b⟩ := p; obtain ⟨d, h1, h2⟩ := hw; exact ⟨d, h1, by rw [← h]; exact h2⟩
theorem unwantedS_same {t t1 : List (Nat × AV)} (h : ∀ i, tget t1 i = tget t i) {g : Option (Nat × Bool)} (hw : unwantedS ops t1 g) : unwantedS ops t g := by
  cases g with
  | none => exact hw.elim
  | some p => obtain ⟨j, b⟩ := p; obtain ⟨d, h1, h2⟩ := hw; exact ⟨d, h1, by rw [← h]; exact h2⟩

theorem step_same {s s1 : St} (h : Same s s1) (d : Option Tmp) (v : AV) (puts : List (Nat × Option Blk)) (nx : Nat) : Same (s.step d v puts nx) (s1.step d v puts nx) := by
  refine ⟨fun i => ?_, fun i => ?_, rfl⟩
  · cases d with
    | none => exact h.1 i
    | some d => simp only [St.step, tget]; cases Nat.beq d i <;> simp [h.1 i]
  · simp only [St.step]
    rw [hget_append, hget_append, show hget s1.h = hget s.h from funext h.2.1]

theorem Sd.same {o : Oper} {s s1 : St} {r : Rec} {v : AV} {puts : List (Nat × Option Blk)} {nx : Nat} (h : Same s s1) (hs : Sd P nt ops o s1 r v puts nx) : Sd P nt ops o s r v puts nx := by
  obtain ⟨h1, h2, h3, h4, h5⟩ := hs
  refine ⟨h.2.2 ▸ h1, h2, h.2.2 ▸ h3, h4, ?_⟩
  rcases h5 with ⟨T, H, a1, a2, a3, a4, a5⟩ | ⟨a1, a2⟩
  · exact .inl ⟨T, H, wantedS_same h.1 a1, a2, fun p hp => by rw [← h.1]; exact a3 p hp, fun p hp => by rw [← h.2.1]; exact a4 p hp, a5⟩
  · exact .inr ⟨unwantedS_same h.1 a1, a2⟩

theorem Sd.run {o : Oper} {rest : List Oper} {s s' : St} {r : Rec} {tr : List Rec} {v : AV} {puts : List (Nat × Option Blk)} {nx : Nat} (hs : Sd P nt ops o s r v puts nx) (hr : Run P nt ops rest (s.step o.dst v puts nx) tr s') : Run P nt ops (o :: rest) s (r :: tr) s' := by
  obtain ⟨h1, h2, h3, h4, h5⟩ := hs
  obtain ⟨tk, hk, pk, nk⟩ := r
  rcases h5 with ⟨T, H, a1, a2, a3, a4, a5, a6⟩ | ⟨a1, rfl, rfl, a4⟩
  · simp only at h3 h4 a2 a5 a6
    subst h4; subst a5; subst a6
    exact .step a1 a2 a3 a4 h3 h1 h2 hr
  · cases a4
    have hr' : Run P nt ops rest (s.step o.dst .undef [] s.nx) tr s' ∨ True := .inr trivial
    refine Run.eqv (s1 := ⟨s.t, s.h, s.nx⟩) (fun _ => rfl) (fun _ => rfl) rfl ?_
    exact Run.skipx a1 h2 h1 hr

theorem Run.inv {o : Oper} {rest : List Oper} {s s' : St} {tr : List Rec} : ∀ {l : List Oper}, Run P nt ops l s tr s' → l = o :: rest → ∃ r tr' v puts nx, tr = r :: tr' ∧ Sd P nt ops o s r v puts nx ∧ Run P nt ops rest (s.step o.dst v puts nx) tr' s' := by
  intro l h
  induction h with
  | nil s => intro he; cases he
  | step hw hl hT hH hn hx hd hr ih => intro he; cases he; exact ⟨_, _, _, _, _, rfl, ⟨hx, hd, hn, rfl, .inl ⟨_, _, hw, hl, hT, hH, rfl, rfl⟩⟩, hr⟩
  | skip hw hd hr ih => intro he; cases he; exact ⟨_, _, _, _, _, rfl, ⟨Nat.le_refl _, hd, by simp, rfl, .inr ⟨hw, rfl, rfl, rfl⟩⟩, hr⟩
  | skipx hw hd hx hr ih => intro he; cases he; exact ⟨_, _, _, _, _, rfl, ⟨hx, hd, by simp, rfl, .inr ⟨hw, rfl, rfl, rfl⟩⟩, hr⟩
  | eqv ht hh hn hr ih =>
    intro he
    obtain ⟨r, tr', v, puts, nx, h1, h2, h3⟩ := ih he
    exact ⟨r, tr', v, puts, nx, h1, h2.same ⟨ht, hh, hn⟩, .eqv (step_same ⟨ht, hh, hn⟩ _ _ _ _).1 (step_same ⟨ht, hh, hn⟩ _ _ _ _).2.1 rfl h3⟩

/-! ### two operations that do not look at one another -/
def gkey (ops : Array Oper) (o : Oper) : List Nat :=
  match o.guard with
  | some (j, _) => match (ops[j]?).bind (·.dst) with | some d => [d] | none => []
  | none => []
def dkey (o : Oper) : List Nat := match o.dst with | some d => [d] | none => []

def disj (a b : List Nat) : Bool := a.all fun x => !(b.any fun y => Nat.beq x y)

theorem disj_spec {a b : List Nat} (h : disj a b = true) {x : Nat} (hx : x ∈ a) (hy : x ∈ b) : False := by
  have := List.all_eq_true.1 h x hx
  simp only [Bool.not_eq_true', List.any_eq_false] at this
  exact this x hy (beq_self x)

def indep (ops : Array Oper) (oa ob : Oper) (ra rb : Rec) : Bool :=
  disj (dkey oa) (rb.tk ++ gkey ops ob ++ dkey ob) && disj (dkey ob) (ra.tk ++ gkey ops oa) && disj ra.pk (rb.hk ++ rb.pk) && disj rb.pk ra.hk && (ra.nk.isEmpty || rb.nk.isEmpty)

theorem tget_step_ne {s : St} {o : Oper} {v : AV} {puts : List (Nat × Option Blk)} {nx i : Nat} (h : ¬ i ∈ dkey o) : tget (s.step o.dst v puts nx).t i = tget s.t i := by
  unfold dkey at h
  cases hd : o.dst with
  | none => rfl
  | some d =>
    rw [hd] at h
    simp only [St.step, tget]
    rw [beq_ne (by rintro rfl; simp at h)]
    rfl

theorem happ_ne {puts : List (Nat × Option Blk)} {h : Nat → Option Blk} {i : Nat} (hi : ¬ i ∈ puts.map (·.1)) : happ puts h i = h i := by
  induction puts with
  | nil => rfl
  | cons p l ih =>
    obtain ⟨j, x⟩ := p
    simp only [List.map_cons, List.mem_cons, not_or] at hi
    simp only [happ, beq_ne (Ne.symm hi.1), cond_false]
    exact ih hi.2

theorem happ_in : ∀ {puts : List (Nat × Option Blk)} {h h' : Nat → Option Blk} {i : Nat}, i ∈ puts.map (·.1) → happ puts h i = happ puts h' i
  | [], _, _, i, hi => by simp at hi
  | (j, x) :: l, h, h', i, hi => by
    by_cases hj : j = i
    · subst hj; simp [happ]
    · simp only [happ, beq_ne hj, cond_false]
      exact happ_in (by simp only [List.map_cons, List.mem_cons] at hi; exact hi.resolve_left (Ne.symm hj))

theorem hget_step_ne {s : St} {d : Option Tmp} {v : AV} {puts : List (Nat × Option Blk)} {nx i : Nat} (h : ¬ i ∈ puts.map (·.1)) : hget (s.step d v puts nx).h i = hget s.h i := by
  simp only [St.step, hget_append]
  exact happ_ne h

theorem wantedS_ne {t t1 : List (Nat × AV)} {o : Oper} (h : ∀ i ∈ gkey ops o, tget t1 i = tget t i) : (wantedS ops t1 o.guard ↔ wantedS ops t o.guard) ∧ (unwantedS ops t1 o.guard ↔ unwantedS ops t o.guard) := by
  unfold gkey at h
  cases hg : o.guard with
  | none => exact ⟨Iff.rfl, Iff.rfl⟩
  | some p =>
    obtain ⟨j, b⟩ := p
    rw [hg] at h
    simp only [wantedS, unwantedS]
    cases hd : (ops[j]?).bind (·.dst) with
    | none => simp
    | some d =>
      simp only [hd] at h
      simp [h d (by simp)]

theorem swap2 {oa ob : Oper} {s : St} {ra rb : Rec} {va vb : AV} {pa pb : List (Nat × Option Blk)} {na nb : Nat} (hi : indep ops oa ob ra rb = true)
    (ha : Sd P nt ops oa s ra va pa na) (hb : Sd P nt ops ob (s.step oa.dst va pa na) rb vb pb nb) :
    ∃ nb', Sd P nt ops ob s rb vb pb nb' ∧ Sd P nt ops oa (s.step ob.dst vb pb nb') ra va pa nb ∧ Same ((s.step oa.dst va pa na).step ob.dst vb pb nb) ((s.step ob.dst vb pb nb').step oa.dst va pa nb) := by
  simp only [indep, Bool.and_eq_true, Bool.or_eq_true] at hi
  obtain ⟨⟨⟨⟨i1, i2⟩, i3⟩, i4⟩, i5⟩ := hi
  obtain ⟨a1, a2, a3, a4, a5⟩ := ha
  obtain ⟨b1, b2, b3, b4, b5⟩ := hb
  have hnb : ∃ nb', s.nx ≤ nb' ∧ nb' ≤ nb ∧ (∀ id ∈ rb.nk, s.nx ≤ id ∧ id < nb') ∧ (∀ id ∈ ra.nk, nb' ≤ id ∧ id < nb) := by
    have b1' : na ≤ nb := b1
    rcases i5 with h | h
    · have : ra.nk = [] := by simpa using h
      exact ⟨nb, Nat.le_trans a1 b1', Nat.le_refl _, fun id hid => ⟨Nat.le_trans a1 (b3 id hid).1, (b3 id hid).2⟩, by simp [this]⟩
    · have : rb.nk = [] := by simpa using h
      exact ⟨s.nx, Nat.le_refl _, Nat.le_trans a1 b1', by simp [this], fun id hid => ⟨(a3 id hid).1, Nat.lt_of_lt_of_le (a3 id hid).2 b1'⟩⟩
  obtain ⟨nb', n1, n2, n3, n4⟩ := hnb
  have hgb : ∀ i ∈ gkey ops ob, tget (s.step oa.dst va pa na).t i = tget s.t i := fun i hi => tget_step_ne fun hd => disj_spec i1 hd (by simp [hi])
  have hga : ∀ i ∈ gkey ops oa, tget (s.step ob.dst vb pb nb').t i = tget s.t i := fun i hi => tget_step_ne fun hd => disj_spec i2 hd (by simp [hi])
  refine ⟨nb', ⟨n1, b2, n3, b4, ?_⟩, ⟨n2, a2, n4, a4, ?_⟩, fun i => ?_, fun i => ?_, rfl⟩
  · rcases b5 with ⟨T, H, c1, c2, c3, c4, c5, c6⟩ | ⟨c1, c2⟩
    · refine .inl ⟨T, H, (wantedS_ne hgb).1.1 c1, c2, fun p hp => ?_, fun p hp => ?_, c5, c6⟩
      · rw [← c3 p hp]; exact (tget_step_ne fun hd => disj_spec i1 hd (by rw [c5]; simp only [List.append_assoc, List.mem_append]; exact .inl (List.mem_map.2 ⟨p, hp, rfl⟩))).symm
      · rw [← c4 p hp]; exact (hget_step_ne fun hd => disj_spec i3 (by rw [a4]; exact hd) (by rw [c6]; simp only [List.mem_append]; exact .inl (List.mem_map.2 ⟨p, hp, rfl⟩))).symm
    · exact .inr ⟨(wantedS_ne hgb).2.1 c1, c2⟩
  · rcases a5 with ⟨T, H, c1, c2, c3, c4, c5, c6⟩ | ⟨c1, c2⟩
    · refine .inl ⟨T, H, (wantedS_ne hga).1.2 c1, c2, fun p hp => ?_, fun p hp => ?_, c5, c6⟩
      · rw [← c3 p hp]; exact tget_step_ne fun hd => disj_spec i2 hd (by rw [c5]; simp only [List.mem_append]; exact .inl (List.mem_map.2 ⟨p, hp, rfl⟩))
      · rw [← c4 p hp]; exact hget_step_ne fun hd => disj_spec i4 (by rw [b4]; exact hd) (by rw [c6]; exact List.mem_map.2 ⟨p, hp, rfl⟩)
    · exact .inr ⟨(wantedS_ne hga).2.2 c1, c2⟩
  · by_cases h1 : i ∈ dkey oa
    · have h2 : ¬ i ∈ dkey ob := fun h2 => disj_spec i1 h1 (by simp [h2])
      rw [tget_step_ne h2]
      unfold dkey at h1
      cases hd : oa.dst with
      | none => simp [hd] at h1
      | some d => simp [hd] at h1; subst h1; simp [St.step, tget]
    · rw [tget_step_ne h1]
      by_cases h2 : i ∈ dkey ob
      · unfold dkey at h2
        cases hd : ob.dst with
        | none => simp [hd] at h2
        | some d => simp [hd] at h2; subst h2; simp [St.step, tget]
      · rw [tget_step_ne h2, tget_step_ne h2, tget_step_ne h1]
  · by_cases h1 : i ∈ pa.map (·.1)
    · have h2 : ¬ i ∈ pb.map (·.1) := fun h2 => disj_spec i3 (by rw [a4]; exact h1) (by rw [b4]; simp [h2])
      rw [hget_step_ne h2]
      simp only [St.step, hget_append]
      exact happ_in h1
    · rw [hget_step_ne h1]
      by_cases h2 : i ∈ pb.map (·.1)
      · simp only [St.step, hget_append]
        exact happ_in h2
      · rw [hget_step_ne h2, hget_step_ne h2, hget_step_ne h1]

/-- an operation that looks at none of those ahead of it may be taken first -/
theorem Run.front {o : Oper} {r : Rec} {tr2 : List Rec} {l2 : List Oper} {s' : St} : ∀ (l1 : List Oper) (tr1 : List Rec) (s : St), tr1.length = l1.length → (∀ p ∈ l1.zip tr1, indep ops p.1 o p.2 r = true) →
    Run P nt ops (l1 ++ o :: l2) s (tr1 ++ r :: tr2) s' → Run P nt ops (o :: (l1 ++ l2)) s (r :: (tr1 ++ tr2)) s'
  | [], [], s, _, _, h => h
  | [], _ :: _, s, hl, _, _ => by simp at hl
  | _ :: _, [], s, hl, _, _ => by simp at hl
  | a :: l1, ra :: tr1, s, hl, hi, h => by
    obtain ⟨r', tr', v, puts, nx, h1, h2, h3⟩ := Run.inv h rfl
    simp only [List.cons_append, List.cons.injEq] at h1
    obtain ⟨rfl, rfl⟩ := h1
    have h4 := Run.front l1 tr1 _ (by simpa using hl) (fun p hp => hi p (by simp [hp])) h3
    obtain ⟨r2, tr2', v2, puts2, nx2, g1, g2, g3⟩ := Run.inv h4 rfl
    simp only [List.cons.injEq] at g1
    obtain ⟨rfl, rfl⟩ := g1
    obtain ⟨nb', k1, k2, k3⟩ := swap2 (hi (a, ra) (by simp)) h2 g2
    refine k1.run (k2.run (Run.eqv (fun i => (k3.1 i).symm) (fun i => (k3.2.1 i).symm) k3.2.2.symm g3))

/-! ### the orders that a region may draw -/
def baseDep (e : Edge) : Bool := match e.ground with | .textOnly _ => false | .gcOnly _ => false | _ => true

/-- does operation j wait for operation a, by the edges that bind in every mode? -/
def waits (l : List Oper) : Nat → Nat → Nat → Bool
  | 0, _, _ => false
  | fuel + 1, a, j =>
    match l[j]? with
    | none => false
    | some o => o.after.toList.any fun e => baseDep e && (Nat.beq e.on a || waits l fuel a e.on)

def pairsOK (l : List Oper) (lr : List (Oper × Rec)) : Nat → List (Oper × Rec) → Bool
  | _, [] => true
  | j, (o, r) :: rest => ((List.range j).all fun a => match lr[a]? with
      | some (oa, ra) => indep ⟨l⟩ oa o ra r || waits l 4 a j
      | none => false) && pairsOK l lr (j + 1) rest

def drawOK (l : List Oper) (tr : List Rec) : Bool := Nat.beq l.length tr.length && pairsOK l (l.zip tr) 0 (l.zip tr)

theorem pairsOK_spec {l : List Oper} {lr : List (Oper × Rec)} : ∀ {rest : List (Oper × Rec)} {k : Nat}, pairsOK l lr k rest = true → ∀ {i : Nat} {o : Oper} {r : Rec}, rest[i]? = some (o, r) → ∀ {a : Nat} {oa : Oper} {ra : Rec}, a < k + i → lr[a]? = some (oa, ra) →
    indep ⟨l⟩ oa o ra r = true ∨ waits l 4 a (k + i) = true
  | [], k, _, i, o, r, h, _, _, _, _, _ => by simp at h
  | (o0, r0) :: rest, k, h, 0, o, r, hi, a, oa, ra, ha, hl => by
    simp only [pairsOK, Bool.and_eq_true] at h
    simp at hi
    obtain ⟨rfl, rfl⟩ := hi
    have := List.all_eq_true.1 h.1 a (by simpa using ha)
    simp only [hl, Bool.or_eq_true] at this
    exact this
  | (o0, r0) :: rest, k, h, i + 1, o, r, hi, a, oa, ra, ha, hl => by
    simp only [pairsOK, Bool.and_eq_true] at h
    have := pairsOK_spec h.2 (i := i) (by simpa using hi) (a := a) (by omega) hl
    rwa [show k + 1 + i = k + (i + 1) by omega] at this

theorem waits_listed {l : List Oper} {D : Nat → Prop} (hD : ∀ j o, l[j]? = some o → D j → ∀ e ∈ o.after, baseDep e = true → D e.on) : ∀ (fuel a j : Nat), (∀ o, l[j]? = some o → ∀ e ∈ o.after, baseDep e = true → D e.on) → waits l fuel a j = true → D a
  | 0, a, j, _, h => by simp [waits] at h
  | fuel + 1, a, j, hj, h => by
    simp only [waits] at h
    cases ho : l[j]? with
    | none => simp [ho] at h
    | some o =>
      simp only [ho, List.any_eq_true, Bool.and_eq_true, Bool.or_eq_true] at h
      obtain ⟨e, he, hb, h1⟩ := h
      have hde := hj o ho e (by simpa using he) hb
      rcases h1 with h1 | h1
      · rw [← Nat.eq_of_beq_eq_true h1]; exact hde
      · exact waits_listed hD fuel a e.on (fun o' ho' => hD e.on o' ho' hde) h1

/-- the rest of a run, by the numbers of its operations -/
def pick (l : List Oper) (ix : List Nat) : List Oper := ix.filterMap (l[·]?)
def pickR (tr : List Rec) (ix : List Nat) : List Rec := ix.filterMap (tr[·]?)

theorem run_any {E : Env} {l : List Oper} {tr : List Rec} {Q : Exit → Act → World → Prop} (hok : drawOK l tr = true) {s' : St} (hQ : ∀ ρ a w, R E s' ρ a w → Q .normal a w) :
    ∀ (fuel : Nat) (listed : Array Bool) (ix : List Nat) (s : St) (ρ : Names) (a : Act) (w : World), listed.size = l.length → ix.length = fuel → ix.Pairwise (· < ·) → (∀ i, i ∈ ix ↔ i < l.length ∧ listed.getD i true = false) →
      (∀ j o, l[j]? = some o → listed.getD j false = true → ∀ e ∈ o.after, baseDep e = true → listed.getD e.on false = true) → (∀ j o, l[j]? = some o → ∀ e ∈ o.after, Region.binds .any e = true → e.on < j) →
      Run P E.nt ⟨l⟩ (pick l ix) s (pickR tr ix) s' → R E s ρ a w → wpAnyIn (fen E.rd) 0 P .any ⟨l⟩ Q fuel listed a w := by
  have hlen : l.length = tr.length := by simp only [drawOK, Bool.and_eq_true] at hok; exact Nat.eq_of_beq_eq_true hok.1
  have hbd : ∀ e : Edge, Region.binds .any e = baseDep e := by
    intro e
    unfold Region.binds baseDep
    cases e.ground <;> rfl
  intro fuel
  induction fuel with
  | zero =>
    intro listed ix s ρ a w hsz hil hpw hmem hdown hedge hr hR
    have hix : ix = [] := List.eq_nil_of_length_eq_zero hil
    subst hix
    refine ⟨?_, ?_⟩
    · unfold Region.ready
      apply List.filter_eq_nil_iff.2
      intro i hi
      have h1 : ¬ (i < l.length ∧ listed.getD i true = false) := fun h => by have := (hmem i).2 h; simp at this
      have h2 : i < l.length := by simpa using hi
      cases hq : listed.getD i true with
      | true => simp
      | false => exact absurd ⟨h2, hq⟩ h1
    · cases hr with
      | nil => exact hQ ρ a w hR
      | eqv ht hh hn hr' =>
        have : ∀ {l0 : List Oper} {s0 s1 : St} {tr0 : List Rec}, Run P E.nt ⟨l⟩ l0 s0 tr0 s1 → l0 = [] → R E s0 ρ a w → R E s1 ρ a w := by
          intro l0 s0 s1 tr0 h
          induction h with
          | nil s => intro _ h; exact h
          | step => intro he; cases he
          | skip => intro he; cases he
          | skipx => intro he; cases he
          | eqv ht hh hn _ ih => intro he h; exact ih he (h.eqv ht hh hn)
        exact hQ ρ a w (this hr' rfl (hR.eqv ht hh hn))
  | succ fuel ih =>
    intro listed ix s ρ a w hsz hil hpw hmem hdown hedge hr hR
    refine ⟨fun h0 => ?_, fun i hi => ?_⟩
    · -- the least of those left is ready
      cases ix with
      | nil => simp at hil
      | cons i ix =>
        exfalso
        have h1 := (hmem i).1 (by simp)
        have : i ∈ Region.ready .any ⟨l⟩ listed := by
          unfold Region.ready
          rw [List.mem_filter]
          refine ⟨by simpa using h1.1, ?_⟩
          have hl : (⟨l⟩ : Array Oper)[i]? = some l[i] := by simp [h1.1]
          simp only [h1.2, hl, Bool.not_false, Bool.true_and, Option.map_some, Option.getD_some, Array.all_eq_true]
          intro k hk
          cases hb : Region.binds .any l[i].after[k] with
          | false => simp
          | true =>
            have hlt := hedge i l[i] (by simp [h1.1]) l[i].after[k] (Array.getElem_mem hk) hb
            have hn : ¬ l[i].after[k].on ∈ i :: ix := by
              intro hm
              rcases List.mem_cons.1 hm with hm | hm
              · omega
              · have := (List.pairwise_cons.1 hpw).1 _ hm; omega
            have h3 : ¬ (listed.getD l[i].after[k].on true = false) := fun h => hn ((hmem _).2 ⟨by omega, h⟩)
            have h4 : l[i].after[k].on < listed.size := by omega
            simp [Array.getD, h4] at h3 ⊢
            exact h3
        rw [h0] at this; cases this
    · unfold Region.ready at hi
      rw [List.mem_filter] at hi
      obtain ⟨hi1, hi2⟩ := hi
      have hil' : i < l.length := by simpa using hi1
      have hl : (⟨l⟩ : Array Oper)[i]? = some l[i] := by simp [hil']
      simp only [hl, Bool.and_eq_true, Bool.not_eq_true', Option.map_some, Option.getD_some, Array.all_eq_true, Bool.or_eq_true] at hi2
      obtain ⟨hnl, hdeps⟩ := hi2
      have hmi : i ∈ ix := (hmem i).2 ⟨hil', hnl⟩
      have hdep : ∀ e ∈ l[i].after, baseDep e = true → listed.getD e.on false = true := by
        intro e he hb
        obtain ⟨k, hk, rfl⟩ := Array.mem_iff_getElem.1 he
        rcases hdeps k hk with h | h
        · rw [hbd, hb] at h; cases h
        · exact h
      obtain ⟨ix1, ix2, rfl⟩ := List.append_of_mem hmi
      have hpk : ∀ (x : List Nat), (∀ j ∈ x, j < l.length) → pick l x = x.map fun j => l[j]! := by
        intro x
        induction x with
        | nil => intro _; rfl
        | cons j x ihx =>
          intro hx
          have hj := hx j (by simp)
          have := ihx (fun k hk => hx k (by simp [hk]))
          simp only [pick, List.filterMap_cons, List.getElem?_eq_getElem hj, List.map_cons] at this ⊢
          rw [this]; simp [hj]
      have hall : ∀ j ∈ ix1 ++ i :: ix2, j < l.length := fun j hj => ((hmem j).1 hj).1
      have e1 : pick l (ix1 ++ i :: ix2) = pick l ix1 ++ l[i] :: pick l ix2 := by simp [pick, List.filterMap_append, hil']
      have hti : i < tr.length := by omega
      have e2 : pickR tr (ix1 ++ i :: ix2) = pickR tr ix1 ++ tr[i] :: pickR tr ix2 := by simp [pickR, List.filterMap_append, hti]
      have e3 : pick l (ix1 ++ ix2) = pick l ix1 ++ pick l ix2 := by simp [pick, List.filterMap_append]
      have e4 : pickR tr (ix1 ++ ix2) = pickR tr ix1 ++ pickR tr ix2 := by simp [pickR, List.filterMap_append]
      rw [e1, e2] at hr
      have hfr := Run.front (pick l ix1) (pickR tr ix1) s (by
          have : ∀ (x : List Nat), (∀ j ∈ x, j < l.length) → (pickR tr x).length = (pick l x).length := by
            intro x
            induction x with
            | nil => intro _; rfl
            | cons j x ihx =>
              intro hx
              have hj := hx j (by simp)
              have hj' : j < tr.length := by omega
              have := ihx (fun k hk => hx k (by simp [hk]))
              simp only [pick, pickR, List.filterMap_cons, List.getElem?_eq_getElem hj, List.getElem?_eq_getElem hj', List.length_cons] at this ⊢
              omega
          exact this ix1 fun j hj => hall j (by simp [hj])) (fun p hp => by
          -- each one ahead of it is independent of it
          have hz : ∀ (x : List Nat), (∀ j ∈ x, j < l.length) → ∀ p ∈ (pick l x).zip (pickR tr x), ∃ j ∈ x, ∃ (h : j < l.length) (h' : j < tr.length), p = (l[j], tr[j]) := by
            intro x
            induction x with
            | nil => intro _ p hp; simp [pick] at hp
            | cons j x ihx =>
              intro hx p hp
              have hj := hx j (by simp)
              have hj' : j < tr.length := by omega
              simp only [pick, pickR, List.filterMap_cons, List.getElem?_eq_getElem hj, List.getElem?_eq_getElem hj', List.zip_cons_cons, List.mem_cons] at hp
              rcases hp with hp | hp
              · exact ⟨j, by simp, hj, hj', hp⟩
              · obtain ⟨k, hk, r⟩ := ihx (fun k hk => hx k (by simp [hk])) p hp
                exact ⟨k, by simp [hk], r⟩
          obtain ⟨j, hj, h1, h2, rfl⟩ := hz ix1 (fun j hj => hall j (by simp [hj])) p hp
          have hji : j < i := by
            have := (List.pairwise_append.1 hpw).2.2 j hj i (by simp)
            exact this
          simp only [drawOK, Bool.and_eq_true] at hok
          have := pairsOK_spec hok.2 (i := i) (o := l[i]) (r := tr[i]) (by simp [List.getElem?_zip_eq_some, hil', hti]) (a := j) (oa := l[j]) (ra := tr[j]) (by omega) (by simp [List.getElem?_zip_eq_some, h1, h2])
          rw [Nat.zero_add] at this
          rcases this with h3 | h3
          · exact h3
          · exfalso
            have hD := waits_listed (l := l) (D := fun j => listed.getD j false = true) (fun j o ho hd e he hb => hdown j o ho hd e he hb) 4 j i (fun o ho e he hb => by
              rw [List.getElem?_eq_getElem hil'] at ho; cases ho; exact hdep e he hb) h3
            have h5 := ((hmem j).1 (by simp [hj])).2
            have h6 : j < listed.size := by omega
            simp [Array.getD, h6] at hD h5
            rw [hD] at h5; cases h5) hr
      obtain ⟨r, tr', v, puts, nx, g1, g2, g3⟩ := Run.inv hfr rfl
      simp only [List.cons.injEq] at g1
      obtain ⟨rfl, rfl⟩ := g1
      rw [← e3, ← e4] at g3
      have hnew : ∀ i', i' ∈ ix1 ++ ix2 ↔ i' < l.length ∧ (listed.setIfInBounds i true).getD i' true = false := by
        intro i'
        have hnd : i ∉ ix1 ++ ix2 := by
          intro hm
          have hp := List.pairwise_append.1 hpw
          rcases List.mem_append.1 hm with hm | hm
          · have := hp.2.2 i hm i (by simp); omega
          · have := (List.pairwise_cons.1 hp.2.1).1 i hm; omega
        by_cases hii : i' = i
        · subst hii
          constructor
          · intro hm; exact absurd hm hnd
          · intro h
            have : i' < listed.size := by omega
            simp [Array.getD, this] at h
        · have e5 : (listed.setIfInBounds i true).getD i' true = listed.getD i' true := by
            simp only [Array.getD_eq_getD_getElem?]
            rw [Array.getElem?_setIfInBounds_ne (Ne.symm hii)]
          rw [e5, ← hmem i']
          simp [hii]
      have hpw' : (ix1 ++ ix2).Pairwise (· < ·) := hpw.sublist (by simp)
      have hdown' : ∀ j o, l[j]? = some o → (listed.setIfInBounds i true).getD j false = true → ∀ e ∈ o.after, baseDep e = true → (listed.setIfInBounds i true).getD e.on false = true := by
        intro j o ho hd e he hb
        have keep : ∀ x, listed.getD x false = true → (listed.setIfInBounds i true).getD x false = true := by
          intro x hx
          simp only [Array.getD_eq_getD_getElem?] at hx ⊢
          by_cases hxi : x = i
          · subst hxi
            have : x < listed.size := by omega
            simp [this]
          · rw [Array.getElem?_setIfInBounds_ne (Ne.symm hxi)]; exact hx
        by_cases hji : j = i
        · subst hji
          rw [List.getElem?_eq_getElem hil'] at ho; cases ho
          exact keep _ (hdep e he hb)
        · refine keep _ (hdown j o ho ?_ e he hb)
          simp only [Array.getD_eq_getD_getElem?] at hd ⊢
          rwa [Array.getElem?_setIfInBounds_ne (Ne.symm hji)] at hd
      have hnextt := fun s1 ρ1 a1 w1 hrun hR1 => ih (listed.setIfInBounds i true) (ix1 ++ ix2) s1 ρ1 a1 w1 (by simpa using hsz) (by simp at hil ⊢; omega) hpw' hnew hdown' hedge hrun hR1
      unfold wpOpIn
      simp only [hl]
      obtain ⟨h1, h2, h3, h4, h5⟩ := g2
      rcases h5 with ⟨T, H, a1, a2, a3, a4, a5, a6⟩ | ⟨a1, rfl, rfl, a4⟩
      · rw [wanted_of hR a1]
        simp only [if_true]
        refine a2 E.rd E.F ρ (hget _) a w _ Q hR.hp a4 (fun id hid => hR.fr id (h3 id hid).1) (fun p hp => hR.tm p.1 p.2 (a3 p hp)) fun u w' ho => ?_
        obtain ⟨ρ', hR'⟩ := hR.out ho h3 h1 h2
        exact hnextt _ ρ' _ w' g3 hR'
      · rw [unwanted_of hR a1]
        simp only [Bool.false_eq_true, if_false]
        obtain ⟨ρ', hR'⟩ := hR.out (nid := []) (v := .undef) (puts := []) (u := undef) (Out.same hR.hp (by simp [AV.rep])) (by simp) h1 h2
        exact ⟨fun f _ => fen_fn E.rd f, hnextt _ ρ' _ w g3 hR'⟩
end

def edgesOK (l : List Oper) : Bool := (List.range l.length).all fun j => match l[j]? with | some o => o.after.toList.all fun e => !baseDep e || Nat.blt e.on j | none => true

theorem awp_draw {P : Program} {E : Env} {K : Exit → St → Prop} {s : St} {id : Nat} {l : List Oper} (hm : P.follows .mixedOrders = true) (he : edgesOK l = true)
    (h : Reg P E.nt ⟨l⟩ l s fun tr s' => drawOK l tr = true ∧ K .normal s') : AWP P E (.region id ⟨l⟩ true) K s := by
  obtain ⟨tr, s', hr, hok, hk⟩ := h
  intro ρ a w hR
  refine wpIn_region_any hm ?_
  have hlen : l.length = tr.length := by simp only [drawOK, Bool.and_eq_true] at hok; exact Nat.eq_of_beq_eq_true hok.1
  obtain ⟨ρ', hR'⟩ := hR.out (d := none) (nid := []) (v := .undef) (puts := []) (u := undef) (Out.draw hR.hp) (by simp) (Nat.le_refl _) rfl
  have hR1 : R E s ρ' a w.drew := hR'.eqv (fun _ => rfl) (fun _ => rfl) rfl
  refine run_any hok (fun ρ a w hR => .inl ⟨s', ρ, hR, hk⟩) _ _ (List.range l.length) s ρ' a w.drew (by simp) (by simp) (List.pairwise_lt_range) (fun i => ?_) (fun j o ho hd => ?_) (fun j o ho e hme hb => ?_) ?_ hR1
  · constructor
    · intro hi
      have : i < l.length := by simpa using hi
      exact ⟨this, by simp [Array.getD, this]⟩
    · intro h; simpa using h.1
  · exfalso
    simp only [Array.getD_eq_getD_getElem?, List.size_toArray] at hd
    by_cases hj : j < l.length
    · simp [hj] at hd
    · simp [Array.getElem?_eq_none (by simp; omega : (Array.replicate l.length false).size ≤ j)] at hd
  · have hj : j < l.length := (List.getElem?_eq_some_iff.1 ho).1
    have := List.all_eq_true.1 he j (by simpa using hj)
    simp only [ho] at this
    have := List.all_eq_true.1 this e (by simpa using hme)
    have hbb : baseDep e = true := by
      unfold Region.binds at hb; unfold baseDep
      cases hg : e.ground <;> simp_all
    simp only [hbb, Bool.not_true, Bool.false_or, Nat.blt_eq] at this
    exact this
  · have e1 : ∀ (x : List Oper), pick x (List.range x.length) = x := by
      intro x
      unfold pick
      apply List.ext_getElem?
      intro i
      have : ∀ (n : Nat), n ≤ x.length → (List.range n).filterMap (x[·]?) = x.take n := by
        intro n
        induction n with
        | zero => intro _; simp
        | succ n ih =>
          intro hn
          rw [List.range_succ, List.filterMap_append, ih (by omega), List.take_succ_eq_append_getElem (by omega)]
          simp [show n < x.length by omega]
      rw [this x.length (Nat.le_refl _), List.take_length]
    have e2 : pickR tr (List.range l.length) = tr := by
      have : ∀ (n : Nat), n ≤ tr.length → (List.range n).filterMap (tr[·]?) = tr.take n := by
        intro n
        induction n with
        | zero => intro _; simp
        | succ n ih =>
          intro hn
          rw [List.range_succ, List.filterMap_append, ih (by omega), List.take_succ_eq_append_getElem (by omega)]
          simp [show n < tr.length by omega]
      unfold pickR
      rw [hlen, this tr.length (Nat.le_refl _), List.take_length]
    rw [e1, e2]; exact hr
end Go.Uw
