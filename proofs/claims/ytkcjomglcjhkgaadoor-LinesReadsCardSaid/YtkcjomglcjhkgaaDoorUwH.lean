/- Functions and calls of the abstract machine. Own work. -/
import Derived.Test.YtkcjomglcjhkgaaDoorUwG
set_option linter.unusedVariables false
set_option linter.unusedSimpArgs false
namespace Go.Uw
open Go

/-! ### results -/
inductive ResA (P : Program) (s : St) : ResultVar → AV → Prop
  | tmp {t : Tmp} {v : AV} (h : tget s.t t = some v) : ResA P s (.tmp t) v
  | agg {a : Tmp} {T id kk row col k n : Nat} {e : TypeId} {cs : List AV} (ha : tget s.t a = some (.ptr id kk row col)) (hb : hget s.h id = some (.cells e cs)) (ht : tyB P T = some (true, k, n))
      (hk : row * kk + col + k ≤ cs.length) : ResA P s (.cell a T) (.agg ((cs.drop (row * kk + col)).take k))
  | one {a : Tmp} {T id kk row col k n : Nat} {e : TypeId} {cs : List AV} {v : AV} (ha : tget s.t a = some (.ptr id kk row col)) (hb : hget s.h id = some (.cells e cs)) (ht : tyB P T = some (false, k, n))
      (hk : cs[row * kk + col]? = some v) : ResA P s (.cell a T) v

inductive ResL (P : Program) (s : St) : List ResultVar → List AV → Prop
  | nil : ResL P s [] []
  | cons {x : ResultVar} {v : AV} {xs : List ResultVar} {vs : List AV} (hx : ResA P s x v) (hl : ResL P s xs vs) : ResL P s (x :: xs) (v :: vs)

def resOne (tmps : Array Value) : ResultVar → Sem Value
  | .tmp t => pure (tmps.getD t Go.undef)
  | .cell a t => do loadVar t (← asAddr (tmps.getD a Go.undef))

theorem getD_of {α : Type} {l : Array α} {i : Nat} {d x : α} (h : l[i]? = some x) : l.getD i d = x := by simp [Array.getD_eq_getD_getElem?, h]

theorem resOne_run {P : Program} {E : Env} {s : St} {ρ : Names} {a : Act} {w : World} (hR : R E s ρ a w) {x : ResultVar} {v : AV} (h : ResA P s x v) :
    ∃ u, (resOne a.tmps x).run P w = .ok u w ∧ v.rep w (sh E.F (own ρ (hget s.h))) ρ u := by
  cases h with
  | tmp h =>
    obtain ⟨u, h1, h2⟩ := hR.tm _ _ h
    exact ⟨u, by simp [resOne, getD_of h1], h2⟩
  | agg ha hb ht hk =>
    rename_i ad T id kk row col k n e cs
    obtain ⟨u, h1, h2⟩ := hR.tm _ _ ha
    simp only [AV.rep] at h2
    obtain ⟨b, h3, rfl⟩ := h2
    obtain ⟨m, h4, h5⟩ := hR.hp.blk id _ hb
    rw [h3] at h4; cases h4
    simp only [Blk.rep] at h5
    obtain ⟨vs, rest, h6, h7, h8⟩ := h5
    have h9 := repL_take k (repL_drop (row * kk + col) h7)
    have hl : ((vs.drop (row * kk + col)).take k).length = k := by rw [repL_length h9]; simp; omega
    refine ⟨.agg ((vs.drop (row * kk + col)).take k).toArray, ?_, by simp only [AV.rep]; exact ⟨_, rfl, h9, fun u hu => h8 u (List.mem_of_mem_drop (List.mem_of_mem_take hu))⟩⟩
    have := run_loadAt_agg (P := P) (w := w) (b := b) (o := row * kk + col) ht hl (fun j v hv => by
      rw [List.getElem?_take] at hv
      split at hv
      · rw [List.getElem?_drop] at hv; exact cell_front h6 hv
      · simp at hv)
    simp only [Instr.loadAt, Instr.sureAddr] at this
    simp only [resOne, getD_of h1, asAddr]
    exact this
  | one ha hb ht hk =>
    rename_i ad T id kk row col k n e cs
    obtain ⟨u, h1, h2⟩ := hR.tm _ _ ha
    simp only [AV.rep] at h2
    obtain ⟨b, h3, rfl⟩ := h2
    obtain ⟨m, h4, h5⟩ := hR.hp.blk id _ hb
    rw [h3] at h4; cases h4
    simp only [Blk.rep] at h5
    obtain ⟨vs, rest, h6, h7, h8⟩ := h5
    obtain ⟨u, h9, h10⟩ := cells_at h7 hk
    have := run_loadAt_one (P := P) (w := w) (b := b) (o := row * kk + col) ht (v := u) (cell_front h6 h9)
    simp only [Instr.loadAt, Instr.sureAddr] at this
    refine ⟨u, ?_, h10⟩
    simp only [resOne, getD_of h1, asAddr]
    exact this

theorem resL_run {P : Program} {E : Env} {s : St} {ρ : Names} {a : Act} {w : World} (hR : R E s ρ a w) : ∀ {xs : List ResultVar} {vs : List AV}, ResL P s xs vs →
    ∃ us, (xs.mapM (resOne a.tmps)).run P w = .ok us w ∧ repL w (sh E.F (own ρ (hget s.h))) ρ vs us
  | [], _, .nil => ⟨[], by simp, by simp [repL]⟩
  | x :: xs, _, .cons hx hl => by
    obtain ⟨u, h1, h2⟩ := resOne_run hR hx
    obtain ⟨us, h3, h4⟩ := resL_run hR hl
    exact ⟨u :: us, by simp [List.mapM_cons, h1, h3], by simp only [repL]; exact ⟨u, us, rfl, h2, h4⟩⟩

def tupA : List AV → AV
  | [x] => x
  | l => .tup l

theorem results_run {P : Program} {E : Env} {s : St} {ρ : Names} {a : Act} {w : World} (hR : R E s ρ a w) {fn : Func} {rl : List ResultVar} (hf : fn.results = rl.toArray) {rs : List AV} (h : ResL P s rl rs) :
    ∃ u, (results fn a.tmps).run P w = .ok u w ∧ (tupA rs).rep w (sh E.F (own ρ (hget s.h))) ρ u := by
  obtain ⟨us, h1, h2⟩ := resL_run hR h
  have e : results fn a.tmps = (do let vs ← rl.toArray.mapM (resOne a.tmps); pure (if h : vs.size = 1 then vs[0] else .tuple vs)) := by
    unfold results
    rw [hf]
    congr 1
  rw [e]
  simp only [Array.mapM_eq_mapM_toList, Sem.run_bind, Sem.run_map, h1, Result.andThen_ok, Sem.run_pure]
  have hlen := repL_length h2
  match rs, us, h2, hlen with
  | [x], [u], h2, _ =>
    refine ⟨u, by simp, ?_⟩
    simp only [repL] at h2
    obtain ⟨u', us', h3, h4, _⟩ := h2
    cases h3
    exact h4
  | [], [], h2, _ => exact ⟨.tuple #[], by simp, by simp only [tupA, AV.rep]; exact ⟨[], rfl, by simp [repL]⟩⟩
  | x :: y :: r, us, h2, hlen =>
    have : us.toArray.size ≠ 1 := by simp at hlen ⊢; omega
    exact ⟨.tuple us.toArray, by simp at this ⊢; omega, by simp only [tupA, AV.rep]; exact ⟨us, rfl, h2⟩⟩

/-! ### functions -/
def Fun (P : Program) (f : FuncId) (args : List AV) (h0 : List (Nat × Option Blk)) (nid : List Nat) (v : AV) (puts : List (Nat × Option Blk)) : Prop :=
  ∀ (F : Nat → Prop) (ρ : Names) (w : World) (vals : List Value), HR F w ρ (hget h0) → (∀ id ∈ nid, ρ id = none) → repL w (sh F (own ρ (hget h0))) ρ args vals →
    Calls P f vals.toArray w fun e w' => ∃ u, e = .returned u ∧ Out F w ρ (hget h0) nid v puts w' u

/-- the numbers of the slots of the parameters -/
def zipT : Nat → List AV → List (Nat × AV)
  | _, [] => []
  | i, x :: xs => (i, x) :: zipT (i + 1) xs

theorem zipT_get {w : World} {own : Nat → Prop} {ρ : Names} : ∀ {l : List AV} {vs : List Value} {k : Nat}, repL w own ρ l vs → ∀ {i : Nat} {v : AV}, tget (zipT k l) i = some v → k ≤ i ∧ ∃ u, vs[i - k]? = some u ∧ v.rep w own ρ u
  | [], vs, k, _, i, v, h => by simp [zipT, tget] at h
  | x :: xs, vs, k, hr, i, v, h => by
    simp only [repL] at hr
    obtain ⟨u, us, rfl, h1, h2⟩ := hr
    simp only [zipT, tget] at h
    by_cases hk : k = i
    · subst hk; rw [beq_self] at h; simp at h; subst h; exact ⟨Nat.le_refl _, u, by simp, h1⟩
    · rw [beq_ne hk] at h
      obtain ⟨h3, u', h4, h5⟩ := zipT_get h2 h
      exact ⟨by omega, u', by rw [show i - k = (i - (k + 1)) + 1 by omega]; simpa using h4, h5⟩

def keysBelow (n : Nat) (l : List (Nat × Option Blk)) : Bool := l.all fun p => Nat.blt p.1 n

def blkIds (l : List Nat) : Blk → Bool
  | .cells _ cs => idsInL l cs
  | .rows .. => true

def heapIds (l : List Nat) (h : List (Nat × Option Blk)) : Bool := h.all fun p => match p.2 with | some b => blkIds l b | none => true

theorem hget_mem : ∀ {l : List (Nat × Option Blk)} {i : Nat} {x : Blk}, hget l i = some x → (i, some x) ∈ l
  | [], i, x, h => by simp [hget] at h
  | (j, u) :: l, i, x, h => by
    simp only [hget] at h
    by_cases hj : j = i
    · subst hj; rw [beq_self] at h; simp at h; subst h; simp
    · rw [beq_ne hj] at h; exact List.mem_cons_of_mem _ (hget_mem h)

theorem Blk.rep_congr {w : World} {own : Nat → Prop} {ρ ρ' : Names} {l : List Nat} (h : ∀ id ∈ l, ρ id = ρ' id) {b : Nat} {x : Blk} (hi : blkIds l x = true) (hx : x.rep w own ρ b) : x.rep w own ρ' b := by
  cases x with
  | cells e cs =>
    simp only [Blk.rep] at hx ⊢
    obtain ⟨vs, rest, h1, h2, h3⟩ := hx
    exact ⟨vs, rest, h1, repL_congr h cs vs hi h2, h3⟩
  | rows e k rs => exact hx

/-- What is asked of the state at the end of a body: the results, the blocks that are handed over. l: the new names, by their names in the body. -/
def Fin (P : Program) (n0 : Nat) (rl : List ResultVar) (h0 : List (Nat × Option Blk)) (nid : List Nat) (v : AV) (puts : List (Nat × Option Blk)) (s : St) : Prop :=
  ∃ (rs : List AV) (l : List (Nat × Nat)) (nx : Nat), ResL P s rl rs ∧ renOK n0 s.nx nx l = true ∧ n0 ≤ nx ∧ n0 ≤ s.nx ∧
    Cv (hget s.h) (fun id => ∀ id', (hget (puts ++ h0) id').isSome = true → ren n0 s.nx l id' ≠ id) (ren n0 s.nx l) (tupA rs) v ∧
    (∀ id x', hget (puts ++ h0) id = some x' → ∃ x, hget s.h (ren n0 s.nx l id) = some x ∧ CvB (hget s.h) (fun id => ∀ id', (hget (puts ++ h0) id').isSome = true → ren n0 s.nx l id' ≠ id) (ren n0 s.nx l) x x')

/-- the names of a contract: those of h0 below n0, the new ones from n0 on, no others -/
def namesOK (n0 : Nat) (args : List AV) (h0 : List (Nat × Option Blk)) (nid : List Nat) (v : AV) (puts : List (Nat × Option Blk)) : Bool :=
  keysBelow n0 h0 && idsInL (List.range n0) args && heapIds (List.range n0) h0 && nid.all (fun i => Nat.ble n0 i) &&
  v.idsIn (List.range n0 ++ nid) && heapIds (List.range n0 ++ nid) (puts ++ h0) && (puts.all fun p => Nat.blt p.1 n0 || nid.contains p.1) && ((List.range n0).all fun i => (hget h0 i).isSome)

def exitK (K : St → Prop) : Exit → St → Prop
  | .normal, s => K s
  | .ret, s => K s
  | _, _ => False

theorem fun_of_awp {P : Program} {f : FuncId} {fn : Func} {c : Code} {rl : List ResultVar} {nt : Nat} (hf : P.funcs[f]? = some fn) (hb : fn.body = some c) (hrl : fn.results = rl.toArray) (hnt : fn.ntmps = nt)
    (n0 : Nat) {args : List AV} {h0 : List (Nat × Option Blk)} {nid : List Nat} {v : AV} {puts : List (Nat × Option Blk)} (hna : namesOK n0 args h0 nid v puts = true) (hlen : args.length ≤ nt)
    (hw : ∀ (w0 : World) (own0 : Nat → Prop) (ρ0 : Names) (F : Nat → Prop), (∀ id, n0 ≤ id → ρ0 id = none) → AWP P ⟨w0, own0, ρ0, n0, nt, F, none, true, fun _ _ => False⟩ c (exitK (Fin P n0 rl h0 nid v puts)) ⟨zipT 0 args, h0, n0⟩) : Fun P f args h0 nid v puts := by
  simp only [namesOK, Bool.and_eq_true] at hna
  obtain ⟨⟨⟨⟨⟨⟨⟨k1, k2⟩, k3⟩, k4⟩, k5⟩, k6⟩, k7⟩, k8⟩ := hna
  have hk1 : ∀ id, (hget h0 id).isSome = true → id < n0 := by
    intro id hi
    obtain ⟨x, hx⟩ := Option.isSome_iff_exists.1 hi
    have := List.all_eq_true.1 k1 _ (hget_mem hx)
    rwa [Nat.blt_eq] at this
  have hk8 : ∀ id, id < n0 → (hget h0 id).isSome = true := fun id hi => List.all_eq_true.1 k8 id (by simpa using hi)
  intro F ρ w vals hh hn hr
  let ρ1 : Names := fun id => if id < n0 then ρ id else none
  have hρ1 : ∀ id ∈ List.range n0, ρ id = ρ1 id := fun id hid => by simp [ρ1, (List.mem_range.1 hid)]
  have hownEq : own ρ1 (hget h0) = own ρ (hget h0) := by
    funext b
    apply propext
    constructor
    · rintro ⟨id, h1, h2⟩
      have := hk1 id h1
      exact ⟨id, h1, by simpa [ρ1, this] using h2⟩
    · rintro ⟨id, h1, h2⟩
      have := hk1 id h1
      exact ⟨id, h1, by simpa [ρ1, this] using h2⟩
  let E : Env := ⟨w, own ρ (hget h0), ρ1, n0, nt, F, none, true, fun _ _ => False⟩
  have hvl : vals.length = args.length := repL_length hr
  have hR : R E ⟨zipT 0 args, h0, n0⟩ ρ1 ⟨vals.toArray ++ Array.replicate (fn.ntmps - vals.toArray.size) Go.undef, []⟩ w := by
    refine ⟨fun i x hi => ?_, ⟨fun id x hx => ?_, fun b hb => ⟨(hh.far b hb).1, by rw [hownEq]; exact (hh.far b hb).2⟩, fun id id' b h1 h2 h3 h4 => ?_, by rw [hownEq]; exact hh.gl⟩, fun id hid => ?_, ?_, fun id b h1 h2 => .inl ?_, Nat.le_refl _, .nil rfl, ?_⟩
    · have hr' : repL w (sh F (own ρ1 (hget h0))) ρ1 args vals := by rw [hownEq]; exact repL_congr hρ1 args vals k2 hr
      obtain ⟨_, u, h1, h2⟩ := zipT_get hr' hi
      refine ⟨u, ?_, h2⟩
      simp only [Nat.sub_zero] at h1
      have : i < vals.length := (List.getElem?_eq_some_iff.1 h1).1
      rw [Array.getElem?_append_left (by simpa using this)]
      simpa using h1
    · obtain ⟨m, h1, h2⟩ := hh.blk id x hx
      have hi := hk1 id (by simp [hx])
      refine ⟨m, by simp [ρ1, hi, h1], ?_⟩
      cases m with
      | zero => exact h2
      | succ b =>
        show x.rep w (sh F (own ρ1 (hget h0))) ρ1 b
        rw [hownEq]
        have h3 := List.all_eq_true.1 k3 _ (hget_mem hx)
        exact Blk.rep_congr hρ1 h3 h2
    · have i1 := hk1 id h1
      have i2 := hk1 id' h2
      exact hh.inj id id' b h1 h2 (by simpa [ρ1, i1] using h3) (by simpa [ρ1, i2] using h4)
    · have : ¬ id < n0 := by simp at hid; omega
      simp [ρ1, this]
    · show Ext w (own ρ (hget h0)) ρ1 w (own ρ1 (hget h0)) ρ1
      rw [hownEq]; exact Ext.refl
    · show own ρ (hget h0) b
      rw [← hownEq]; exact ⟨id, h1, h2⟩
    · show (vals.toArray ++ Array.replicate (fn.ntmps - vals.toArray.size) Go.undef).size = nt
      simp; omega
  refine callsIn_wide.1 (callsIn_of_wp_marks (n := 0) hf hb trivial (wpIn_mono (hw w (own ρ (hget h0)) ρ1 F (fun id hid => by simp only [ρ1]; rw [if_neg (by omega)]) ρ1 _ w hR) fun e a' w' hp => ?_))
  obtain ⟨s', ρ', h1, h2⟩ := hp.resolve_right (fun h => h.2)
  have key : ∀ (a' : Act) (w' : World), R E s' ρ' a' w' → Fin P n0 rl h0 nid v puts s' → ∃ u, (results fn a'.tmps).run P w' = .ok u w' ∧ ∃ u', Ending.returned u = .returned u' ∧ Out F w ρ (hget h0) nid v puts w' u' := by
    rintro a' w' h1 ⟨rs, l, nx, f1, f2, f3, f4, f5, f6⟩
    obtain ⟨u, g1, g2⟩ := results_run h1 hrl f1
    refine ⟨u, g1, u, rfl, ?_⟩
    have hlive : ∀ id, (hget (puts ++ h0) id).isSome = true → (hget s'.h (ren n0 s'.nx l id)).isSome = true := by
      intro id hi
      obtain ⟨x', hx'⟩ := Option.isSome_iff_exists.1 hi
      obtain ⟨x, hx, _⟩ := f6 _ _ hx'
      simp [hx]
    have hown : ∀ b, own (fun i => ρ' (ren n0 s'.nx l i)) (hget (puts ++ h0)) b → own ρ' (hget s'.h) b := fun b ⟨id, h1, h2⟩ => ⟨_, hlive id h1, h2⟩
    have hs : Shrinks F w' ρ' (hget s'.h) (fun id => ∀ id', (hget (puts ++ h0) id').isSome = true → ren n0 s'.nx l id' ≠ id) (own (fun i => ρ' (ren n0 s'.nx l i)) (hget (puts ++ h0))) := by
      refine ⟨h1.hp, hown, ?_⟩
      rintro id b hlv hd hb ⟨id', h3, h4⟩
      exact hd id' h3 (h1.hp.inj _ _ b (hlive id' h3) hlv h4 hb)
    let ρ2 : Names := fun i => ρ' (ren n0 s'.nx l i)
    let ρ3 : Names := fun id => if id ∈ nid then ρ2 id else ρ id
    have hlow : ∀ id, id < n0 → ρ2 id = ρ id := by
      intro id hi
      obtain ⟨x, hx⟩ := Option.isSome_iff_exists.1 (hk8 id hi)
      obtain ⟨m, h3, _⟩ := hh.blk id x hx
      have h4 : ρ1 id = some m := by simp [ρ1, hi, h3]
      show ρ' (ren n0 s'.nx l id) = ρ id
      rw [ren_low f2 hi, h1.ext.names id m h4, h3]
    have hnid : ∀ id ∈ nid, n0 ≤ id := fun id hid => Nat.le_of_ble_eq_true (List.all_eq_true.1 k4 id hid)
    have h23 : ∀ id ∈ List.range n0 ++ nid, ρ2 id = ρ3 id := by
      intro id hid
      simp only [List.mem_append, List.mem_range] at hid
      by_cases hm : id ∈ nid
      · simp [ρ3, hm]
      · rcases hid with hid | hid
        · simp only [ρ3, hm, if_false]; exact hlow id hid
        · exact absurd hid hm
    have hput : ∀ id x, hget (puts ++ h0) id = some x → id ∈ List.range n0 ++ nid := by
      intro id x hx
      have := hget_mem hx
      simp only [List.mem_append] at this ⊢
      rcases this with h3 | h3
      · have := List.all_eq_true.1 k7 _ h3
        simp only [Bool.or_eq_true, Nat.blt_eq] at this
        rcases this with h4 | h4
        · exact .inl (by simpa using h4)
        · exact .inr (by simpa using h4)
      · have := List.all_eq_true.1 k1 _ h3
        rw [Nat.blt_eq] at this
        exact .inl (by simpa using this)
    have hh23 : hget (puts ++ h0) = happ puts (hget h0) := hget_append puts h0
    have hownEq2 : own ρ3 (hget (puts ++ h0)) = own ρ2 (hget (puts ++ h0)) := by
      funext b
      apply propext
      constructor
      · rintro ⟨id, h3, h4⟩
        obtain ⟨x, hx⟩ := Option.isSome_iff_exists.1 h3
        exact ⟨id, h3, by rw [h23 id (hput id x hx)]; exact h4⟩
      · rintro ⟨id, h3, h4⟩
        obtain ⟨x, hx⟩ := Option.isSome_iff_exists.1 h3
        exact ⟨id, h3, by rw [← h23 id (hput id x hx)]; exact h4⟩
    have hv := f5.rep hs g2
    refine ⟨ρ3, ?_, ?_, ?_, fun id hid => by simp [ρ3, hid], fun id b h3 h4 => ?_⟩
    · rw [← hh23]
      refine ⟨fun id x' hx' => ?_, fun b hb => ⟨(h1.hp.far b hb).1, fun ho => (h1.hp.far b hb).2 (hown b (hownEq2 ▸ ho))⟩, fun id id' b h3 h4 h5 h6 => ?_, h1.hp.gl.sub fun b hb => hb.imp (fun ho => hown b (hownEq2 ▸ ho)) id⟩
      · obtain ⟨x, g3, g4⟩ := f6 _ _ hx'
        obtain ⟨m, g5, g6⟩ := h1.hp.blk _ x g3
        refine ⟨m, by rw [← h23 id (hput id x' hx')]; exact g5, ?_⟩
        cases m with
        | zero =>
          obtain ⟨e, k, rfl⟩ := g6
          cases g4
          exact ⟨e, k, rfl⟩
        | succ b =>
          show x'.rep w' (sh F (own ρ3 (hget (puts ++ h0)))) ρ3 b
          rw [hownEq2]
          have h3 := List.all_eq_true.1 k6 _ (hget_mem hx')
          exact Blk.rep_congr h23 h3 (g4.rep hs g6)
      · obtain ⟨x, hx⟩ := Option.isSome_iff_exists.1 h3
        obtain ⟨x', hx'⟩ := Option.isSome_iff_exists.1 h4
        rw [← h23 id (hput id x hx)] at h5
        rw [← h23 id' (hput id' x' hx')] at h6
        exact ren_inj f2 f4 (h1.hp.inj _ _ b (hlive id h3) (hlive id' h4) h5 h6)
    · rw [← hh23, hownEq2]
      exact AV.rep_congr h23 v u k5 hv
    · rw [← hh23, hownEq2]
      refine ⟨h1.ext.os, h1.ext.tape, h1.ext.output, h1.ext.size, fun b hb ho => ?_, h1.ext.row, fun id b hb => ?_⟩
      · obtain ⟨g3, g4⟩ := h1.ext.same b hb ho
        exact ⟨g3, fun h' => g4 (hown b h')⟩
      · by_cases hm : id ∈ nid
        · rw [hn id hm] at hb; cases hb
        · simp [ρ3, hm, hb]
    · rw [← hh23] at h3
      obtain ⟨x, hx⟩ := Option.isSome_iff_exists.1 h3
      rw [← h23 id (hput id x hx)] at h4
      exact h1.old _ b (hlive id h3) h4
  have leave : Fin P n0 rl h0 nid v puts s' → LeavesInM Fence.wide 0 P fn a'.tmps (fun e w' => ∃ u, e = .returned u ∧ Out F w ρ (hget h0) nid v puts w' u) a'.defers .returning w' := by
    intro hf
    have go : ∀ (Ds : List Nat) (a1 : Act) (w1 : World), a1.tmps = a'.tmps → a1.defers = Ds.map (fun D => { target := .collected D, args := #[] }) → R E s' ρ' a1 w1 → Ds.Nodup →
        (∀ D ∈ Ds, w1.heap[D]? = some (.deferred (some [])) ∧ E.w0.heap.size ≤ D ∧ ¬ own ρ' (hget s'.h) D) →
        LeavesInM Fence.wide 0 P fn a'.tmps (fun e w' => ∃ u, e = .returned u ∧ Out F w ρ (hget h0) nid v puts w' u) (Ds.map (fun D => { target := .collected D, args := #[] })) .returning w1 := by
      intro Ds
      induction Ds with
      | nil => intro a1 w1 ht _ hR1 _ _; have := key a1 w1 hR1 hf; rw [ht] at this; exact this
      | cons D Ds ih =>
        intro a1 w1 ht hd hR1 hnd hall
        obtain ⟨d1, d2, d3⟩ := hall D (by simp)
        obtain ⟨n1, n2⟩ := List.nodup_cons.1 hnd
        have hrest : ∀ D' ∈ Ds, (w1.putObj D (.deferred none)).heap[D']? = some (.deferred (some [])) ∧ E.w0.heap.size ≤ D' ∧ ¬ own ρ' (hget s'.h) D' := fun D' hD' => by
          obtain ⟨e1, e2, e3⟩ := hall D' (by simp [hD'])
          exact ⟨(World.putObj_heap_other (by rintro rfl; exact n1 hD')).trans e1, e2, e3⟩
        refine ⟨by simp, .inl ⟨D, _, rfl, run_takeDeferred d1, ih { a1 with defers := Ds.map (fun D => { target := .collected D, args := #[] }) } _ ht rfl (hR1.obj d1 (fun _ _ _ h => by cases h) d3 d2 rfl ⟨Ds, rfl, n2, (fun h => by cases h), hrest⟩) n2 hrest⟩⟩
    obtain ⟨Ds, d1, d2, _, d4⟩ := h1.df
    rw [d1]
    exact go Ds a' w' rfl d1 h1 d2 d4
  cases e with
  | normal => exact leave h2
  | ret => exact leave h2
  | _ => exact h2.elim
end Go.Uw
