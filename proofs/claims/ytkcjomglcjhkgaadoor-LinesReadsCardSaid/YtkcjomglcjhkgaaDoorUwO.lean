/- The rules as a walk uses them. Own work. -/
import Derived.Test.YtkcjomglcjhkgaaDoorUwN
set_option linter.unusedVariables false
set_option linter.unusedSimpArgs false
namespace Go.Uw
open Go

/-! ### lending: a callee that owns nothing and answers scalars may read what the caller owns -/
mutual
def scal : AV → Bool
  | .fv (.lit _) => true
  | .agg l => scalL l
  | .tup l => scalL l
  | .undef => true
  | .top => true
  | _ => false
def scalL : List AV → Bool
  | [] => true
  | x :: xs => scal x && scalL xs
end

section
variable {w w' : World} {own own' : Nat → Prop} {ρ ρ' : Names}
mutual
theorem scal_rep : ∀ (x : AV) (v : Value), scal x = true → x.rep w own ρ v → x.rep w' own' ρ' v
  | .fv (.lit u), v, _, h => by simpa [AV.rep, FV.rep] using h
  | .fv (.ro k r), v, hs, _ => by simp [scal] at hs
  | .ptr .., v, hs, _ => by simp [scal] at hs
  | .rw .., v, hs, _ => by simp [scal] at hs
  | .rptr .., v, hs, _ => by simp [scal] at hs
  | .fn .., v, hs, _ => by simp [scal] at hs
  | .agg l, v, hs, h => by
    simp only [AV.rep] at h ⊢
    obtain ⟨vs, h1, h2, h3⟩ := h
    exact ⟨vs, h1, scalL_rep l vs (by simpa [scal] using hs) h2, h3⟩
  | .tup l, v, hs, h => by
    simp only [AV.rep] at h ⊢
    obtain ⟨vs, h1, h2⟩ := h
    exact ⟨vs, h1, scalL_rep l vs (by simpa [scal] using hs) h2⟩
  | .undef, v, _, h => by simpa [AV.rep] using h
  | .top, v, _, h => by simp [AV.rep]
theorem scalL_rep : ∀ (l : List AV) (vs : List Value), scalL l = true → repL w own ρ l vs → repL w' own' ρ' l vs
  | [], vs, _, h => by simpa [repL] using h
  | x :: xs, vs, hs, h => by
    simp only [scalL, Bool.and_eq_true] at hs
    simp only [repL] at h ⊢
    obtain ⟨u, us, h1, h2, h3⟩ := h
    exact ⟨u, us, h1, scal_rep x u hs.1 h2, scalL_rep xs us hs.2 h3⟩
end
end

mutual
theorem Cv.mono {h h' : Nat → Option Blk} {dead dead' : Nat → Prop} {ν : Nat → Nat} (hh : ∀ id x, h id = some x → h' id = some x) (hd : ∀ id, (h id).isSome = true → dead id → dead' id) : ∀ {x x' : AV}, Cv h dead ν x x' → Cv h' dead' ν x x'
  | _, _, .same => .same
  | _, _, .frz hb hl hdd => .frz (hh _ _ hb) hl (hd _ (by simp [hb]) hdd)
  | _, _, .frzp hb hdd => .frzp (hh _ _ hb) (hd _ (by simp [hb]) hdd)
  | _, _, .nil => .nil
  | _, _, .agg hl => .agg (CvL.mono hh hd hl)
  | _, _, .tup hl => .tup (CvL.mono hh hd hl)
theorem CvL.mono {h h' : Nat → Option Blk} {dead dead' : Nat → Prop} {ν : Nat → Nat} (hh : ∀ id x, h id = some x → h' id = some x) (hd : ∀ id, (h id).isSome = true → dead id → dead' id) : ∀ {l l' : List AV}, CvL h dead ν l l' → CvL h' dead' ν l l'
  | _, _, .nil => .nil
  | _, _, .cons hx hl => .cons (Cv.mono hh hd hx) (CvL.mono hh hd hl)
end

def bget : List (Nat × Blk) → Nat → Option Blk
  | [], _ => none
  | (i, b) :: l, j => bif Nat.beq i j then some b else bget l j

section
variable {P : Program} {dst : Option Tmp} {ty : TypeId} {pos : String} {af : Array Edge} {g : Option (Nat × Bool)}

end

/-! ### an empty slice that will grow, under a name -/
theorem le_virt {E : Env} {t : List (Nat × AV)} {h : List (Nat × Option Blk)} {n d : Nat} (e k : Nat) (hd : tget t d = some (lit (.slice none 0 0))) :
    Le E ⟨t, h, n⟩ ⟨(d, .rw n k 0 0) :: t, (n, some (.rows e k [])) :: h, n + 1⟩ := by
  intro ρ a w hR
  obtain ⟨r1, r2, r3, r4, r5, r6, r7, r8⟩ := hR
  have hne : ∀ id m, ρ id = some m → id ≠ n := by rintro id m h1 rfl; rw [r3 _ (Nat.le_refl _)] at h1; cases h1
  have hget' : ∀ id, hget ((n, some (.rows e k [])) :: h) id = if n = id then some (.rows e k []) else hget h id := by
    intro id
    by_cases hi : n = id
    · subst hi; simp [hget]
    · simp [hget, beq_ne hi, hi]
  have hsub : ∀ b, own (rput ρ n 0) (hget ((n, some (.rows e k [])) :: h)) b → own ρ (hget h) b := by
    rintro b ⟨id, h1, h2⟩
    by_cases hi : n = id
    · subst hi; rw [rput_same] at h2; cases h2
    · rw [hget', if_neg hi] at h1; rw [rput_other hi] at h2; exact ⟨id, h1, h2⟩
  have hE : Ext w (own ρ (hget h)) ρ w (own (rput ρ n 0) (hget ((n, some (.rows e k [])) :: h))) (rput ρ n 0) :=
    ⟨rfl, rfl, rfl, Nat.le_refl _, fun b _ hb => ⟨rfl, fun h' => hb (hsub b h')⟩, fun b c e hc => ⟨c, hc, rfl⟩, fun id m hi => by rw [rput_other (Ne.symm (hne id m hi))]; exact hi⟩
  refine ⟨rput ρ n 0, ⟨fun i v hi => ?_, ⟨fun id x hx => ?_, fun b hb => ⟨(r2.far b hb).1, fun ho => (r2.far b hb).2 (hsub b ho)⟩, fun id id' b h1 h2 h3 h4 => ?_, r2.gl.ext hE.sh⟩, fun id hid => ?_, r4.trans hE, fun id b h1 h2 => ?_, by simp at r6 ⊢; omega, r7.mono hsub, r8⟩⟩
  · simp only [tget] at hi
    by_cases hj : d = i
    · subst hj
      rw [beq_self] at hi; simp at hi; subst hi
      obtain ⟨u, h1, h2⟩ := r1 _ _ hd
      refine ⟨u, h1, ?_⟩
      have := (rep_lit h2).1
      subst this
      simp only [AV.rep]
      exact .inl ⟨rput_same, trivial, trivial, trivial⟩
    · rw [beq_ne hj] at hi
      obtain ⟨u, h1, h2⟩ := r1 i v hi
      exact ⟨u, h1, AV.rep_ext hE.sh v u h2⟩
  · simp only [hget'] at hx
    by_cases hi : n = id
    · subst hi; simp at hx; subst hx
      exact ⟨0, rput_same, e, k, rfl⟩
    · rw [if_neg hi] at hx
      obtain ⟨m, h1, h2⟩ := r2.blk id x hx
      refine ⟨m, by rw [rput_other hi]; exact h1, ?_⟩
      cases m with
      | zero => exact h2
      | succ b => exact Blk.rep_ext hE.sh rfl x h2
  · simp only [hget'] at h1 h2
    by_cases hi : n = id
    · subst hi; rw [rput_same] at h3; cases h3
    · by_cases hi' : n = id'
      · subst hi'; rw [rput_same] at h4; cases h4
      · rw [if_neg hi] at h1; rw [if_neg hi'] at h2; rw [rput_other hi] at h3; rw [rput_other hi'] at h4
        exact r2.inj id id' b h1 h2 h3 h4
  · have : n + 1 ≤ id := hid
    rw [rput_other (by omega)]; exact r3 id (by simp; omega)
  · obtain ⟨id', h3, h4⟩ := hsub b ⟨id, h1, h2⟩
    exact r5 id' b h3 h4

theorem Le.trans {E : Env} {a b c : St} (h1 : Le E a b) (h2 : Le E b c) : Le E a c := fun ρ ac w hR => let ⟨ρ', h⟩ := h1 ρ ac w hR; h2 ρ' ac w h
theorem Le.refl {E : Env} {a : St} : Le E a a := fun ρ ac w hR => ⟨ρ, hR⟩

/-! ### regions, operation by operation -/
section
variable {P : Program} {nt : Nat} {ops : Array Oper} {rest : List Oper} {t : List (Nat × AV)} {h : List (Nat × Option Blk)} {n : Nat} {K : List Rec → St → Prop}

theorem reg_nil {s : St} (hk : K [] s) : Reg P nt ops [] s K := ⟨[], s, .nil s, hk⟩

theorem reg_of {o : Oper} {T : List (Nat × AV)} {H : List (Nat × Blk)} {nid : List Nat} {v : AV} {puts : List (Nat × Option Blk)} {n' : Nat} (hl : LTr P o T H nid v puts) (hw : wantedS ops t o.guard)
    (hT : ∀ p ∈ T, tget t p.1 = some p.2) (hH : ∀ p ∈ H, hget h p.1 = some p.2) (hn : ∀ id ∈ nid, n ≤ id ∧ id < n') (hx : n ≤ n') (hd : dOK nt o.dst = true)
    (k : Reg P nt ops rest ((St.mk t h n).step o.dst v puts n') (fun tr s' => K (⟨T.map (·.1), H.map (·.1), puts.map (·.1), nid⟩ :: tr) s')) : Reg P nt ops (o :: rest) ⟨t, h, n⟩ K := by
  obtain ⟨tr, s', h1, h2⟩ := k
  exact ⟨_, s', .step hw hl hT hH hn hx hd h1, h2⟩

theorem reg_skip {o : Oper} (hw : unwantedS ops t o.guard) (hd : dOK nt o.dst = true) (k : Reg P nt ops rest ((St.mk t h n).step o.dst .undef [] n) (fun tr s' => K (⟨[], [], [], []⟩ :: tr) s')) : Reg P nt ops (o :: rest) ⟨t, h, n⟩ K := by
  obtain ⟨tr, s', h1, h2⟩ := k
  exact ⟨_, s', .skip hw hd h1, h2⟩

/-- a guard that is not yet known: both ways -/
theorem reg_split {l : List Oper} (d : Nat) {b : Bool} (hb : tget t d = some (bA b)) (h1 : b = true → Reg P nt ops l ⟨(d, bA true) :: t, h, n⟩ K) (h2 : b = false → Reg P nt ops l ⟨(d, bA false) :: t, h, n⟩ K) : Reg P nt ops l ⟨t, h, n⟩ K := by
  have key : ∀ c, b = c → Reg P nt ops l ⟨(d, bA c) :: t, h, n⟩ K → Reg P nt ops l ⟨t, h, n⟩ K := by
    rintro c rfl ⟨tr, s', h3, h4⟩
    refine ⟨tr, s', .eqv (s1 := ⟨(d, bA b) :: t, h, n⟩) (fun i => ?_) (fun _ => rfl) rfl h3, h4⟩
    simp only [tget]
    by_cases hi : d = i
    · subst hi; rw [beq_self]; simp [hb]
    · rw [beq_ne hi]; rfl
  cases b with
  | true => exact key true rfl (h1 rfl)
  | false => exact key false rfl (h2 rfl)

theorem reg_split_dec {l : List Oper} (d : Nat) {p : Prop} [Decidable p] (hb : tget t d = some (bA (decide p))) (h1 : p → Reg P nt ops l ⟨(d, bA true) :: t, h, n⟩ K) (h2 : ¬ p → Reg P nt ops l ⟨(d, bA false) :: t, h, n⟩ K) : Reg P nt ops l ⟨t, h, n⟩ K :=
  reg_split d hb (fun h => h1 (of_decide_eq_true h)) (fun h => h2 (of_decide_eq_false h))

theorem foot_ok {x : Operand} {v : AV} (hx : evF t x = some v) : ∀ p ∈ foot x v, tget t p.1 = some p.2 := by
  intro p hp
  cases x <;> simp [foot] at hp
  subst hp
  exact hx
theorem foot_ok2 {x y : Operand} {v u : AV} (hx : evF t x = some v) (hy : evF t y = some u) : ∀ p ∈ foot x v ++ foot y u, tget t p.1 = some p.2 := by
  intro p hp
  rcases List.mem_append.1 hp with hp | hp
  · exact foot_ok hx p hp
  · exact foot_ok hy p hp

/-- an operation that only reckons -/
theorem reg_pure {o : Oper} {T : List (Nat × AV)} {v : AV} (hl : LTr P o T [] [] v []) (hw : wantedS ops t o.guard) (hT : ∀ p ∈ T, tget t p.1 = some p.2) (hd : dOK nt o.dst = true)
    (k : Reg P nt ops rest ((St.mk t h n).step o.dst v [] n) (fun tr s' => K (⟨T.map (·.1), [], [], []⟩ :: tr) s')) : Reg P nt ops (o :: rest) ⟨t, h, n⟩ K :=
  reg_of hl hw hT (by simp) (by simp) (Nat.le_refl _) hd k

variable {d : Tmp} {ty : TypeId} {pos : String} {af : Array Edge} {g : Option (Nat × Bool)}

theorem r_mv {v : AV} {x : Operand}  (hx : evF t x = some (v)) (hw : wantedS ops t g) (hd : Nat.blt d nt = true) (k : Reg P nt ops rest ⟨(d, v) :: t, h, n⟩ (fun tr s' => K (⟨(foot x (v)).map (·.1), [], [], []⟩ :: tr) s')) :
    Reg P nt ops (⟨some d, .move x, ty, pos, af, g⟩ :: rest) ⟨t, h, n⟩ K := reg_pure (ltr_move (evAt_of hx)) hw (foot_ok hx) hd k

theorem r_as {v : AV} {x : Operand}  (hx : evF t x = some (v)) (hw : wantedS ops t g) (hd : Nat.blt d nt = true) (k : Reg P nt ops rest ⟨(d, v) :: t, h, n⟩ (fun tr s' => K (⟨(foot x (v)).map (·.1), [], [], []⟩ :: tr) s')) :
    Reg P nt ops (⟨some d, .assign x, ty, pos, af, g⟩ :: rest) ⟨t, h, n⟩ K := reg_pure (ltr_assign (evAt_of hx)) hw (foot_ok hx) hd k

theorem r_pkt {c x y : Operand} {v : AV} (hc : evF t c = some (bA true)) (hx : evF t x = some v) (hw : wantedS ops t g) (hd : Nat.blt d nt = true) (k : Reg P nt ops rest ⟨(d, v) :: t, h, n⟩ (fun tr s' => K (⟨(foot c (bA true) ++ foot x v).map (·.1), [], [], []⟩ :: tr) s')) :
    Reg P nt ops (⟨some d, .pick c x y, ty, pos, af, g⟩ :: rest) ⟨t, h, n⟩ K := reg_pure (ltr_pick (b := true) (evAt_of hc) (evAt_of hx)) hw (foot_ok2 hc hx) hd k
theorem r_pkf {c x y : Operand} {v : AV} (hc : evF t c = some (bA false)) (hx : evF t y = some v) (hw : wantedS ops t g) (hd : Nat.blt d nt = true) (k : Reg P nt ops rest ⟨(d, v) :: t, h, n⟩ (fun tr s' => K (⟨(foot c (bA false) ++ foot y v).map (·.1), [], [], []⟩ :: tr) s')) :
    Reg P nt ops (⟨some d, .pick c x y, ty, pos, af, g⟩ :: rest) ⟨t, h, n⟩ K := reg_pure (ltr_pick (b := false) (evAt_of hc) (evAt_of hx)) hw (foot_ok2 hc hx) hd k

theorem r_add {T : TypeId} {yt : TypeId} {k' : IntKind} {a b : Int} {x y : Operand}  (hx : evF t x = some (iv k' a)) (hy : evF t y = some (iv k' b)) (hr : k'.min ≤ a + b ∧ a + b ≤ k'.max) (hw : wantedS ops t g) (hd : Nat.blt d nt = true) (k : Reg P nt ops rest ⟨(d, iv k' (a + b)) :: t, h, n⟩ (fun tr s' => K (⟨(foot x (iv k' a) ++ foot y (iv k' b)).map (·.1), [], [], []⟩ :: tr) s')) :
    Reg P nt ops (⟨some d, .binOp .add T x y yt, ty, pos, af, g⟩ :: rest) ⟨t, h, n⟩ K := reg_pure (ltr_add (evAt_of hx) (evAt_of hy) hr) hw (foot_ok2 hx hy) hd k

theorem r_sub {T : TypeId} {yt : TypeId} {k' : IntKind} {a b : Int} {x y : Operand}  (hx : evF t x = some (iv k' a)) (hy : evF t y = some (iv k' b)) (hr : k'.min ≤ a - b ∧ a - b ≤ k'.max) (hw : wantedS ops t g) (hd : Nat.blt d nt = true) (k : Reg P nt ops rest ⟨(d, iv k' (a - b)) :: t, h, n⟩ (fun tr s' => K (⟨(foot x (iv k' a) ++ foot y (iv k' b)).map (·.1), [], [], []⟩ :: tr) s')) :
    Reg P nt ops (⟨some d, .binOp .sub T x y yt, ty, pos, af, g⟩ :: rest) ⟨t, h, n⟩ K := reg_pure (ltr_sub (evAt_of hx) (evAt_of hy) hr) hw (foot_ok2 hx hy) hd k

theorem r_mul {T : TypeId} {yt : TypeId} {k' : IntKind} {a b : Int} {x y : Operand}  (hx : evF t x = some (iv k' a)) (hy : evF t y = some (iv k' b)) (hr : k'.min ≤ a * b ∧ a * b ≤ k'.max) (hw : wantedS ops t g) (hd : Nat.blt d nt = true) (k : Reg P nt ops rest ⟨(d, iv k' (a * b)) :: t, h, n⟩ (fun tr s' => K (⟨(foot x (iv k' a) ++ foot y (iv k' b)).map (·.1), [], [], []⟩ :: tr) s')) :
    Reg P nt ops (⟨some d, .binOp .mul T x y yt, ty, pos, af, g⟩ :: rest) ⟨t, h, n⟩ K := reg_pure (ltr_mul (evAt_of hx) (evAt_of hy) hr) hw (foot_ok2 hx hy) hd k

theorem r_lss {T : TypeId} {yt : TypeId} {k' : IntKind} {a b : Int} {x y : Operand}  (hx : evF t x = some (iv k' a)) (hy : evF t y = some (iv k' b)) (hw : wantedS ops t g) (hd : Nat.blt d nt = true) (k : Reg P nt ops rest ⟨(d, bA (decide (a < b))) :: t, h, n⟩ (fun tr s' => K (⟨(foot x (iv k' a) ++ foot y (iv k' b)).map (·.1), [], [], []⟩ :: tr) s')) :
    Reg P nt ops (⟨some d, .binOp .lss T x y yt, ty, pos, af, g⟩ :: rest) ⟨t, h, n⟩ K := reg_pure (ltr_cmp (evAt_of hx) (evAt_of hy) fun _ => run_lss) hw (foot_ok2 hx hy) hd k

theorem r_leq {T : TypeId} {yt : TypeId} {k' : IntKind} {a b : Int} {x y : Operand}  (hx : evF t x = some (iv k' a)) (hy : evF t y = some (iv k' b)) (hw : wantedS ops t g) (hd : Nat.blt d nt = true) (k : Reg P nt ops rest ⟨(d, bA (decide (a ≤ b))) :: t, h, n⟩ (fun tr s' => K (⟨(foot x (iv k' a) ++ foot y (iv k' b)).map (·.1), [], [], []⟩ :: tr) s')) :
    Reg P nt ops (⟨some d, .binOp .leq T x y yt, ty, pos, af, g⟩ :: rest) ⟨t, h, n⟩ K := reg_pure (ltr_cmp (evAt_of hx) (evAt_of hy) fun _ => run_leq) hw (foot_ok2 hx hy) hd k

theorem r_gtr {T : TypeId} {yt : TypeId} {k' : IntKind} {a b : Int} {x y : Operand}  (hx : evF t x = some (iv k' a)) (hy : evF t y = some (iv k' b)) (hw : wantedS ops t g) (hd : Nat.blt d nt = true) (k : Reg P nt ops rest ⟨(d, bA (decide (b < a))) :: t, h, n⟩ (fun tr s' => K (⟨(foot x (iv k' a) ++ foot y (iv k' b)).map (·.1), [], [], []⟩ :: tr) s')) :
    Reg P nt ops (⟨some d, .binOp .gtr T x y yt, ty, pos, af, g⟩ :: rest) ⟨t, h, n⟩ K := reg_pure (ltr_cmp (evAt_of hx) (evAt_of hy) fun _ => run_gtr) hw (foot_ok2 hx hy) hd k

theorem r_geq {T : TypeId} {yt : TypeId} {k' : IntKind} {a b : Int} {x y : Operand}  (hx : evF t x = some (iv k' a)) (hy : evF t y = some (iv k' b)) (hw : wantedS ops t g) (hd : Nat.blt d nt = true) (k : Reg P nt ops rest ⟨(d, bA (decide (b ≤ a))) :: t, h, n⟩ (fun tr s' => K (⟨(foot x (iv k' a) ++ foot y (iv k' b)).map (·.1), [], [], []⟩ :: tr) s')) :
    Reg P nt ops (⟨some d, .binOp .geq T x y yt, ty, pos, af, g⟩ :: rest) ⟨t, h, n⟩ K := reg_pure (ltr_cmp (evAt_of hx) (evAt_of hy) fun _ => run_geq) hw (foot_ok2 hx hy) hd k

theorem r_eqi {T : TypeId} {yt : TypeId} {k' : IntKind} {a b : Int} {x y : Operand}  (hx : evF t x = some (iv k' a)) (hy : evF t y = some (iv k' b)) (hw : wantedS ops t g) (hd : Nat.blt d nt = true) (k : Reg P nt ops rest ⟨(d, bA (decide (a = b))) :: t, h, n⟩ (fun tr s' => K (⟨(foot x (iv k' a) ++ foot y (iv k' b)).map (·.1), [], [], []⟩ :: tr) s')) :
    Reg P nt ops (⟨some d, .binOp .eql T x y yt, ty, pos, af, g⟩ :: rest) ⟨t, h, n⟩ K := reg_pure (ltr_cmp (evAt_of hx) (evAt_of hy) fun _ => run_eqli) hw (foot_ok2 hx hy) hd k

theorem r_nei {T : TypeId} {yt : TypeId} {k' : IntKind} {a b : Int} {x y : Operand}  (hx : evF t x = some (iv k' a)) (hy : evF t y = some (iv k' b)) (hw : wantedS ops t g) (hd : Nat.blt d nt = true) (k : Reg P nt ops rest ⟨(d, bA (decide (a ≠ b))) :: t, h, n⟩ (fun tr s' => K (⟨(foot x (iv k' a) ++ foot y (iv k' b)).map (·.1), [], [], []⟩ :: tr) s')) :
    Reg P nt ops (⟨some d, .binOp .neq T x y yt, ty, pos, af, g⟩ :: rest) ⟨t, h, n⟩ K := reg_pure (ltr_cmp (evAt_of hx) (evAt_of hy) fun _ => run_neqi) hw (foot_ok2 hx hy) hd k

theorem r_not {T : TypeId} {b : Bool} {x : Operand}  (hx : evF t x = some (bA b)) (hw : wantedS ops t g) (hd : Nat.blt d nt = true) (k : Reg P nt ops rest ⟨(d, bA (!b)) :: t, h, n⟩ (fun tr s' => K (⟨(foot x (bA b)).map (·.1), [], [], []⟩ :: tr) s')) :
    Reg P nt ops (⟨some d, .unOp .not T x, ty, pos, af, g⟩ :: rest) ⟨t, h, n⟩ K := reg_pure (ltr_not (evAt_of hx)) hw (foot_ok hx) hd k

theorem r_notd {T : TypeId} {p : Prop} [Decidable p] {x : Operand}  (hx : evF t x = some (bA (decide p))) (hw : wantedS ops t g) (hd : Nat.blt d nt = true) (k : Reg P nt ops rest ⟨(d, bA (decide (¬ p))) :: t, h, n⟩ (fun tr s' => K (⟨(foot x (bA (decide p))).map (·.1), [], [], []⟩ :: tr) s')) :
    Reg P nt ops (⟨some d, .unOp .not T x, ty, pos, af, g⟩ :: rest) ⟨t, h, n⟩ K := reg_pure ((by have := ltr_not (P := P) (dst := some d) (ty := ty) (pos := pos) (af := af) (g := g) (T := T) (evAt_of hx); rwa [← decide_not] at this)) hw (foot_ok hx) hd k

theorem r_ext {i : Nat} {l : List AV} {v : AV} {x : Operand}  (hx : evF t x = some (AV.tup l)) (hi : l[i]? = some v) (hw : wantedS ops t g) (hd : Nat.blt d nt = true) (k : Reg P nt ops rest ⟨(d, v) :: t, h, n⟩ (fun tr s' => K (⟨(foot x (AV.tup l)).map (·.1), [], [], []⟩ :: tr) s')) :
    Reg P nt ops (⟨some d, .extract x i, ty, pos, af, g⟩ :: rest) ⟨t, h, n⟩ K := reg_pure (ltr_extract (evAt_of hx) hi) hw (foot_ok hx) hd k

theorem r_fld {T j off id k' row col : Nat} {x : Operand} (hf : fldB P T j = some off) (hx : evF t x = some (AV.ptr id k' row col)) (hw : wantedS ops t g) (hd : Nat.blt d nt = true) (k : Reg P nt ops rest ⟨(d, AV.ptr id k' row (col + off)) :: t, h, n⟩ (fun tr s' => K (⟨(foot x (AV.ptr id k' row col)).map (·.1), [], [], []⟩ :: tr) s')) :
    Reg P nt ops (⟨some d, .fieldAddr T x j, ty, pos, af, g⟩ :: rest) ⟨t, h, n⟩ K := reg_pure (ltr_fld hf (evAt_of hx)) hw (foot_ok hx) hd k

theorem r_fldr {T j off : Nat} {cells : List FV} {x : Operand} (hf : fldB P T j = some off) (hx : evF t x = some (AV.rptr cells)) (hw : wantedS ops t g) (hd : Nat.blt d nt = true) (k : Reg P nt ops rest ⟨(d, AV.rptr (cells.drop off)) :: t, h, n⟩ (fun tr s' => K (⟨(foot x (AV.rptr cells)).map (·.1), [], [], []⟩ :: tr) s')) :
    Reg P nt ops (⟨some d, .fieldAddr T x j, ty, pos, af, g⟩ :: rest) ⟨t, h, n⟩ K := reg_pure (ltr_fldr hf (evAt_of hx)) hw (foot_ok hx) hd k

theorem r_ldr {T k' nb : Nat} {cells : List FV} {v : FV} {x : Operand} (ht : tyB P T = some (false, k', nb)) (hx : evF t x = some (AV.rptr cells)) (hv : cells[0]? = some v) (hw : wantedS ops t g) (hd : Nat.blt d nt = true) (k : Reg P nt ops rest ⟨(d, AV.fv v) :: t, h, n⟩ (fun tr s' => K (⟨(foot x (AV.rptr cells)).map (·.1), [], [], []⟩ :: tr) s')) :
    Reg P nt ops (⟨some d, .load T x, ty, pos, af, g⟩ :: rest) ⟨t, h, n⟩ K := reg_pure (ltr_ldr ht (evAt_of hx) hv) hw (foot_ok hx) hd k

theorem r_ldra {T k' nb : Nat} {cells cs : List FV} {x : Operand} (ht : tyB P T = some (true, k', nb)) (hx : evF t x = some (AV.rptr cells)) (hv : cells.take k' = cs) (hk : Nat.ble k' cells.length = true) (hw : wantedS ops t g) (hd : Nat.blt d nt = true) (k : Reg P nt ops rest ⟨(d, AV.agg (fvs cs)) :: t, h, n⟩ (fun tr s' => K (⟨(foot x (AV.rptr cells)).map (·.1), [], [], []⟩ :: tr) s')) :
    Reg P nt ops (⟨some d, .load T x, ty, pos, af, g⟩ :: rest) ⟨t, h, n⟩ K := reg_pure ((by subst hv; exact ltr_ldra ht (evAt_of hx) (Nat.le_of_ble_eq_true hk))) hw (foot_ok hx) hd k

theorem r_ixr {T e k' nb : Nat} {gg : Bool} {rows : List (List FV)} {kk : IntKind} {i : Int} {r : List FV} {x y : Operand} (hT : slB P T = some e) (he : tyB P e = some (gg, k', nb)) (hx : evF t x = some (AV.fv (.ro k' rows))) (hy : evF t y = some (iv kk i)) (h0 : 0 ≤ i) (hr : rows[i.toNat]? = some r) (hw : wantedS ops t g) (hd : Nat.blt d nt = true) (k : Reg P nt ops rest ⟨(d, AV.rptr r) :: t, h, n⟩ (fun tr s' => K (⟨(foot x (AV.fv (.ro k' rows)) ++ foot y (iv kk i)).map (·.1), [], [], []⟩ :: tr) s')) :
    Reg P nt ops (⟨some d, .indexAddr T x y, ty, pos, af, g⟩ :: rest) ⟨t, h, n⟩ K := reg_pure (ltr_ixr hT he (evAt_of hx) (evAt_of hy) h0 hr) hw (foot_ok2 hx hy) hd k

theorem r_ixw {T e k' nb id off len : Nat} {gg : Bool} {kk : IntKind} {i : Int} {x y : Operand} (hT : slB P T = some e) (he : tyB P e = some (gg, k', nb)) (hx : evF t x = some (AV.rw id k' off len)) (hy : evF t y = some (iv kk i)) (h0 : 0 ≤ i) (h1 : i < len) (hw : wantedS ops t g) (hd : Nat.blt d nt = true) (k : Reg P nt ops rest ⟨(d, AV.ptr id k' (off + i.toNat) 0) :: t, h, n⟩ (fun tr s' => K (⟨(foot x (AV.rw id k' off len) ++ foot y (iv kk i)).map (·.1), [], [], []⟩ :: tr) s')) :
    Reg P nt ops (⟨some d, .indexAddr T x y, ty, pos, af, g⟩ :: rest) ⟨t, h, n⟩ K := reg_pure (ltr_ixw hT he (evAt_of hx) (evAt_of hy) h0 h1) hw (foot_ok2 hx hy) hd k

theorem r_lenr {T e k' : Nat} {rows : List (List FV)} {x : Operand} (hT : slB P T = some e) (hx : evF t x = some (AV.fv (.ro k' rows))) (hw : wantedS ops t g) (hd : Nat.blt d nt = true) (k : Reg P nt ops rest ⟨(d, iA rows.length) :: t, h, n⟩ (fun tr s' => K (⟨(foot x (AV.fv (.ro k' rows))).map (·.1), [], [], []⟩ :: tr) s')) :
    Reg P nt ops (⟨some d, .call ⟨.builtin .len, ⟨[x]⟩, ⟨[T]⟩⟩, ty, pos, af, g⟩ :: rest) ⟨t, h, n⟩ K := reg_pure (ltr_lenr hT (evAt_of hx)) hw (foot_ok hx) hd k

theorem r_lenw {T e id k' off len : Nat} {x : Operand} (hT : slB P T = some e) (hx : evF t x = some (AV.rw id k' off len)) (hw : wantedS ops t g) (hd : Nat.blt d nt = true) (k : Reg P nt ops rest ⟨(d, iA len) :: t, h, n⟩ (fun tr s' => K (⟨(foot x (AV.rw id k' off len)).map (·.1), [], [], []⟩ :: tr) s')) :
    Reg P nt ops (⟨some d, .call ⟨.builtin .len, ⟨[x]⟩, ⟨[T]⟩⟩, ty, pos, af, g⟩ :: rest) ⟨t, h, n⟩ K := reg_pure (ltr_lenw hT (evAt_of hx)) hw (foot_ok hx) hd k

theorem r_len0 {T e : Nat} {x : Operand} (hT : slB P T = some e) (hx : evF t x = some (lit (.slice none 0 0))) (hw : wantedS ops t g) (hd : Nat.blt d nt = true) (k : Reg P nt ops rest ⟨(d, iA 0) :: t, h, n⟩ (fun tr s' => K (⟨(foot x (lit (.slice none 0 0))).map (·.1), [], [], []⟩ :: tr) s')) :
    Reg P nt ops (⟨some d, .call ⟨.builtin .len, ⟨[x]⟩, ⟨[T]⟩⟩, ty, pos, af, g⟩ :: rest) ⟨t, h, n⟩ K := reg_pure (ltr_len0 hT (evAt_of hx)) hw (foot_ok hx) hd k

theorem r_build {T : Nat} {parts : List (Nat × Operand)} {vs : List (Nat × AV)} {places : List (Nat × Nat)} {zs : List Value} {out : List AV} (hp : placesB P T = some places) (hz : zeroB P T = some zs) (hx : evParts t parts = some vs) (ho : fillA places (zeroA zs) vs = some out) (hw : wantedS ops t g) (hd : Nat.blt d nt = true) (k : Reg P nt ops rest ⟨(d, AV.agg out) :: t, h, n⟩ (fun tr s' => K (⟨(footP parts vs).map (·.1), [], [], []⟩ :: tr) s')) :
    Reg P nt ops (⟨some d, .build T ⟨parts⟩, ty, pos, af, g⟩ :: rest) ⟨t, h, n⟩ K := reg_pure (ltr_build hp hz (evP_of hx).1 ho) hw ((evP_of hx).2) hd k

theorem r_nilck {id k' row col : Nat} {x : Operand}  (hx : evF t x = some (AV.ptr id k' row col)) (hw : wantedS ops t g) (hd : Nat.blt d nt = true) (k : Reg P nt ops rest ⟨(d, AV.ptr id k' row col) :: t, h, n⟩ (fun tr s' => K (⟨(foot x (AV.ptr id k' row col)).map (·.1), [], [], []⟩ :: tr) s')) :
    Reg P nt ops (⟨some d, .nilCheck x, ty, pos, af, g⟩ :: rest) ⟨t, h, n⟩ K := reg_pure (ltr_nilck (evAt_of hx)) hw (foot_ok hx) hd k

theorem r_nilckr {cells : List FV} {x : Operand}  (hx : evF t x = some (AV.rptr cells)) (hw : wantedS ops t g) (hd : Nat.blt d nt = true) (k : Reg P nt ops rest ⟨(d, AV.rptr cells) :: t, h, n⟩ (fun tr s' => K (⟨(foot x (AV.rptr cells)).map (·.1), [], [], []⟩ :: tr) s')) :
    Reg P nt ops (⟨some d, .nilCheck x, ty, pos, af, g⟩ :: rest) ⟨t, h, n⟩ K := reg_pure (ltr_nilckr (evAt_of hx)) hw (foot_ok hx) hd k

theorem r_nilckf {f : FuncId} {caps : List AV} {x : Operand}  (hx : evF t x = some (AV.fn f caps)) (hw : wantedS ops t g) (hd : Nat.blt d nt = true) (k : Reg P nt ops rest ⟨(d, AV.fn f caps) :: t, h, n⟩ (fun tr s' => K (⟨(foot x (AV.fn f caps)).map (·.1), [], [], []⟩ :: tr) s')) :
    Reg P nt ops (⟨some d, .nilCheck x, ty, pos, af, g⟩ :: rest) ⟨t, h, n⟩ K := reg_pure (ltr_nilckf (evAt_of hx)) hw (foot_ok hx) hd k

theorem r_convi {S T : Nat} {ks k1 k2 : IntKind} {m : Int} {x : Operand} (hS : intB P S = some ks) (hT : intB P T = some k2) (hx : evF t x = some (iv k1 m)) (hr : k2.min ≤ m ∧ m ≤ k2.max) (hw : wantedS ops t g) (hd : Nat.blt d nt = true) (k : Reg P nt ops rest ⟨(d, iv k2 m) :: t, h, n⟩ (fun tr s' => K (⟨(foot x (iv k1 m)).map (·.1), [], [], []⟩ :: tr) s')) :
    Reg P nt ops (⟨some d, .convert S T x, ty, pos, af, g⟩ :: rest) ⟨t, h, n⟩ K := reg_pure (ltr_convi hS hT (evAt_of hx) hr) hw (foot_ok hx) hd k

theorem r_mkfn {f : FuncId} {caps : List Operand} {vs : List AV} (hx : evL t caps = some vs) (hw : wantedS ops t g) (hd : Nat.blt d nt = true) (k : Reg P nt ops rest ⟨(d, AV.fn f vs) :: t, h, n⟩ (fun tr s' => K (⟨(footL caps vs).map (·.1), [], [], []⟩ :: tr) s')) :
    Reg P nt ops (⟨some d, .makeFunc (.func f) ⟨[]⟩ ⟨caps⟩, ty, pos, af, g⟩ :: rest) ⟨t, h, n⟩ K := reg_pure (ltr_mkfn (evLAt_of hx).1) hw ((evLAt_of hx).2) hd k

theorem r_nes {T : Nat} {yt : TypeId} {cs ds : List AV} {xs ys : List Value} {ks : List (Option IntKind)} {dd : Nat} {r : Bool} {x y : Operand} (hfl : flatB P dd T = some ks) (hdd : dd ≤ 10000) (hg : aggB ((P.underlying T).getD .invalid) = true) (hq : P.eqGuardType P.depth T = false) (hx : evF t x = some (AV.agg cs)) (hy : evF t y = some (AV.agg ds)) (hcs : litsOf cs = some xs) (hds : litsOf ds = some ys) (hkx : hasKinds ks xs = true) (hky : hasKinds ks ys = true) (hr : eqVs xs ys = r) (hw : wantedS ops t g) (hd : Nat.blt d nt = true) (k : Reg P nt ops rest ⟨(d, bA (!r)) :: t, h, n⟩ (fun tr s' => K (⟨(foot x (AV.agg cs) ++ foot y (AV.agg ds)).map (·.1), [], [], []⟩ :: tr) s')) :
    Reg P nt ops (⟨some d, .binOp .neq T x y yt, ty, pos, af, g⟩ :: rest) ⟨t, h, n⟩ K := reg_pure ((by have := ltr_eqs (P := P) (dst := some d) (ty := ty) (pos := pos) (af := af) (g := g) (yt := yt) (op := .neq) (by simp) hfl hdd hg hq (evAt_of hx) (evAt_of hy) hcs hds hkx hky hr; simpa using this)) hw (foot_ok2 hx hy) hd k

/-! with the heap -/
theorem mem1 {α : Type} {Q : α → Prop} {a : α} (h : Q a) : ∀ p ∈ [a], Q p := by simpa using h
theorem mem2 {α : Type} {Q : α → Prop} {a b : α} (h : Q a) (h' : Q b) : ∀ p ∈ [a, b], Q p := by simpa using ⟨h, h'⟩

theorem r_ld {T k' nb id kk row col : Nat} {e : TypeId} {cs : List AV} {v : AV} {x : Operand} (ht : tyB P T = some (false, k', nb)) (hx : evF t x = some (.ptr id kk row col)) (hb : hget h id = some (.cells e cs)) (hv : cs[row * kk + col]? = some v) (hw : wantedS ops t g) (hd : Nat.blt d nt = true)
    (k : Reg P nt ops rest ⟨(d, v) :: t, h, n⟩ (fun tr s' => K (⟨(foot x (.ptr id kk row col)).map (·.1), [id], [], []⟩ :: tr) s')) :
    Reg P nt ops (⟨some d, .load T x, ty, pos, af, g⟩ :: rest) ⟨t, h, n⟩ K :=
  reg_of (ltr_ld ht (evAt_of hx) hv) hw (foot_ok hx) (mem1 hb) (by simp) (Nat.le_refl _) hd k
theorem r_lda {T k' nb id kk row col : Nat} {e : TypeId} {cs vs : List AV} {x : Operand} (ht : tyB P T = some (true, k', nb)) (hx : evF t x = some (.ptr id kk row col)) (hb : hget h id = some (.cells e cs)) (hk : Nat.ble (row * kk + col + k') cs.length = true) (hv : (cs.drop (row * kk + col)).take k' = vs) (hw : wantedS ops t g) (hd : Nat.blt d nt = true)
    (k : Reg P nt ops rest ⟨(d, .agg vs) :: t, h, n⟩ (fun tr s' => K (⟨(foot x (.ptr id kk row col)).map (·.1), [id], [], []⟩ :: tr) s')) :
    Reg P nt ops (⟨some d, .load T x, ty, pos, af, g⟩ :: rest) ⟨t, h, n⟩ K := by
  subst hv
  exact reg_of (ltr_lda ht (evAt_of hx) (Nat.le_of_ble_eq_true hk)) hw (foot_ok hx) (mem1 hb) (by simp) (Nat.le_refl _) hd k
theorem r_ldo {T k' nb id kk row col : Nat} {e : TypeId} {rs : List (List FV)} {r : List FV} {v : FV} {x : Operand} (ht : tyB P T = some (false, k', nb)) (hx : evF t x = some (.ptr id kk row col)) (hb : hget h id = some (.rows e kk rs)) (hr : rs[row]? = some r) (hv : r[col]? = some v) (hw : wantedS ops t g) (hd : Nat.blt d nt = true)
    (k : Reg P nt ops rest ⟨(d, .fv v) :: t, h, n⟩ (fun tr s' => K (⟨(foot x (.ptr id kk row col)).map (·.1), [id], [], []⟩ :: tr) s')) :
    Reg P nt ops (⟨some d, .load T x, ty, pos, af, g⟩ :: rest) ⟨t, h, n⟩ K :=
  reg_of (ltr_ldo ht (evAt_of hx) hr hv) hw (foot_ok hx) (mem1 hb) (by simp) (Nat.le_refl _) hd k
theorem r_ldoa {T k' nb id kk row col : Nat} {e : TypeId} {rs : List (List FV)} {r cs : List FV} {x : Operand} (ht : tyB P T = some (true, k', nb)) (hx : evF t x = some (.ptr id kk row col)) (hb : hget h id = some (.rows e kk rs)) (hr : rs[row]? = some r) (hk : Nat.ble (col + k') r.length = true) (hv : (r.drop col).take k' = cs) (hw : wantedS ops t g) (hd : Nat.blt d nt = true)
    (k : Reg P nt ops rest ⟨(d, .agg (fvs cs)) :: t, h, n⟩ (fun tr s' => K (⟨(foot x (.ptr id kk row col)).map (·.1), [id], [], []⟩ :: tr) s')) :
    Reg P nt ops (⟨some d, .load T x, ty, pos, af, g⟩ :: rest) ⟨t, h, n⟩ K := by
  subst hv
  exact reg_of (ltr_ldoa ht (evAt_of hx) hr (Nat.le_of_ble_eq_true hk)) hw (foot_ok hx) (mem1 hb) (by simp) (Nat.le_refl _) hd k
theorem r_st {T k' nb id kk row col : Nat} {gg : Bool} {e : TypeId} {cs cs' : List AV} {v : AV} {x y : Operand} (ht : tyB P T = some (gg, k', nb)) (hx : evF t x = some (.ptr id kk row col)) (hy : evF t y = some v) (hb : hget h id = some (.cells e cs)) (hc : cellish v = true) (hk : (cellsOfA v).length = k')
    (hf : Nat.ble (row * kk + col + k') cs.length = true) (hs : setAt cs (row * kk + col) (cellsOfA v) = cs') (hw : wantedS ops t g)
    (k : Reg P nt ops rest ⟨t, (id, some (.cells e cs')) :: h, n⟩ (fun tr s' => K (⟨(foot x (.ptr id kk row col) ++ foot y v).map (·.1), [id], [id], []⟩ :: tr) s')) :
    Reg P nt ops (⟨none, .store T x y, ty, pos, af, g⟩ :: rest) ⟨t, h, n⟩ K := by
  subst hs
  exact reg_of (ltr_st ht (evAt_of hx) (evAt_of hy) hc hk (Nat.le_of_ble_eq_true hf)) hw (foot_ok2 hx hy) (mem1 hb) (by simp) (Nat.le_refl _) rfl k
theorem r_box {T : Nat} {x : Operand} {v : AV} {cs : List AV} (hx : evF t x = some v) (hc : cellish v = true) (hs : cellsOfA v = cs) (hw : wantedS ops t g) (hd : Nat.blt d nt = true)
    (k : Reg P nt ops rest ⟨(d, .ptr n 0 0 0) :: t, (n, some (.cells T cs)) :: h, n + 1⟩ (fun tr s' => K (⟨(foot x v).map (·.1), [], [n], [n]⟩ :: tr) s')) :
    Reg P nt ops (⟨some d, .box T x, ty, pos, af, g⟩ :: rest) ⟨t, h, n⟩ K := by
  subst hs
  exact reg_of (ltr_box (n := n) (evAt_of hx) hc) hw (foot_ok hx) (by simp) (mem1 ⟨Nat.le_refl _, Nat.lt_succ_self _⟩) (Nat.le_succ _) hd k
theorem r_alloc {T : Nat} {zs : List Value} {cs : List AV} (hz : zeroB P T = some zs) (hs : zeroA zs = cs) (hw : wantedS ops t g) (hd : Nat.blt d nt = true)
    (k : Reg P nt ops rest ⟨(d, .ptr n 0 0 0) :: t, (n, some (.cells T cs)) :: h, n + 1⟩ (fun tr s' => K (⟨[], [], [n], [n]⟩ :: tr) s')) :
    Reg P nt ops (⟨some d, .alloc T, ty, pos, af, g⟩ :: rest) ⟨t, h, n⟩ K := by
  subst hs
  exact reg_of (ltr_alloc (n := n) hz) hw (by simp) (by simp) (mem1 ⟨Nat.le_refl _, Nat.lt_succ_self _⟩) (Nat.le_succ _) hd k
theorem r_bslice {T e k' nb len : Nat} {gg : Bool} {parts : List (Nat × Operand)} {vs : List (Nat × AV)} {zs : List Value} {rs : List (List FV)} (hT : slB P T = some e) (he : tyB P e = some (gg, k', nb)) (hk : Nat.blt 0 k' = true) (hz : zeroB P e = some zs)
    (hpos : Nat.blt 0 len = true) (hsm : Nat.ble (len * k') 16777216 = true) (hx : evParts t parts = some vs) (hlm : len = vs.length) (hord : inOrder 0 vs = true) (hrow : vs.map (fun p => cellsOfA p.2) = rs.map fvs) (hcell : (vs.all fun p => cellish p.2 && Nat.beq (cellsOfA p.2).length k') = true) (hw : wantedS ops t g) (hd : Nat.blt d nt = true)
    (k : Reg P nt ops rest ⟨(d, .rw n k' 0 len) :: t, (n, some (.rows e k' rs)) :: h, n + 1⟩ (fun tr s' => K (⟨(footP parts vs).map (·.1), [], [n], [n]⟩ :: tr) s')) :
    Reg P nt ops (⟨some d, .buildSlice T len ⟨parts⟩, ty, pos, af, g⟩ :: rest) ⟨t, h, n⟩ K :=
  reg_of (ltr_bslice (m := n) hT he (by rwa [Nat.blt_eq] at hk) hz (by rwa [Nat.blt_eq] at hpos) (Nat.le_of_ble_eq_true hsm) hlm (evP_of hx).1 hord hrow
    (fun p hp => by have := List.all_eq_true.1 hcell p hp; simp only [Bool.and_eq_true] at this; exact ⟨this.1, Nat.eq_of_beq_eq_true this.2⟩)) hw (evP_of hx).2 (by simp) (mem1 ⟨Nat.le_refl _, Nat.lt_succ_self _⟩) (Nat.le_succ _) hd k
theorem r_appr {T e k' nb id len : Nat} {gg : Bool} {zs : List Value} {s x : Operand} {rs news : List (List FV)} (hT : slB P T = some e) (he : tyB P e = some (gg, k', nb)) (hk : Nat.blt 0 k' = true) (hz : zeroB P e = some zs)
    (hs : evF t s = some (.rw id k' 0 len)) (hx : evF t x = some (.fv (.ro k' news))) (hb : hget h id = some (.rows e k' rs)) (hl : len = rs.length) (h63 : rs.length + news.length ≤ maxLen) (hbb : (rs.length + news.length) * nb ≤ 140737488355328) (hw : wantedS ops t g) (hd : Nat.blt d nt = true)
    (k : Reg P nt ops rest ⟨(d, .rw n k' 0 (rs.length + news.length)) :: t, (n, some (.rows e k' (rs ++ news))) :: (id, none) :: h, n + 1⟩ (fun tr s' => K (⟨(foot s (.rw id k' 0 rs.length) ++ foot x (.fv (.ro k' news))).map (·.1), [id], [n, id], [n]⟩ :: tr) s')) :
    Reg P nt ops (⟨some d, .call ⟨.builtin .append, ⟨[s, x]⟩, ⟨[T, T]⟩⟩, ty, pos, af, g⟩ :: rest) ⟨t, h, n⟩ K := by
  subst hl
  exact reg_of (ltr_appr (m := n) hT he (by rwa [Nat.blt_eq] at hk) hz (evAt_of hs) (evAt_of hx) h63 hbb) hw (foot_ok2 hs hx) (mem1 hb) (mem1 ⟨Nat.le_refl _, Nat.lt_succ_self _⟩) (Nat.le_succ _) hd k
theorem r_appw {T e k' nb id id2 off len len2 : Nat} {gg : Bool} {zs : List Value} {s x : Operand} {rs rows2 news : List (List FV)} (hT : slB P T = some e) (he : tyB P e = some (gg, k', nb)) (hk : Nat.blt 0 k' = true) (hz : zeroB P e = some zs)
    (hs : evF t s = some (.rw id k' 0 len)) (hx : evF t x = some (.rw id2 k' off len2)) (hb : hget h id = some (.rows e k' rs)) (hb2 : hget h id2 = some (.rows e k' rows2)) (hl : len = rs.length) (hnw : (rows2.drop off).take len2 = news) (hl2 : len2 = news.length) (h63 : rs.length + news.length ≤ maxLen) (hbb : (rs.length + news.length) * nb ≤ 140737488355328) (hw : wantedS ops t g) (hd : Nat.blt d nt = true)
    (k : Reg P nt ops rest ⟨(d, .rw n k' 0 (rs.length + news.length)) :: t, (n, some (.rows e k' (rs ++ news))) :: (id, none) :: h, n + 1⟩ (fun tr s' => K (⟨(foot s (.rw id k' 0 rs.length) ++ foot x (.rw id2 k' off news.length)).map (·.1), [id, id2], [n, id], [n]⟩ :: tr) s')) :
    Reg P nt ops (⟨some d, .call ⟨.builtin .append, ⟨[s, x]⟩, ⟨[T, T]⟩⟩, ty, pos, af, g⟩ :: rest) ⟨t, h, n⟩ K := by
  subst hl; subst hl2
  exact reg_of (ltr_appw (m := n) hT he (by rwa [Nat.blt_eq] at hk) hz (evAt_of hs) (evAt_of hx) hnw h63 hbb) hw (foot_ok2 hs hx) (mem2 hb hb2) (mem1 ⟨Nat.le_refl _, Nat.lt_succ_self _⟩) (Nat.le_succ _) hd k
theorem foot_okL {c : Operand} {u : AV} {xs : List Operand} {vs : List AV} (hc : evF t c = some u) (hx : evL t xs = some vs) : ∀ p ∈ foot c u ++ footL xs vs, tget t p.1 = some p.2 := by
  intro p hp
  rcases List.mem_append.1 hp with hp | hp
  · exact foot_ok hc p hp
  · exact (evLAt_of hx).2 p hp

/-- a call of a function that owns nothing; what it is handed is frozen -/
theorem r_call {c : Operand} {xs : List Operand} {at_ : Array TypeId} {vs caps args : List AV} {f : FuncId} {v : AV} (hF : Fun P f args [] [] v []) (hf : callB P f = true) (hc : evF t c = some (.fn f caps)) (hx : evL t xs = some vs) (hv : v.ren (ren 0 1 []) = v)
    (hargs : CvL (fun _ => none) (fun _ => False) (ren 0 1 []) (vs ++ caps) args) (hw : wantedS ops t g) (hd : Nat.blt d nt = true)
    (k : Reg P nt ops rest ⟨(d, v) :: t, h, n⟩ (fun tr s' => K (⟨(foot c (.fn f caps) ++ footL xs vs).map (·.1), [], [], []⟩ :: tr) s')) :
    Reg P nt ops (⟨some d, .call ⟨.value c, ⟨xs⟩, at_⟩, ty, pos, af, g⟩ :: rest) ⟨t, h, n⟩ K := by
  have hl := ltr_call (dst := some d) (ty := ty) (pos := pos) (af := af) (g := g) (at_ := at_) (evAt_of hc) (evLAt_of hx).1 hf hF 1 0 [] rfl hargs
  rw [hv] at hl
  exact reg_of hl hw (foot_okL hc hx) (by simp [liveH]) (by simp) (Nat.le_refl _) hd k

end
end Go.Uw
