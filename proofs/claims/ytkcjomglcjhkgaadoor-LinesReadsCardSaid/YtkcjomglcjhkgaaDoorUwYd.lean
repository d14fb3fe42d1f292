/- A call of yield, a choice behind it; a nil slice in a cell under a name. Own work. -/
import Derived.Test.YtkcjomglcjhkgaaDoorUwLn
import Derived.Test.YtkcjomglcjhkgaaDoorUwU
import Derived.Test.YtkcjomglcjhkgaaDoorUwSt
set_option linter.unusedVariables false
set_option linter.unusedSimpArgs false
namespace Go.Uw
open Go

theorem wpOps_pure {P : Program} {E : Env} {ops : Array Oper} {Q : Exit → Act → World → Prop} {o : Oper} {i : Nat} {ix : List Nat} {s : St} {T : List (Nat × AV)} {v : AV}
    (hi : ops[i]? = some o) (hw : wantedS ops s.t o.guard) (hl : LTr P o T [] [] v []) (hT : ∀ p ∈ T, tget s.t p.1 = some p.2) (hd : dOK E.nt o.dst = true)
    {ρ : Names} {a : Act} {w : World} (hR : R E s ρ a w) (k : ∀ ρ' a' w', R E (s.step o.dst v [] s.nx) ρ' a' w' → wpOpsIn (fen E.rd) 0 P ops Q ix a' w') : wpOpsIn (fen E.rd) 0 P ops Q (i :: ix) a w := by
  simp only [wpOpsIn, hi, wanted_of hR hw, if_true]
  refine hl E.rd E.F ρ (hget _) a w _ Q hR.hp (by simp) (by simp) (fun p hp => hR.tm p.1 p.2 (hT p hp)) fun u w' ho => ?_
  obtain ⟨ρ', hR'⟩ := hR.out ho (by simp) (Nat.le_refl _) hd
  exact k ρ' _ w' hR'

theorem wpOps_cons {P : Program} {E : Env} {ops : Array Oper} {Q : Exit → Act → World → Prop} {o : Oper} {i : Nat} {ix : List Nat} {a : Act} {w : World} (hi : ops[i]? = some o) (hg : o.guard = none)
    (k : o.wpIn (fen E.rd) 0 P a w (wpOpsIn (fen E.rd) 0 P ops Q ix) Q) : wpOpsIn (fen E.rd) 0 P ops Q (i :: ix) a w := by
  have hw : Region.wanted o (yielded ops a.tmps) = true := by unfold Region.wanted; rw [hg]
  simp only [wpOpsIn, hi, hw, if_true]
  exact k

theorem awp_yield {P : Program} {E : Env} {l : Nat} {X : Type} {Q : X → Prop} {ln : X → AV} {Hy : X → List (Nat × Option Blk)} {Ny : X → Nat} {go : X → Bool} {Hn : X → List (Nat × Option Blk)} {Nn : X → Nat} {K : Exit → St → Prop}
    {t : List (Nat × AV)} {id y0 x0 d1 d2 d3 d4 : Nat} {ty1 ty2 ty3 ty4 T4 : TypeId} {p1 p2 p3 p4 : String} {a1 a2 a3 a4 : Array Edge} {at_ : Array TypeId}
    (hY : YOK P E l Q ln Hy Ny go Hn Nn) (hesc : ∀ (a a' : Act) (w : World), a'.defers = [] → E.esc a w → E.esc a' w) (hm : E.marks = false) (x : X) (hx : Q x) (hfv : ∃ y, ln x = .fv y)
    (hids : ∀ i v, tget t i = some v → v.idsIn (List.range E.n0) = true)
    (e1 : tget t y0 = some (lit (.func (.yield l) #[] #[]))) (e2 : tget ((d1, lit (.func (.yield l) #[] #[])) :: t) x0 = some (ln x)) (e3 : tget ((d2, ln x) :: (d1, lit (.func (.yield l) #[] #[])) :: t) d1 = some (lit (.func (.yield l) #[] #[])))
    (b1 : Nat.blt d1 E.nt = true) (b2 : Nat.blt d2 E.nt = true) (b3 : Nat.blt d3 E.nt = true) (b4 : Nat.blt d4 E.nt = true)
    (hK : go x = true → K .normal ⟨(d4, bA false) :: (d3, bA true) :: (d2, ln x) :: (d1, lit (.func (.yield l) #[] #[])) :: t, Hn x, Nn x⟩) :
    AWP P E (.seq (.region id ⟨[⟨some d1, .move (.tmp y0), ty1, p1, a1, none⟩, ⟨some d2, .move (.tmp x0), ty2, p2, a2, none⟩, ⟨some d3, .call ⟨.value (.tmp d1), ⟨[.tmp d2]⟩, at_⟩, ty3, p3, a3, none⟩, ⟨some d4, .unOp .not T4 (.tmp d3), ty4, p4, a4, none⟩]⟩ false) (.cond (.tmp d4) .ret .skip)) K ⟨t, Hy x, Ny x⟩ := by
  intro ρ a w hR
  refine wpIn_seq (wpIn_region ?_)
  show wpOpsIn (fen E.rd) 0 P _ _ [0, 1, 2, 3] a w
  refine wpOps_pure (s := ⟨t, Hy x, Ny x⟩) (o := ⟨some d1, .move (.tmp y0), ty1, p1, a1, none⟩) rfl trivial (ltr_move (evAt_of (t := t) e1)) (foot_ok (t := t) (x := .tmp y0) e1) b1 hR fun ρ1 a1 w1 hR1 => ?_
  refine wpOps_pure (s := ⟨(d1, lit (.func (.yield l) #[] #[])) :: t, Hy x, Ny x⟩) (o := ⟨some d2, .move (.tmp x0), ty2, p2, a2, none⟩) rfl trivial (ltr_move (evAt_of (t := (d1, lit (.func (.yield l) #[] #[])) :: t) e2)) (foot_ok (t := (d1, lit (.func (.yield l) #[] #[])) :: t) (x := .tmp x0) e2) b2 hR1 fun ρ2 a2 w2 hR2 => ?_
  obtain ⟨y, hy⟩ := hfv
  have hids2 : ∀ i v, tget ((d2, ln x) :: (d1, lit (.func (.yield l) #[] #[])) :: t) i = some v → v.idsIn (List.range E.n0) = true := by
    intro i v h
    simp only [tget] at h
    by_cases h1 : Nat.beq d2 i = true
    · rw [h1] at h; simp at h; subst h; rw [hy]; rfl
    · simp only [h1, cond_false] at h
      by_cases h2 : Nat.beq d1 i = true
      · rw [h2] at h; simp at h; subst h; rfl
      · simp only [h2, cond_false] at h; exact hids i v h
  refine wpOps_cons (o := ⟨some d3, .call ⟨.value (.tmp d1), ⟨[.tmp d2]⟩, at_⟩, ty3, p3, a3, none⟩) rfl rfl ?_
  refine hY x hx _ ρ2 a2 w2 (some d3) (.tmp d1) (.tmp d2) at_ ty3 p3 a3 none _ _ hR2 hids2 e3 (by simp [evF, tget]) b3 (fun hgo ρ3 w3 hR3 => ?_) (fun hgo w3 he => ?_)
  · refine wpOps_pure (s := ⟨(d3, bA true) :: (d2, ln x) :: (d1, lit (.func (.yield l) #[] #[])) :: t, Hn x, Nn x⟩) (o := ⟨some d4, .unOp .not T4 (.tmp d3), ty4, p4, a4, none⟩) rfl trivial (ltr_not (b := true) (evAt_of (t := (d3, bA true) :: (d2, ln x) :: (d1, lit (.func (.yield l) #[] #[])) :: t) (by simp [evF, tget]))) (foot_ok (t := (d3, bA true) :: (d2, ln x) :: (d1, lit (.func (.yield l) #[] #[])) :: t) (x := .tmp d3) (by simp [evF, tget])) b4 hR3 fun ρ4 a4 w4 hR4 => ?_
    exact awp_cond (b := false) (s := ⟨(d4, bA false) :: (d3, bA true) :: (d2, ln x) :: (d1, lit (.func (.yield l) #[] #[])) :: t, Hn x, Nn x⟩) (by simp [evF, tget]) (fun h => by cases h) (fun _ => awp_skip (hK hgo)) ρ4 a4 w4 hR4
  · have hsz : d3 < (a2.put (some d3) (.bool false)).tmps.size := by
      have := hR2.sz
      rw [Nat.blt_eq] at b3
      simp [Act.put, this, b3]
    have hsz4 : d4 < a2.tmps.size := by rw [hR2.sz]; rwa [Nat.blt_eq] at b4
    have hsz3 : d3 < a2.tmps.size := by rw [hR2.sz]; rwa [Nat.blt_eq] at b3
    have hdf : a2.defers = [] := DfOK.none (hm ▸ hR2.df)
    have ev : (a2.put (some d3) (.bool false)).eval (.tmp d3) = .bool false := by
      simp [Act.eval, Act.put, hsz3]
    refine wpOps_cons (o := ⟨some d4, .unOp .not T4 (.tmp d3), ty4, p4, a4, none⟩) rfl rfl ?_
    refine Wp.value (u := .bool true) (w' := w3) (by simp [execOp, ev, Op.unary]) ?_
    simp only [wpOpsIn]
    have ev4 : ((a2.put (some d3) (.bool false)).put (some d4) (.bool true)).eval (.tmp d4) = .bool true := by simp [Act.eval, Act.put, hsz4]
    show (Code.cond (.tmp d4) .ret .skip).wpIn (fen E.rd) 0 P (post E K) _ w3
    refine wpIn_cond_split ev4 (fun _ => wpIn_ret ?_) (fun h => by cases h)
    exact .inr ⟨rfl, hesc _ _ _ (by simp [Act.put, hdf]) he⟩

/-- a nil slice that stands in a cell, under a new name -/
theorem le_virtc {E : Env} {t : List (Nat × AV)} {h : List (Nat × Option Blk)} {n c eC : Nat} (e k : Nat) (hc : hget h c = some (.cells eC [lit (.slice none 0 0)])) :
    Le E ⟨t, h, n⟩ ⟨t, (c, some (.cells eC [.rw n k 0 0])) :: (n, some (.rows e k [])) :: h, n + 1⟩ := by
  intro ρ a w hR
  obtain ⟨r1, r2, r3, r4, r5, r6, r7, r8⟩ := hR
  have hne : ∀ id m, ρ id = some m → id ≠ n := by rintro id m h1 rfl; rw [r3 _ (Nat.le_refl _)] at h1; cases h1
  obtain ⟨mc, hc1, hc2⟩ := r2.blk c _ hc
  have hcn : n ≠ c := Ne.symm (hne c mc hc1)
  have hget' : ∀ id, hget ((c, some (.cells eC [.rw n k 0 0])) :: (n, some (.rows e k [])) :: h) id = if c = id then some (.cells eC [.rw n k 0 0]) else if n = id then some (.rows e k []) else hget h id := by
    intro id
    by_cases hi : c = id
    · subst hi; simp [hget]
    · by_cases hj : n = id
      · subst hj; simp [hget, beq_ne hi, hi]
      · simp [hget, beq_ne hi, hi, beq_ne hj, hj]
  have hsub : ∀ b, own (rput ρ n 0) (hget ((c, some (.cells eC [.rw n k 0 0])) :: (n, some (.rows e k [])) :: h)) b → own ρ (hget h) b := by
    rintro b ⟨id, h1, h2⟩
    by_cases hi : n = id
    · subst hi; rw [rput_same] at h2; cases h2
    · rw [rput_other hi] at h2
      refine ⟨id, ?_, h2⟩
      rw [hget'] at h1
      by_cases hj : c = id
      · subst hj; simp [hc]
      · rw [if_neg hj, if_neg hi] at h1; exact h1
  have hE : Ext w (own ρ (hget h)) ρ w (own (rput ρ n 0) (hget ((c, some (.cells eC [.rw n k 0 0])) :: (n, some (.rows e k [])) :: h))) (rput ρ n 0) :=
    ⟨rfl, rfl, rfl, Nat.le_refl _, fun b _ hb => ⟨rfl, fun h' => hb (hsub b h')⟩, fun b c e hc => ⟨c, hc, rfl⟩, fun id m hi => by rw [rput_other (Ne.symm (hne id m hi))]; exact hi⟩
  refine ⟨rput ρ n 0, ⟨fun i v hi => ?_, ⟨fun id x hx => ?_, fun b hb => ⟨(r2.far b hb).1, fun ho => (r2.far b hb).2 (hsub b ho)⟩, fun id id' b h1 h2 h3 h4 => ?_, r2.gl.ext hE.sh⟩, fun id hid => ?_, r4.trans hE, fun id b h1 h2 => ?_, by simp at r6 ⊢; omega, r7.mono hsub, r8⟩⟩
  · obtain ⟨u, h1, h2⟩ := r1 i v hi
    exact ⟨u, h1, AV.rep_ext hE.sh v u h2⟩
  · simp only [hget'] at hx
    by_cases hi : c = id
    · subst hi; simp at hx; subst hx
      refine ⟨mc, by rw [rput_other hcn]; exact hc1, ?_⟩
      cases mc with
      | zero => obtain ⟨_, _, h'⟩ := hc2; cases h'
      | succ b =>
        obtain ⟨vs, rest, g1, g2, g3⟩ := hc2
        simp only [repL] at g2
        obtain ⟨u, us, rfl, g4, rfl⟩ := g2
        have := (rep_lit g4).1
        subst this
        refine ⟨_, rest, g1, ?_, g3⟩
        simp only [repL]
        refine ⟨_, _, rfl, ?_, rfl⟩
        simp only [AV.rep]
        exact .inl ⟨rput_same, trivial, trivial, trivial⟩
    · rw [if_neg hi] at hx
      by_cases hi : n = id
      · subst hi; simp at hx; subst hx
        exact ⟨0, rput_same, e, k, rfl⟩
      · rw [if_neg hi] at hx
        obtain ⟨m, h1, h2⟩ := r2.blk id x hx
        refine ⟨m, by rw [rput_other hi]; exact h1, ?_⟩
        cases m with
        | zero => exact h2
        | succ b => exact Blk.rep_ext hE.sh rfl x h2
  · have hold : ∀ id b, (hget ((c, some (.cells eC [.rw n k 0 0])) :: (n, some (.rows e k [])) :: h) id).isSome = true → rput ρ n 0 id = some (b + 1) → (hget h id).isSome = true ∧ ρ id = some (b + 1) := by
      intro id b h1 h2
      by_cases hi : n = id
      · subst hi; rw [rput_same] at h2; cases h2
      · rw [rput_other hi] at h2
        refine ⟨?_, h2⟩
        rw [hget'] at h1
        by_cases hj : c = id
        · subst hj; simp [hc]
        · rw [if_neg hj, if_neg hi] at h1; exact h1
    obtain ⟨g1, g2⟩ := hold id b h1 h3
    obtain ⟨g3, g4⟩ := hold id' b h2 h4
    exact r2.inj id id' b g1 g3 g2 g4
  · have : n + 1 ≤ id := hid
    rw [rput_other (by omega)]; exact r3 id (by simp; omega)
  · obtain ⟨id', h3, h4⟩ := hsub b ⟨id, h1, h2⟩
    exact r5 id' b h3 h4
end Go.Uw
