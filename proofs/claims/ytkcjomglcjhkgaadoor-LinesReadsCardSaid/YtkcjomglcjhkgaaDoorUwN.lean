/- Equality of structs, cuts, lending, an empty slice under a name. Own work. -/
import Derived.Test.YtkcjomglcjhkgaaDoorUwM
set_option linter.unusedVariables false
set_option linter.unusedSimpArgs false
namespace Go.Uw
open Go

/-! ### '==' on flat structs -/
/-- a type of bools, integers, strings, and structs of such, the cells in order: how many cells -/
def flatB (P : Program) : Nat → TypeId → Option (List (Option IntKind))
  | 0, _ => none
  | d + 1, t =>
    match P.underlying t with
    | some .bool => some [none]
    | some (.int k) => some [some k]
    | some (.struct fs) =>
      if P.stoodInHeld t then none else
      fs.toList.foldlM (fun acc f => if f.name ≠ "_" ∧ f.offset = acc.length then
        (match flatB P d f.type, P.info? f.type with
          | some l, some i => if l.length = i.size ∧ (aggB ((P.underlying f.type).getD .invalid) = false → l.length = 1) then some (acc ++ l) else none
          | _, _ => none) else none) []
    | _ => none

def hasKind : Option IntKind → Value → Bool
  | none, .bool _ => true
  | some k, .int k' _ => k == k'
  | _, _ => false

def eqV : Value → Value → Bool
  | .bool a, .bool b => a == b
  | .int _ a, .int _ b => decide (a = b)
  | _, _ => false

def eqVs : List Value → List Value → Bool
  | [], [] => true
  | a :: l, b :: r => eqV a b && eqVs l r
  | _, _ => false

def hasKinds : List (Option IntKind) → List Value → Bool
  | [], [] => true
  | k :: ks, v :: vs => hasKind k v && hasKinds ks vs
  | _, _ => false

theorem hasKinds_length : ∀ {ks : List (Option IntKind)} {vs : List Value}, hasKinds ks vs = true → vs.length = ks.length
  | [], [], _ => rfl
  | _ :: _, _ :: _, h => by simp only [hasKinds, Bool.and_eq_true] at h; simp [hasKinds_length h.2]
  | [], _ :: _, h => by simp [hasKinds] at h
  | _ :: _, [], h => by simp [hasKinds] at h

theorem hasKinds_append : ∀ {ks ls : List (Option IntKind)} {vs : List Value}, hasKinds (ks ++ ls) vs = true → hasKinds ks (vs.take ks.length) = true ∧ hasKinds ls (vs.drop ks.length) = true
  | [], ls, vs, h => by simpa [hasKinds] using h
  | k :: ks, ls, [], h => by simp [hasKinds] at h
  | k :: ks, ls, v :: vs, h => by
    simp only [List.cons_append, hasKinds, Bool.and_eq_true] at h
    obtain ⟨h1, h2⟩ := hasKinds_append h.2
    simp [hasKinds, h.1, h1, h2]

theorem eqVs_append : ∀ {a b c d : List Value}, a.length = b.length → eqVs (a ++ c) (b ++ d) = (eqVs a b && eqVs c d)
  | [], [], c, d, _ => by simp [eqVs]
  | x :: a, y :: b, c, d, h => by
    simp only [List.cons_append, eqVs, Bool.and_assoc]
    rw [eqVs_append (by simpa using h)]
  | [], _ :: _, _, _, h => by simp at h
  | _ :: _, [], _, _, h => by simp at h

theorem eqVs_take_drop {a b : List Value} (n : Nat) (h : a.length = b.length) : eqVs a b = (eqVs (a.take n) (b.take n) && eqVs (a.drop n) (b.drop n)) := by
  rw [← eqVs_append (by simp [h]), List.take_append_drop, List.take_append_drop]

theorem run_eq_flat (P : Program) : ∀ (d : Nat) (t : TypeId) (ks : List (Option IntKind)), flatB P d t = some ks → ∀ (xs ys : List Value), hasKinds ks xs = true → hasKinds ks ys = true → ∀ (N : Nat), d ≤ N → ∀ (w : World),
    (aggB ((P.underlying t).getD .invalid) = true → (Op.equalIn N t (.agg xs.toArray) (.agg ys.toArray)).run P w = .ok (eqVs xs ys) w) ∧
    (aggB ((P.underlying t).getD .invalid) = false → ∀ x y, xs = [x] → ys = [y] → (Op.equalIn N t x y).run P w = .ok (eqVs xs ys) w)
  | 0, t, ks, h => by simp [flatB] at h
  | d + 1, t, ks, h => by
    intro xs ys hx hy N hN w
    obtain ⟨N, rfl⟩ : ∃ M, N = M + 1 := ⟨N - 1, by omega⟩
    simp only [flatB] at h
    split at h
    · rename_i hu
      cases h
      refine ⟨fun hg => by simp [hu, aggB] at hg, fun _ x y h1 h2 => ?_⟩
      subst h1; subst h2
      cases x <;> simp [hasKinds, hasKind] at hx
      cases y <;> simp [hasKinds, hasKind] at hy
      simp [Op.equalIn, run_underlying hu, eqVs, eqV]
    · rename_i k hu
      cases h
      refine ⟨fun hg => by simp [hu, aggB] at hg, fun _ x y h1 h2 => ?_⟩
      subst h1; subst h2
      cases x <;> simp [hasKinds, hasKind] at hx
      cases y <;> simp [hasKinds, hasKind] at hy
      subst hx; subst hy
      rename_i a b
      simp only [Op.equalIn, Sem.run_bind, run_underlying hu, Result.andThen_ok, if_true, Sem.run_pure, eqVs, eqV, Bool.and_true]
      by_cases hab : a = b <;> simp [hab]
    · rename_i fs hu
      split at h
      · cases h
      · rename_i hst
        refine ⟨fun _ => ?_, fun hg => by simp [hu, aggB] at hg⟩
        have hfo : P.underlying t = some (.struct (P.fieldsOf t)) := by simp [Program.fieldsOf, hu]
        have hfs : P.fieldsOf t = fs := by simp [Program.fieldsOf, hu]
        rw [run_equalIn_struct w N t xs.toArray ys.toArray hfo (by simpa using hst), hfs]
        -- the fields, one by one
        have key : ∀ (l : List Field) (acc ks : List (Option IntKind)), l.foldlM (fun acc f => if f.name ≠ "_" ∧ f.offset = acc.length then
            (match flatB P d f.type, P.info? f.type with
              | some l, some i => if l.length = i.size ∧ (aggB ((P.underlying f.type).getD .invalid) = false → l.length = 1) then some (acc ++ l) else none
              | _, _ => none) else none) acc = some ks → hasKinds ks xs = true → hasKinds ks ys = true →
            (∃ r, ks = acc ++ r) ∧ (Op.eqFields N xs.toArray ys.toArray l).run P w = .ok (eqVs (xs.drop acc.length) (ys.drop acc.length)) w := by
          intro l
          induction l with
          | nil =>
            intro acc ks hk h1 h2
            simp at hk; subst hk
            refine ⟨⟨[], by simp⟩, ?_⟩
            have e1 := hasKinds_length h1
            have e2 := hasKinds_length h2
            rw [List.drop_of_length_le (by omega), List.drop_of_length_le (by omega)]
            simp [Op.eqFields, eqVs]
          | cons f l ih =>
            intro acc ks hk h1 h2
            simp only [List.foldlM_cons] at hk
            by_cases hc : f.name ≠ "_" ∧ f.offset = acc.length
            · rw [if_pos hc] at hk
              cases hfl : flatB P d f.type with
              | none => simp [hfl] at hk
              | some fl =>
                cases hi : P.info? f.type with
                | none => simp [hfl, hi] at hk
                | some i =>
                  simp only [hfl, hi] at hk
                  by_cases hlen : fl.length = i.size ∧ (aggB ((P.underlying f.type).getD .invalid) = false → fl.length = 1)
                  · rw [if_pos hlen] at hk
                    simp only [Option.bind_eq_bind, Option.bind_some] at hk
                    obtain ⟨⟨r, hr⟩, hrun⟩ := ih (acc ++ fl) ks hk h1 h2
                    refine ⟨⟨fl ++ r, by rw [hr, List.append_assoc]⟩, ?_⟩
                    have hkx : hasKinds fl ((xs.drop acc.length).take fl.length) = true := by
                      rw [hr, List.append_assoc] at h1
                      exact (hasKinds_append (hasKinds_append h1).2).1
                    have hky : hasKinds fl ((ys.drop acc.length).take fl.length) = true := by
                      rw [hr, List.append_assoc] at h2
                      exact (hasKinds_append (hasKinds_append h2).2).1
                    have lx := hasKinds_length hkx
                    have ly := hasKinds_length hky
                    have hxl := hasKinds_length h1
                    have hyl := hasKinds_length h2
                    have hfx : acc.length + fl.length ≤ xs.length := by rw [hxl, hr]; simp
                    have hfy : acc.length + fl.length ≤ ys.length := by rw [hyl, hr]; simp
                    obtain ⟨ihA, ihB⟩ := run_eq_flat P d f.type fl hfl _ _ hkx hky N (by omega) w
                    have hund : ∃ du, P.underlying f.type = some du := by
                      cases d with
                      | zero => simp [flatB] at hfl
                      | succ d =>
                        simp only [flatB] at hfl
                        cases hq : P.underlying f.type with
                        | none => simp [hq] at hfl
                        | some du => exact ⟨du, rfl⟩
                    obtain ⟨du, hdu⟩ := hund
                    have hstep : (do let a ← part f.type xs.toArray f.offset; let b ← part f.type ys.toArray f.offset; Op.equalIn N f.type a b : Sem Bool).run P w =
                        .ok (eqVs ((xs.drop acc.length).take fl.length) ((ys.drop acc.length).take fl.length)) w := by
                      cases hg : aggB du with
                      | true =>
                        have hty : tyB P f.type = some (true, i.size, i.bytes) := by simp [tyB, hdu, hi, hg]
                        have p1 := part_run (w := w) hty (cs := xs.toArray) (off := f.offset) (by simp; omega) (by simp)
                        have p2 := part_run (w := w) hty (cs := ys.toArray) (off := f.offset) (by simp; omega) (by simp)
                        have e1 : xs.toArray.extract f.offset (f.offset + i.size) = ((xs.drop acc.length).take fl.length).toArray := by
                          rw [hc.2, hlen.1]; simp [List.extract_eq_take_drop]
                        have e2 : ys.toArray.extract f.offset (f.offset + i.size) = ((ys.drop acc.length).take fl.length).toArray := by
                          rw [hc.2, hlen.1]; simp [List.extract_eq_take_drop]
                        simp only [Sem.run_bind, p1, p2, Result.andThen_ok, if_true, e1, e2]
                        exact ihA (by simp [hdu, hg])
                      | false =>
                        have hone := hlen.2 (by simp [hdu, hg])
                        have hty : tyB P f.type = some (false, 1, i.bytes) := by simp [tyB, hdu, hi, hg]; omega
                        have p1 := part_run (w := w) hty (cs := xs.toArray) (off := f.offset) (by simp; omega) (by simp)
                        have p2 := part_run (w := w) hty (cs := ys.toArray) (off := f.offset) (by simp; omega) (by simp)
                        have q1 : acc.length < xs.length := by omega
                        have q2 : acc.length < ys.length := by omega
                        have e1 : (xs.drop acc.length).take fl.length = [xs[acc.length]] := by rw [hone, List.drop_eq_getElem_cons q1]; rfl
                        have e2 : (ys.drop acc.length).take fl.length = [ys[acc.length]] := by rw [hone, List.drop_eq_getElem_cons q2]; rfl
                        have g1 : xs.toArray.getD f.offset default = xs[acc.length] := by rw [hc.2]; simp [Array.getD_eq_getD_getElem?, q1]
                        have g2 : ys.toArray.getD f.offset default = ys[acc.length] := by rw [hc.2]; simp [Array.getD_eq_getD_getElem?, q2]
                        simp only [Sem.run_bind, p1, p2, Result.andThen_ok, Bool.false_eq_true, if_false, g1, g2]
                        exact ihB (by simp [hdu, hg]) _ _ e1 e2
                    have hsp : eqVs (xs.drop acc.length) (ys.drop acc.length) = (eqVs ((xs.drop acc.length).take fl.length) ((ys.drop acc.length).take fl.length) && eqVs (xs.drop (acc ++ fl).length) (ys.drop (acc ++ fl).length)) := by
                      rw [eqVs_take_drop fl.length (by simp; omega)]
                      simp [List.drop_drop]
                    rw [hsp]
                    simp only [Op.eqFields, if_pos hc.1]
                    have hs' : ∀ (k : Bool → Sem Bool), (do let a ← part f.type xs.toArray f.offset; let b ← part f.type ys.toArray f.offset; let r ← Op.equalIn N f.type a b; k r : Sem Bool).run P w =
                        (k (eqVs ((xs.drop acc.length).take fl.length) ((ys.drop acc.length).take fl.length))).run P w := by
                      intro k
                      have : (do let a ← part f.type xs.toArray f.offset; let b ← part f.type ys.toArray f.offset; let r ← Op.equalIn N f.type a b; k r : Sem Bool) =
                          (do let r ← (do let a ← part f.type xs.toArray f.offset; let b ← part f.type ys.toArray f.offset; Op.equalIn N f.type a b); k r) := by simp [bind_assoc]
                      rw [this, Sem.run_bind, hstep]; rfl
                    rw [hs']
                    cases hq : eqVs ((xs.drop acc.length).take fl.length) ((ys.drop acc.length).take fl.length) with
                    | true => simpa using hrun
                    | false => simp
                  · rw [if_neg hlen] at hk; simp at hk
            · rw [if_neg hc] at hk; simp at hk
        have := (key fs.toList [] ks h hx hy).2
        simpa using this
    · cases h

section
variable {P : Program} {dst : Option Tmp} {ty : TypeId} {pos : String} {af : Array Edge} {g : Option (Nat × Bool)}

def litsOf : List AV → Option (List Value)
  | [] => some []
  | .fv (.lit v) :: l => match litsOf l with | some vs => some (v :: vs) | none => none
  | _ :: _ => none

theorem litsOf_spec : ∀ {l : List AV} {vs : List Value}, litsOf l = some vs → l = vs.map fun v => .fv (.lit v)
  | [], vs, h => by simp [litsOf] at h; subst h; rfl
  | .fv (.lit v) :: l, vs, h => by
    simp only [litsOf] at h
    split at h
    · rename_i us hu; simp at h; subst h; simp [litsOf_spec hu]
    · cases h
  | .fv (.ro _ _) :: _, _, h => by simp [litsOf] at h
  | .ptr .. :: _, _, h => by simp [litsOf] at h
  | .rw .. :: _, _, h => by simp [litsOf] at h
  | .rptr _ :: _, _, h => by simp [litsOf] at h
  | .fn .. :: _, _, h => by simp [litsOf] at h
  | .agg _ :: _, _, h => by simp [litsOf] at h
  | .tup _ :: _, _, h => by simp [litsOf] at h
  | .undef :: _, _, h => by simp [litsOf] at h
  | .top :: _, _, h => by simp [litsOf] at h

theorem repL_lits {w : World} {own : Nat → Prop} {ρ : Names} : ∀ {vs us : List Value}, repL w own ρ (vs.map fun v => .fv (.lit v)) us → us = vs
  | [], us, h => by simpa [repL] using h
  | v :: vs, us, h => by
    simp only [List.map_cons, repL] at h
    obtain ⟨u, us', rfl, h1, h2⟩ := h
    rw [(rep_lit h1).1, repL_lits h2]

theorem ltr_eqs {op : BinOp} {T : Nat} {x y : Operand} {yt : TypeId} {cs ds : List AV} {xs ys : List Value} {ks : List (Option IntKind)} {d : Nat} {r : Bool} (hop : op = .eql ∨ op = .neq) (hfl : flatB P d T = some ks) (hd : d ≤ 10000)
    (hg : aggB ((P.underlying T).getD .invalid) = true) (hq : P.eqGuardType P.depth T = false)
    (hx : EvAt x (.agg cs)) (hy : EvAt y (.agg ds)) (hcs : litsOf cs = some xs) (hds : litsOf ds = some ys) (hkx : hasKinds ks xs = true) (hky : hasKinds ks ys = true) (hr : eqVs xs ys = r) :
    LTr P ⟨dst, .binOp op T x y yt, ty, pos, af, g⟩ (foot x (.agg cs) ++ foot y (.agg ds)) [] [] (bA (if op = .neq then !r else r)) [] :=
  LTr.pure fun F ρ h a w _ _ hT' => by
    have h1 := eval_rep hx sub1 hT'
    have h2 := eval_rep hy sub2 hT'
    simp only [AV.rep] at h1 h2
    obtain ⟨us, e1, e2, _⟩ := h1
    obtain ⟨vs, e3, e4, _⟩ := h2
    rw [litsOf_spec hcs] at e2
    rw [litsOf_spec hds] at e4
    have := repL_lits e2; subst this
    have := repL_lits e4; subst this
    have hrun := (run_eq_flat P d T ks hfl us vs hkx hky 10000 hd w).1 hg
    rw [hr] at hrun
    have hgd : (eqGuard op T x y (.agg us.toArray) (.agg vs.toArray)).run P w = .ok () w := run_eqGuard_agg w op T x y us.toArray vs.toArray hq
    refine ⟨.bool (if op = .neq then !r else r), ?_, rep_lit_mk rfl⟩
    rcases hop with rfl | rfl
    · simp only [execOp, e1, e3, Sem.run_bind, hgd, Result.andThen_ok, run_eql_struct, hrun]; rfl
    · simp only [execOp, e1, e3, Sem.run_bind, hgd, Result.andThen_ok, run_neq_struct, hrun]; rfl

/-! ### cuts of frozen slices -/
end
end Go.Uw
