/- Calls that are lent blocks; rounds one by one. Own work. -/
import Derived.Test.YtkcjomglcjhkgaaDoorUwR
set_option linter.unusedVariables false
set_option linter.unusedSimpArgs false
set_option linter.unusedVariables false
set_option linter.unusedSimpArgs false
namespace Go.Uw
open Go

inductive AllGet (h : List (Nat × Option Blk)) : List (Nat × Blk) → Prop
  | nil : AllGet h []
  | cons {i : Nat} {b : Blk} {l : List (Nat × Blk)} (h1 : hget h i = some b) (h2 : AllGet h l) : AllGet h ((i, b) :: l)
theorem AllGet.all {h : List (Nat × Option Blk)} : ∀ {l : List (Nat × Blk)}, AllGet h l → ∀ p ∈ l, hget h p.1 = some p.2
  | [], _, p, hp => by simp at hp
  | (i, b) :: l, .cons h1 h2, p, hp => by
    rcases List.mem_cons.1 hp with rfl | hp
    · exact h1
    · exact h2.all p hp

section
variable {P : Program} {nt : Nat} {ops : Array Oper} {rest : List Oper} {t : List (Nat × AV)} {h : List (Nat × Option Blk)} {n : Nat} {K : List Rec → St → Prop}
variable {ty : TypeId} {pos : String} {af : Array Edge} {g : Option (Nat × Bool)}

/-- a call that is lent blocks and hands over new ones; l: the callee's names and the caller's; N: the caller's next name behind the call; nx: the callee's -/
theorem r_callh {d : Tmp} {c : Operand} {xs : List Operand} {at_ : Array TypeId} {vs caps args : List AV} {f : FuncId} {h0 : List (Nat × Option Blk)} {nid : List Nat} {v v' : AV} {puts puts' : List (Nat × Option Blk)} (l : List (Nat × Nat)) (N nx : Nat)
    (hF : Fun P f args h0 nid v puts) (hf : callB P f = true) (hc : evF t c = some (.fn f caps)) (hx : evL t xs = some vs) (hl : renOK 0 N nx l = true)
    (hargs : CvL (fun _ => none) (fun _ => False) (ren 0 N l) (vs ++ caps) args)
    (hH : AllGet h ((liveH h0).map fun p => (ren 0 N l p.1, p.2.ren (ren 0 N l)))) (hn : ((nid.map (ren 0 N l)).all fun i => Nat.ble n i && Nat.blt i N) = true) (hN : Nat.ble n N = true)
    (hv : v.ren (ren 0 N l) = v') (hp : renH (ren 0 N l) puts = puts') (hw : wantedS ops t g) (hd : Nat.blt d nt = true)
    (k : Reg P nt ops rest ⟨(d, v') :: t, puts' ++ h, N⟩ (fun tr s' => K (⟨(foot c (.fn f caps) ++ footL xs vs).map (·.1), ((liveH h0).map fun p => (ren 0 N l p.1, p.2.ren (ren 0 N l))).map (·.1), puts'.map (·.1), nid.map (ren 0 N l)⟩ :: tr) s')) :
    Reg P nt ops (⟨some d, .call ⟨.value c, ⟨xs⟩, at_⟩, ty, pos, af, g⟩ :: rest) ⟨t, h, n⟩ K := by
  subst hv; subst hp
  exact reg_of (ltr_call (evAt_of hc) (evLAt_of hx).1 hf hF N nx l hl hargs) hw (foot_okL hc hx) hH.all
    (fun id hid => by
      have := List.all_eq_true.1 hn id hid
      simp only [Bool.and_eq_true] at this
      exact ⟨Nat.le_of_ble_eq_true this.1, by have := this.2; rwa [Nat.blt_eq] at this⟩) (Nat.le_of_ble_eq_true hN) hd k

theorem r_callh0 {c : Operand} {xs : List Operand} {at_ : Array TypeId} {vs caps args : List AV} {f : FuncId} {h0 : List (Nat × Option Blk)} {nid : List Nat} {v : AV} {puts puts' : List (Nat × Option Blk)} (l : List (Nat × Nat)) (N nx : Nat)
    (hF : Fun P f args h0 nid v puts) (hf : callB P f = true) (hc : evF t c = some (.fn f caps)) (hx : evL t xs = some vs) (hl : renOK 0 N nx l = true)
    (hargs : CvL (fun _ => none) (fun _ => False) (ren 0 N l) (vs ++ caps) args)
    (hH : AllGet h ((liveH h0).map fun p => (ren 0 N l p.1, p.2.ren (ren 0 N l)))) (hn : ((nid.map (ren 0 N l)).all fun i => Nat.ble n i && Nat.blt i N) = true) (hN : Nat.ble n N = true)
    (hp : renH (ren 0 N l) puts = puts') (hw : wantedS ops t g)
    (k : Reg P nt ops rest ⟨t, puts' ++ h, N⟩ (fun tr s' => K (⟨(foot c (.fn f caps) ++ footL xs vs).map (·.1), ((liveH h0).map fun p => (ren 0 N l p.1, p.2.ren (ren 0 N l))).map (·.1), puts'.map (·.1), nid.map (ren 0 N l)⟩ :: tr) s')) :
    Reg P nt ops (⟨none, .call ⟨.value c, ⟨xs⟩, at_⟩, ty, pos, af, g⟩ :: rest) ⟨t, h, n⟩ K := by
  subst hp
  exact reg_of (ltr_call (evAt_of hc) (evLAt_of hx).1 hf hF N nx l hl hargs) hw (foot_okL hc hx) hH.all
    (fun id hid => by
      have := List.all_eq_true.1 hn id hid
      simp only [Bool.and_eq_true] at this
      exact ⟨Nat.le_of_ble_eq_true this.1, by have := this.2; rwa [Nat.blt_eq] at this⟩) (Nat.le_of_ble_eq_true hN) rfl k
end

/-! rounds, one by one -/
def Unr (P : Program) (E : Env) (c : Code) (K : Exit → St → Prop) : Nat → St → Prop
  | 0, _ => False
  | n + 1, s => AWP P E c (thenK (Unr P E c K n) K) s

theorem unr_succ {P : Program} {E : Env} {c : Code} {K : Exit → St → Prop} {n : Nat} {s : St} (h : AWP P E c (thenK (Unr P E c K n) K) s) : Unr P E c K (n + 1) s := h

theorem awp_unroll {P : Program} {E : Env} {c : Code} {K : Exit → St → Prop} {s : St} (n : Nat) (h : Unr P E c K n s) : AWP P E (.loop c) K s := by
  intro ρ a w hR
  refine wp_loop_ix (fun n a w => ∃ s ρ, R E s ρ a w ∧ Unr P E c K n s) id n ⟨s, ρ, hR, h⟩ fun x a w ⟨s, ρ, hx, hu⟩ => ?_
  cases x with
  | zero => exact hu.elim
  | succ x =>
    refine wp_mono (hu ρ a w hx) fun e a' w' ⟨s', ρ', h1, h2⟩ => ?_
    cases e with
    | normal => exact ⟨x, ⟨s', ρ', h1, h2⟩, Nat.lt_succ_self x⟩
    | _ => exact ⟨s', ρ', h1, h2⟩

theorem CvL.same {h : Nat → Option Blk} {dead : Nat → Prop} {ν : Nat → Nat} : ∀ {l : List AV}, CvL h dead ν (renL ν l) l
  | [] => .nil
  | _ :: _ => .cons .same CvL.same
theorem CvL.ren {h : Nat → Option Blk} {dead : Nat → Prop} {ν : Nat → Nat} {x v : List AV} (he : renL ν v = x) : CvL h dead ν x v := by subst he; exact .same
theorem CvB.ren {h : Nat → Option Blk} {dead : Nat → Prop} {ν : Nat → Nat} {x v : Blk} (he : v.ren ν = x) : CvB h dead ν x v := by
  subst he
  cases v with
  | cells e cs => exact .cells .same
  | rows e k rs => exact .rows

inductive FinH (h : List (Nat × Option Blk)) (dead : Nat → Prop) (ν : Nat → Nat) : List (Nat × Option Blk) → Prop
  | nil : FinH h dead ν []
  | cons {i : Nat} {x x' : Blk} {l : List (Nat × Option Blk)} (h1 : hget h (ν i) = some x) (h2 : CvB (hget h) dead ν x x') (h3 : FinH h dead ν l) : FinH h dead ν ((i, some x') :: l)
  | none {i : Nat} {l : List (Nat × Option Blk)} (h3 : FinH h dead ν l) : FinH h dead ν ((i, none) :: l)

theorem FinH.all {h : List (Nat × Option Blk)} {dead : Nat → Prop} {ν : Nat → Nat} : ∀ {l : List (Nat × Option Blk)}, FinH h dead ν l → AllH (fun id x' => ∃ x, hget h (ν id) = some x ∧ CvB (hget h) dead ν x x') l
  | [], _ => trivial
  | (i, some x') :: l, .cons h1 h2 h3 => ⟨⟨_, h1, h2⟩, h3.all⟩
  | (i, Option.none) :: l, .none h3 => h3.all

def vis : List Nat → List (Nat × Option Blk) → List (Nat × Option Blk)
  | _, [] => []
  | seen, (i, b) :: l => bif seen.any (Nat.beq i) then vis seen l else (i, b) :: vis (i :: seen) l

theorem vis_get : ∀ (l : List (Nat × Option Blk)) (seen : List Nat) (id : Nat), seen.any (Nat.beq id) = false → hget (vis seen l) id = hget l id
  | [], _, _, _ => rfl
  | (i, b) :: l, seen, id, hs => by
    simp only [vis]
    cases hi : seen.any (Nat.beq i) with
    | true =>
      simp only [cond_true]
      have hne : i ≠ id := by rintro rfl; rw [hi] at hs; cases hs
      rw [vis_get l seen id hs]
      simp [hget, beq_ne hne]
    | false =>
      simp only [cond_false, hget]
      by_cases h : i = id
      · subst h; simp
      · rw [beq_ne h]
        simp only [cond_false]
        exact vis_get l (i :: seen) id (by simp only [List.any_cons, hs, Bool.or_false]; exact beq_ne (Ne.symm h))

/-- the end of a body that was lent blocks: l: the new names (as the contract has them, as the body has them) -/
theorem finG {P : Program} {n0 : Nat} {s : St} {rl : List ResultVar} {rs : List AV} {h0 : List (Nat × Option Blk)} {nid : List Nat} {v : AV} {puts : List (Nat × Option Blk)} (l : List (Nat × Nat)) (nx : Nat) (hr : ResL P s rl rs) (hl : renOK n0 s.nx nx l = true)
    (hn : Nat.ble n0 nx = true) (hn' : Nat.ble n0 s.nx = true) (hc : Cv (hget s.h) (fun id => ∀ id', (hget (puts ++ h0) id').isSome = true → ren n0 s.nx l id' ≠ id) (ren n0 s.nx l) (tupA rs) v)
    (hh : FinH s.h (fun id => ∀ id', (hget (puts ++ h0) id').isSome = true → ren n0 s.nx l id' ≠ id) (ren n0 s.nx l) (vis [] (puts ++ h0))) : Fin P n0 rl h0 nid v puts s := by
  exact ⟨rs, l, nx, hr, hl, Nat.le_of_ble_eq_true hn, Nat.le_of_ble_eq_true hn', hc, fun id x' hx' => hh.all.get (by rw [vis_get _ _ _ rfl]; exact hx')⟩
end Go.Uw
namespace Go.Uw
section
variable {P : Program} {E : Env} {K : Exit → St → Prop} {s : St}
theorem awp_cond_yes {c : Operand} {x y : Code} {p : Prop} [Decidable p] (hc : evF s.t c = some (bA (decide p))) (hp : p) (h1 : AWP P E x K s) : AWP P E (.cond c x y) K s := awp_cond_dec hc (fun _ => h1) (fun h => absurd hp h)
theorem awp_cond_no {c : Operand} {x y : Code} {p : Prop} [Decidable p] (hc : evF s.t c = some (bA (decide p))) (hp : ¬ p) (h1 : AWP P E y K s) : AWP P E (.cond c x y) K s := awp_cond_dec hc (fun h => absurd h hp) (fun _ => h1)
end
section
variable {P : Program} {nt : Nat} {ops : Array Oper} {rest : List Oper} {t : List (Nat × AV)} {h : List (Nat × Option Blk)} {n : Nat} {K : List Rec → St → Prop}
theorem reg_yes {l : List Oper} (d : Nat) {p : Prop} [Decidable p] (hb : tget t d = some (bA (decide p))) (hp : p) (h1 : Reg P nt ops l ⟨(d, bA true) :: t, h, n⟩ K) : Reg P nt ops l ⟨t, h, n⟩ K := reg_split_dec d hb (fun _ => h1) (fun h => absurd hp h)
theorem reg_no {l : List Oper} (d : Nat) {p : Prop} [Decidable p] (hb : tget t d = some (bA (decide p))) (hp : ¬ p) (h1 : Reg P nt ops l ⟨(d, bA false) :: t, h, n⟩ K) : Reg P nt ops l ⟨t, h, n⟩ K := reg_split_dec d hb (fun h => absurd h hp) (fun _ => h1)
end
end Go.Uw
namespace Go.Uw
theorem fin0' {P : Program} {s : St} {rl : List ResultVar} {rs : List AV} {v : AV} (hr : ResL P s rl rs) (hc : Cv (hget s.h) (fun _ => True) (ren 0 s.nx []) (tupA rs) v) : Fin P 0 rl [] [] v [] s := fin0 hr hc rfl
end Go.Uw
