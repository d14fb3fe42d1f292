/- Helpers of the walks. Own work. -/
import Derived.Test.YtkcjomglcjhkgaaDoorUwP
set_option linter.unusedVariables false
set_option linter.unusedSimpArgs false
set_option linter.unusedVariables false
set_option linter.unusedSimpArgs false
namespace Go.Uw
open Go

theorem renL_fvs (ν : Nat → Nat) : ∀ l : List FV, renL ν (fvs l) = fvs l
  | [] => rfl
  | x :: xs => by simp only [fvs, List.map_cons, renL, AV.ren]; rw [show List.map AV.fv xs = fvs xs from rfl, renL_fvs ν xs]

section
variable {h : Nat → Option Blk} {dead : Nat → Prop} {ν : Nat → Nat}
theorem Cv.eq {x v v' : AV} (hx : Cv h dead ν x v') (he : v' = v) : Cv h dead ν x v := he ▸ hx
theorem Cv.fv {x : FV} : Cv h dead ν (.fv x) (.fv x) := Cv.same (x := .fv x)
theorem CvL.fvs : ∀ {l : List FV}, CvL h dead ν (fvs l) (fvs l)
  | [] => .nil
  | _ :: _ => .cons .fv CvL.fvs
theorem Cv.aggf {l : List FV} : Cv h dead ν (.agg (fvs l)) (.agg (fvs l)) := .agg .fvs
theorem Cv.ren {x v : AV} (he : v.ren ν = x) : Cv h dead ν x v := by subst he; exact Cv.same
theorem Cv.rptr {l : List FV} : Cv h dead ν (.rptr l) (.rptr l) := Cv.same (x := .rptr l)
end

section
variable {P : Program} {E : Env} {K : Exit → St → Prop} {s : St}

/-- an integer in a slot is in range -/
theorem awp_rng {c : Code} (i : Nat) {k : IntKind} {a : Int} (h : tget s.t i = some (iv k a)) (hk : k.min ≤ a ∧ a ≤ k.max → AWP P E c K s) : AWP P E c K s := by
  intro ρ ac w hR
  obtain ⟨u, h1, h2⟩ := hR.tm _ _ h
  exact hk (by simpa [litOK] using (rep_lit h2).2) ρ ac w hR

/-- a frozen slice has a length -/
theorem awp_len {c : Code} (i : Nat) {k : Nat} {rows : List (List FV)} (h : tget s.t i = some (.fv (.ro k rows))) (hk : rows.length ≤ maxLen → AWP P E c K s) : AWP P E c K s := by
  intro ρ ac w hR
  obtain ⟨u, h1, h2⟩ := hR.tm _ _ h
  simp only [AV.rep, FV.rep] at h2
  obtain ⟨a, len, cap, h3, h4, h5, h6, _⟩ := h2
  exact hk (by omega) ρ ac w hR

/-- several ways lead to one state -/
theorem awp_join {x y : Code} {Y : Type} (M : Y → St) (Q : Y → Prop) (h1 : AWP P E x (thenK (fun s' => ∃ z, Q z ∧ Le E s' (M z)) K) s) (h2 : ∀ z, Q z → AWP P E y K (M z)) : AWP P E (.seq x y) K s := by
  refine awp_seq (awp_mono h1 ?_)
  intro e s' h
  cases e with
  | normal => obtain ⟨z, hz, hl⟩ := h; exact awp_le hl (h2 z hz)
  | _ => exact h

theorem fin0 {rl : List ResultVar} {rs : List AV} {v v' : AV} (hr : ResL P s rl rs) (hc : Cv (hget s.h) (fun _ => True) (ren 0 s.nx []) (tupA rs) v') (he : v' = v) : Fin P 0 rl [] [] v [] s := by
  subst he
  refine ⟨rs, [], 0, hr, rfl, Nat.le_refl _, Nat.zero_le _, Cv.mono (fun _ _ h => h) (fun id _ _ => by simp [hget]) hc, fun id x' h => by simp [hget] at h⟩
end

theorem map_get {α : Type} {f : α → List FV} {l : List α} {i : Nat} (h : i < l.length) : (l.map f)[((i : Nat) : Int).toNat]? = some (f l[i]) := by simp [h]
theorem map_geti {α : Type} {f : α → List FV} {l : List α} {i : Int} (h : i.toNat < l.length) : (l.map f)[i.toNat]? = some (f l[i.toNat]) := by simp [h]
theorem len_map {α : Type} {f : α → List FV} {l : List α} : (l.map f).length = l.length := by simp

theorem rng64 {a : Int} (h : -9223372036854775808 ≤ a ∧ a ≤ 9223372036854775807) : IntKind.i64.min ≤ a ∧ a ≤ IntKind.i64.max := by
  simpa [IntKind.min, IntKind.max, IntKind.bits, IntKind.signed] using h
theorem rng64' {a : Int} (h : IntKind.i64.min ≤ a ∧ a ≤ IntKind.i64.max) : -9223372036854775808 ≤ a ∧ a ≤ 9223372036854775807 := by
  simpa [IntKind.min, IntKind.max, IntKind.bits, IntKind.signed] using h
theorem maxLen_eq : maxLen = 9223372036854775807 := by rfl
end Go.Uw
namespace Go.Uw
theorem Cv.aggf' {h : Nat → Option Blk} {dead : Nat → Prop} {ν : Nat → Nat} {x : List AV} {l : List FV} (e : fvs l = x) : Cv h dead ν (.agg x) (.agg (fvs l)) := e ▸ .aggf
end Go.Uw
namespace Go.Uw
section
variable {P : Program} {nt : Nat} {ops : Array Oper} {rest : List Oper} {t : List (Nat × AV)} {h : List (Nat × Option Blk)} {n : Nat} {K : List Rec → St → Prop}
theorem r_skip {op : Op} {d : Tmp} {ty : TypeId} {pos : String} {af : Array Edge} {g : Option (Nat × Bool)} (hw : unwantedS ops t g) (hd : Nat.blt d nt = true) (k : Reg P nt ops rest ⟨(d, .undef) :: t, h, n⟩ (fun tr s' => K (⟨[], [], [], []⟩ :: tr) s')) :
    Reg P nt ops (⟨some d, op, ty, pos, af, g⟩ :: rest) ⟨t, h, n⟩ K := reg_skip hw hd k
theorem r_skip0 {op : Op} {ty : TypeId} {pos : String} {af : Array Edge} {g : Option (Nat × Bool)} (hw : unwantedS ops t g) (k : Reg P nt ops rest ⟨t, h, n⟩ (fun tr s' => K (⟨[], [], [], []⟩ :: tr) s')) :
    Reg P nt ops (⟨none, op, ty, pos, af, g⟩ :: rest) ⟨t, h, n⟩ K := reg_skip hw rfl k
end
end Go.Uw
