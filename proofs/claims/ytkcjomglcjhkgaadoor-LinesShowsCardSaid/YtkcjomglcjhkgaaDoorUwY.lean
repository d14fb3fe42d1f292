/- unsafe.String over nothing. Own work. -/
import Derived.Test.YtkcjomglcjhkgaaDoorUwX
set_option linter.unusedVariables false
set_option linter.unusedSimpArgs false
set_option linter.unusedVariables false
namespace Go.Uw
open Go
section
variable {P : Program} {dst : Option Tmp} {ty : TypeId} {pos : String} {af : Array Edge} {g : Option (Nat × Bool)}
theorem ltr_sdata0 {x : Operand} {at_ : Array TypeId} (hx : EvAt x (lit (.slice none 0 0))) :
    LTr P ⟨dst, .call ⟨.builtin .unsafeSliceData, ⟨[x]⟩, at_⟩, ty, pos, af, g⟩ (foot x (lit (.slice none 0 0))) [] [] (lit (.pointer none)) [] :=
  LTr.pure fun F ρ h ac w _ _ hT' => by
    have h1 := (rep_lit (eval_rep hx (List.Subset.refl _) hT')).1
    refine ⟨.pointer none, ?_, rep_lit_mk rfl⟩
    have := Lib.run_unsafeSliceData_nil (P := P) (w := w) at_ ty 0 0
    simp [execOp, resolve, invoke, builtin, h1, this]
theorem ltr_ustr0 {pt it : Nat} {x y : Operand} (hx : EvAt x (lit (.pointer none))) (hy : EvAt y (iA 0)) :
    LTr P ⟨dst, .call ⟨.builtin .unsafeString, ⟨[x, y]⟩, ⟨[pt, it]⟩⟩, ty, pos, af, g⟩ (foot x (lit (.pointer none)) ++ foot y (iA 0)) [] [] (sA []) [] :=
  LTr.pure fun F ρ h ac w _ _ hT' => by
    have h1 := (rep_lit (eval_rep hx sub1 hT')).1
    have h2 := (rep_lit (eval_rep hy sub2 hT')).1
    refine ⟨.string .empty, ?_, rep_lit_mk (v := .string ⟨[].toArray⟩) (by simp [litOK, ByteArray.size])⟩
    have := Lib.run_unsafeString_none (P := P) (w := w) pt it ty none
    simp [execOp, resolve, invoke, builtin, h1, h2, this]
end
section
variable {P : Program} {nt : Nat} {ops : Array Oper} {rest : List Oper} {t : List (Nat × AV)} {h : List (Nat × Option Blk)} {n : Nat} {K : List Rec → St → Prop}
variable {d : Tmp} {ty : TypeId} {pos : String} {af : Array Edge} {g : Option (Nat × Bool)}
theorem r_sdata0 {x : Operand} {at_ : Array TypeId} (hx : evF t x = some (lit (.slice none 0 0))) (hw : wantedS ops t g) (hd : Nat.blt d nt = true)
    (k : Reg P nt ops rest ⟨(d, lit (.pointer none)) :: t, h, n⟩ (fun tr s' => K (⟨(foot x (lit (.slice none 0 0))).map (·.1), [], [], []⟩ :: tr) s')) :
    Reg P nt ops (⟨some d, .call ⟨.builtin .unsafeSliceData, ⟨[x]⟩, at_⟩, ty, pos, af, g⟩ :: rest) ⟨t, h, n⟩ K := reg_pure (ltr_sdata0 (evAt_of hx)) hw (foot_ok hx) hd k
theorem r_ustr0 {pt it : Nat} {x y : Operand} (hx : evF t x = some (lit (.pointer none))) (hy : evF t y = some (iA 0)) (hw : wantedS ops t g) (hd : Nat.blt d nt = true)
    (k : Reg P nt ops rest ⟨(d, sA []) :: t, h, n⟩ (fun tr s' => K (⟨(foot x (lit (.pointer none)) ++ foot y (iA 0)).map (·.1), [], [], []⟩ :: tr) s')) :
    Reg P nt ops (⟨some d, .call ⟨.builtin .unsafeString, ⟨[x, y]⟩, ⟨[pt, it]⟩⟩, ty, pos, af, g⟩ :: rest) ⟨t, h, n⟩ K := reg_pure (ltr_ustr0 (evAt_of hx) (evAt_of hy)) hw (foot_ok2 hx hy) hd k
end
end Go.Uw
