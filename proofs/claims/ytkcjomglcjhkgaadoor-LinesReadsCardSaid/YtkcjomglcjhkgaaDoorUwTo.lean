/- A store into rows of the call's own. Own work. -/
import Derived.Test.YtkcjomglcjhkgaaDoorUwSt
set_option linter.unusedVariables false
set_option linter.unusedSimpArgs false
namespace Go.Uw
open Go

def allF : List AV → Option (List FV)
  | [] => some []
  | .fv x :: l => match allF l with
    | some r => some (x :: r)
    | none => none
  | _ :: _ => none
def fcells : AV → Option (List FV)
  | .fv x => some [x]
  | .agg cs => allF cs
  | _ => none

theorem allF_eq : ∀ {cs : List AV} {l : List FV}, allF cs = some l → cs = fvs l
  | [], l, h => by simp [allF] at h; subst h; rfl
  | .fv x :: cs, l, h => by
    simp only [allF] at h
    split at h
    · rename_i r hr
      cases h
      rw [allF_eq hr]; rfl
    · cases h
  | .ptr .. :: _, _, h => by simp [allF] at h
  | .rw .. :: _, _, h => by simp [allF] at h
  | .rptr .. :: _, _, h => by simp [allF] at h
  | .fn .. :: _, _, h => by simp [allF] at h
  | .agg .. :: _, _, h => by simp [allF] at h
  | .tup .. :: _, _, h => by simp [allF] at h
  | .undef :: _, _, h => by simp [allF] at h
  | .top :: _, _, h => by simp [allF] at h
theorem fcells_eq {v : AV} {l : List FV} (h : fcells v = some l) : cellish v = true ∧ cellsOfA v = fvs l := by
  cases v <;> simp [fcells] at h
  · subst h; exact ⟨rfl, rfl⟩
  · exact ⟨rfl, allF_eq h⟩

def setRowF (rs : List (List FV)) (i col : Nat) (l : List FV) : List (List FV) :=
  match rs, i with
  | [], _ => []
  | r :: rs, 0 => setAt r col l :: rs
  | r :: rs, i + 1 => r :: setRowF rs i col l

theorem setRowF_len : ∀ (rs : List (List FV)) (i col : Nat) (l : List FV), (setRowF rs i col l).length = rs.length
  | [], i, _, _ => by cases i <;> rfl
  | _ :: _, 0, _, _ => rfl
  | _ :: rs, i + 1, col, l => by simp [setRowF, setRowF_len rs i col l]

theorem setRowF_k {k : Nat} : ∀ {rs : List (List FV)} {i col : Nat} {l r : List FV}, (∀ r ∈ rs, r.length = k) → rs[i]? = some r → col + l.length ≤ r.length → ∀ r ∈ setRowF rs i col l, r.length = k
  | [], i, col, l, r, _, h, _ => by simp at h
  | r0 :: rs, 0, col, l, r, hk, hr, hl => by
    simp at hr; subst hr
    intro r' hr'
    simp only [setRowF, List.mem_cons] at hr'
    rcases hr' with rfl | hr'
    · rw [setAt_length _ _ _ hl]; exact hk r0 (by simp)
    · exact hk r' (by simp [hr'])
  | r0 :: rs, i + 1, col, l, r, hk, hr, hl => by
    intro r' hr'
    simp only [setRowF, List.mem_cons] at hr'
    rcases hr' with rfl | hr'
    · exact hk r' (by simp)
    · exact setRowF_k (fun r hr => hk r (by simp [hr])) (by simpa using hr) hl r' hr'

theorem setAt_app {α : Type} : ∀ (a b : List α) (n : Nat) (vs : List α), n + vs.length ≤ a.length → setAt (a ++ b) n vs = setAt a n vs ++ b
  | a, b, n, vs, h => by
    rw [setAt_eq a n vs h, setAt_eq (a ++ b) n vs (by simp; omega), List.take_append_of_le_length (by omega), List.drop_append_of_le_length h]
    simp
theorem setAt_app2 {α : Type} (a b : List α) (n : Nat) (vs : List α) (h : n + vs.length ≤ b.length) : setAt (a ++ b) (a.length + n) vs = a ++ setAt b n vs := by
  rw [setAt_eq b n vs h, setAt_eq (a ++ b) _ vs (by simp; omega)]
  rw [List.take_append, List.drop_append, List.take_of_length_le (by omega), List.drop_of_length_le (by omega)]
  simp [show a.length + n - a.length = n by omega, show a.length + n + vs.length - a.length = n + vs.length by omega]

theorem setRowF_flat {k : Nat} : ∀ {rs : List (List FV)} {i col : Nat} {l r : List FV}, (∀ r ∈ rs, r.length = k) → rs[i]? = some r → col + l.length ≤ r.length → (setRowF rs i col l).flatten = setAt rs.flatten (i * k + col) l ∧ i * k + col + l.length ≤ rs.flatten.length
  | [], i, col, l, r, _, h, _ => by simp at h
  | r0 :: rs, 0, col, l, r, hk, hr, hl => by
    simp at hr; subst hr
    simp only [setRowF, List.flatten_cons, Nat.zero_mul, Nat.zero_add]
    exact ⟨(setAt_app _ _ _ _ hl).symm, by simp; omega⟩
  | r0 :: rs, i + 1, col, l, r, hk, hr, hl => by
    obtain ⟨h1, h2⟩ := setRowF_flat (fun r hr => hk r (by simp [hr])) (show rs[i]? = some r by simpa using hr) hl
    have hk0 := hk r0 (by simp)
    simp only [setRowF, List.flatten_cons]
    rw [h1, show (i + 1) * k + col = r0.length + (i * k + col) by rw [Nat.add_mul]; omega, setAt_app2 _ _ _ _ h2]
    refine ⟨rfl, ?_⟩
    rw [List.length_append]; omega

section
variable {P : Program} {dst : Option Tmp} {ty : TypeId} {pos : String} {af : Array Edge} {g : Option (Nat × Bool)}
theorem ltr_sto {T k n id kk row col : Nat} {gg : Bool} {e : TypeId} {rs : List (List FV)} {v : AV} {l r : List FV} {x y : Operand} (ht : tyB P T = some (gg, k, n)) (hx : EvAt x (.ptr id kk row col)) (hy : EvAt y v)
    (hl : fcells v = some l) (hr : rs[row]? = some r) (hk : l.length = k) (hf : col + k ≤ r.length) :
    LTr P ⟨dst, .store T x y, ty, pos, af, g⟩ (foot x (.ptr id kk row col) ++ foot y v) [(id, .rows e kk rs)] [] .undef [(id, some (.rows e kk (setRowF rs row col l)))] :=
  LTr.of_run fun F ρ h a w hh hH _ hT => by
    have h1 := eval_rep hx sub1 hT
    have h1' := eval_rep hy sub2 hT
    simp only [AV.rep] at h1
    obtain ⟨b, h2, h3⟩ := h1
    have hid : h id = some (.rows e kk rs) := hH (id, .rows e kk rs) (by simp)
    obtain ⟨m, h4, h5⟩ := hh.blk id _ hid
    rw [h2] at h4; cases h4
    simp only [Blk.rep] at h5
    obtain ⟨c, h6, h7, h8⟩ := h5
    obtain ⟨hcl, hce⟩ := fcells_eq hl
    obtain ⟨h9, h10⟩ := cellsOfA_rep hcl h1'
    rw [hce] at h9
    have hlen : (a.eval y).cells.size = k := by have := repL_length h9; simp [fvs] at this; omega
    have hrk := ownRows_k h8
    obtain ⟨xs, x1, x2, x3⟩ := flat_of_ownRows (ρ := ρ) h8
    obtain ⟨f1, f2⟩ := setRowF_flat (l := l) (col := col) hrk hr (by rw [hk]; exact hf)
    have hfl : rs.flatten.length = rs.length * kk := by have := repL_length x1; rw [show (fvs rs.flatten).length = rs.flatten.length from by simp only [fvs, List.length_map]] at this; omega
    have hst := run_storeAt (P := P) (w := w) (o := row * kk + col) ht hlen h10 h6 (by omega)
    refine ⟨undef, w.setRow b (c.toList.take (row * kk + col) ++ (a.eval y).cells.toList ++ c.toList.drop (row * kk + col + k)).toArray, .inr ⟨rfl, ?_⟩,
      Out.set hh hid h2 h6 (by simp [hlen]; omega) (fun own' ρ' hE => ?_) (fun _ _ _ => by simp [AV.rep])⟩
    · simp only [execOp, h3, Sem.run_bind, hst, Result.andThen_ok, Sem.run_pure]
    · simp only [Blk.rep]
      refine ⟨_, setRow_heap w b _ _ e (0, 0) h6, by rw [setRowF_len]; simp [hlen]; omega, ?_⟩
      have hv : repL w (sh F (own ρ h)) ρ (fvs (setRowF rs row col l).flatten) (xs.take (row * kk + col) ++ (a.eval y).cells.toList ++ xs.drop (row * kk + col + k)) := by
        rw [f1, setAt_eq _ _ _ f2, fvs_append, fvs_append, hk]
        have e1 : fvs (rs.flatten.take (row * kk + col)) = (fvs rs.flatten).take (row * kk + col) := by simp [fvs, List.map_take]
        have e2 : fvs (rs.flatten.drop (row * kk + col + k)) = (fvs rs.flatten).drop (row * kk + col + k) := by simp [fvs, List.map_drop]
        rw [e1, e2]
        exact repL_append (repL_append (repL_take _ x1) h9) (repL_drop _ x1)
      refine ownRows_of_flat (ρ := ρ') (setRowF_k hrk hr (by omega)) (repL_ext hE _ _ hv) fun j u hj => ?_
      rw [Nat.zero_add, cell_of_heap (setRow_heap w b _ _ e (0, 0) h6), List.getElem?_toArray]
      have hcell : ∀ j u, xs[j]? = some u → c.toList[j]? = some u := fun j u hj => by
        have := x3 j u hj
        rw [Nat.zero_add, cell_of_heap h6] at this
        rw [Array.getElem?_toList]; exact this
      have hxl : row * kk + col + k ≤ xs.length := by omega
      have hcl' : row * kk + col + k ≤ c.toList.length := by simp; omega
      have hvl : (a.eval y).cells.toList.length = k := by simpa using hlen
      rw [List.append_assoc] at hj ⊢
      by_cases hj1 : j < row * kk + col
      · rw [List.getElem?_append_left (by simp; omega), List.getElem?_take, if_pos hj1] at hj ⊢
        · exact hcell j u hj
      · rw [List.getElem?_append_right (by simp; omega)] at hj ⊢
        have el : (xs.take (row * kk + col)).length = row * kk + col := by simp; omega
        have el' : (c.toList.take (row * kk + col)).length = row * kk + col := by rw [List.length_take]; omega
        rw [el] at hj; rw [el']
        by_cases hj2 : j - (row * kk + col) < k
        · rw [List.getElem?_append_left (by omega)] at hj ⊢; exact hj
        · rw [List.getElem?_append_right (by omega), hvl, List.getElem?_drop] at hj ⊢
          exact hcell _ u hj
end
section
variable {P : Program} {nt : Nat} {ops : Array Oper} {rest : List Oper} {t : List (Nat × AV)} {h : List (Nat × Option Blk)} {n : Nat} {K : List Rec → St → Prop}
variable {ty : TypeId} {pos : String} {af : Array Edge} {g : Option (Nat × Bool)}
theorem r_sto {T k' nb id kk row col : Nat} {gg : Bool} {e : TypeId} {rs : List (List FV)} {v : AV} {l r : List FV} {x y : Operand} (ht : tyB P T = some (gg, k', nb)) (hx : evF t x = some (.ptr id kk row col)) (hy : evF t y = some v)
    (hb : hget h id = some (.rows e kk rs)) (hl : fcells v = some l) (hr : rs[row]? = some r) (hk : Nat.beq l.length k' = true) (hf : Nat.ble (col + k') r.length = true) (hw : wantedS ops t g)
    (k : Reg P nt ops rest ⟨t, (id, some (.rows e kk (setRowF rs row col l))) :: h, n⟩ (fun tr s' => K (⟨(foot x (.ptr id kk row col) ++ foot y v).map (·.1), [id], [id], []⟩ :: tr) s')) :
    Reg P nt ops (⟨none, .store T x y, ty, pos, af, g⟩ :: rest) ⟨t, h, n⟩ K :=
  reg_of (ltr_sto ht (evAt_of hx) (evAt_of hy) hl hr (Nat.eq_of_beq_eq_true hk) (Nat.le_of_ble_eq_true hf)) hw (foot_ok2 hx hy) (mem1 hb) (by simp) (Nat.le_refl _) rfl k
end
end Go.Uw
