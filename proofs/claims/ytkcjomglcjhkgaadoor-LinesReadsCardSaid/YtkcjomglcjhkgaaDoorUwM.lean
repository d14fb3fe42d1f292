/- append as an operation, make, cuts, equality of structs, lending. Own work. -/
import Derived.Test.YtkcjomglcjhkgaaDoorUwL
set_option linter.unusedVariables false
set_option linter.unusedSimpArgs false
namespace Go.Uw
open Go

section
variable {P : Program} {dst : Option Tmp} {ty : TypeId} {pos : String} {af : Array Edge} {g : Option (Nat × Bool)}

theorem run_appendOp {T : Nat} {s x : Operand} {a : Act} {w : World} {u : Value} {w' : World} (hr : (Builtin.append_ #[T, T] ty #[a.eval s, a.eval x]).run P w = .ok u w') :
    (execOp a.eval ⟨dst, .call ⟨.builtin .append, ⟨[s, x]⟩, ⟨[T, T]⟩⟩, ty, pos, af, g⟩).run P w = .ok (.value u) w' := by
  simp [execOp, resolve, invoke, builtin, hr]

/-- append of frozen rows -/
theorem ltr_appr {T e k n id m : Nat} {gg : Bool} {zs : List Value} {s x : Operand} {rs news : List (List FV)} (hT : slB P T = some e) (he : tyB P e = some (gg, k, n)) (hk : 0 < k) (hz : zeroB P e = some zs)
    (hs : EvAt s (.rw id k 0 rs.length)) (hx : EvAt x (.fv (.ro k news))) (h63 : rs.length + news.length ≤ maxLen) (hb : (rs.length + news.length) * n ≤ 140737488355328) :
    LTr P ⟨dst, .call ⟨.builtin .append, ⟨[s, x]⟩, ⟨[T, T]⟩⟩, ty, pos, af, g⟩ (foot s (.rw id k 0 rs.length) ++ foot x (.fv (.ro k news))) [(id, .rows e k rs)] [m]
      (.rw m k 0 (rs.length + news.length)) [(m, some (.rows e k (rs ++ news))), (id, none)] :=
  LTr.of_run fun F ρ h a w hh hH hn hT' => by
    have h1 := eval_rep hs sub1 hT'
    have h2 := eval_rep hx sub2 hT'
    have hid : h id = some (.rows e k rs) := hH (id, .rows e k rs) (by simp)
    have hm := hn m (by simp)
    simp only [AV.rep, FV.rep] at h2
    obtain ⟨ad, len, cap, e1, e2, e3, e4, e5, e6⟩ := h2
    subst e2
    by_cases hne : news ≠ []
    · cases ad with
      | none => exact absurd (List.eq_nil_of_length_eq_zero (by have := e5 rfl; omega)) hne
      | some ad =>
      obtain ⟨g1', g2⟩ := e6 ad rfl
      have g1 := g1' hne
      obtain ⟨ys, y1, y2, y3⟩ := flat_of_repRows (ρ := ρ) g2
      rw [addr_eta g1] at e1
      obtain ⟨u, w', r1, r2⟩ := append_out hT he hk hz hh hid hm h1 (ad := ⟨ad.block, ad.off, none⟩) (c := cap) y1 (repRows_k g2) y2 (fun j v hj => by rw [add_none]; exact y3 j v hj) h63 hb ty
      rw [← e1] at r1
      exact ⟨u, w', .inl (run_appendOp r1), r2⟩
    · have hnn : news = [] := Classical.not_not.1 hne
      subst hnn
      obtain ⟨n0, hn0, hblk⟩ := hh.blk id _ hid
      obtain ⟨d, i, h3, h4, h5, h6, h7⟩ := tyB_spec he
      simp only [List.length_nil, Nat.add_zero, List.append_nil] at *
      refine ⟨a.eval s, w, .inl (run_appendOp ?_), Out.rename hh hid hn0 hm fun own' ρ' hE hnn => ?_⟩
      · rw [e1]
        simp only [AV.rep] at h1
        rcases h1 with ⟨_, _, g2, g3⟩ | ⟨b, cp, c, e', g1, g3, g4, _⟩
        · rw [g3]
          cases ad <;> simp [Builtin.append_, run_underlying (slB_spec hT), sizeOf, typeInfo, h4, Builtin.lenOf, Builtin.firstCells, loadCells, loadCellsFrom]
        · rw [g3]
          cases ad <;> simp [Builtin.append_, run_underlying (slB_spec hT), sizeOf, typeInfo, h4, Builtin.lenOf, Builtin.firstCells, g4, loadCells, loadCellsFrom, storeCells]
      · have h1' := AV.rep_ext hE _ _ h1
        simp only [AV.rep] at h1 ⊢
        rcases h1 with ⟨g1, g2, g3, g4⟩ | ⟨b, cp, c, e', g1, g3, g4, g5, g6, g7⟩
        · rw [hn0] at g1; cases g1; exact .inl ⟨hnn, trivial, g3, g4⟩
        · rw [hn0] at g1; cases g1
          obtain ⟨c', k1, k2⟩ := hE.row _ _ _ g6
          exact .inr ⟨b, cp, c', e', hnn, g3, g4, g5, k1, k2.trans g7⟩

/-- append of rows of the call's own (a slice written out) -/
theorem ltr_appw {T e k n id id2 m off : Nat} {gg : Bool} {zs : List Value} {s x : Operand} {rs rows2 news : List (List FV)} (hT : slB P T = some e) (he : tyB P e = some (gg, k, n)) (hk : 0 < k) (hz : zeroB P e = some zs)
    (hs : EvAt s (.rw id k 0 rs.length)) (hx : EvAt x (.rw id2 k off news.length)) (hnw : (rows2.drop off).take news.length = news) (h63 : rs.length + news.length ≤ maxLen) (hb : (rs.length + news.length) * n ≤ 140737488355328) :
    LTr P ⟨dst, .call ⟨.builtin .append, ⟨[s, x]⟩, ⟨[T, T]⟩⟩, ty, pos, af, g⟩ (foot s (.rw id k 0 rs.length) ++ foot x (.rw id2 k off news.length)) [(id, .rows e k rs), (id2, .rows e k rows2)] [m]
      (.rw m k 0 (rs.length + news.length)) [(m, some (.rows e k (rs ++ news))), (id, none)] :=
  LTr.of_run fun F ρ h a w hh hH hn hT' => by
    have h1 := eval_rep hs sub1 hT'
    have h2 := eval_rep hx sub2 hT'
    have hid : h id = some (.rows e k rs) := hH (id, .rows e k rs) (by simp)
    have hid2 : h id2 = some (.rows e k rows2) := hH (id2, .rows e k rows2) (by simp)
    have hm := hn m (by simp)
    simp only [AV.rep] at h2
    rcases h2 with ⟨g1, g2, g3, g4⟩ | ⟨b, cap, c, e', g1, g3, g4, g5, g6, g7⟩
    · -- nothing there
      have hnn : news = [] := List.eq_nil_of_length_eq_zero g3
      subst hnn
      obtain ⟨n0, hn0, hblk⟩ := hh.blk id _ hid
      obtain ⟨d, i, h3, h4, h5, h6, h7⟩ := tyB_spec he
      simp only [List.length_nil, Nat.add_zero, List.append_nil] at *
      refine ⟨a.eval s, w, .inl (run_appendOp ?_), Out.rename hh hid hn0 hm fun own' ρ' hE hnn => ?_⟩
      · rw [g4]
        simp only [AV.rep] at h1
        rcases h1 with ⟨_, _, k2, k3⟩ | ⟨b, cp, c, e', k1, k3, k4, _⟩
        · rw [k3]
          simp [Builtin.append_, run_underlying (slB_spec hT), sizeOf, typeInfo, h4, Builtin.lenOf, Builtin.firstCells, loadCells, loadCellsFrom]
        · rw [k3]
          simp [Builtin.append_, run_underlying (slB_spec hT), sizeOf, typeInfo, h4, Builtin.lenOf, Builtin.firstCells, k4, storeCells]
      · simp only [AV.rep] at h1 ⊢
        rcases h1 with ⟨k1, k2, k3, k4⟩ | ⟨b, cp, c, e', k1, k3, k4, k5, k6, k7⟩
        · rw [hn0] at k1; cases k1; exact .inl ⟨hnn, trivial, k3, k4⟩
        · rw [hn0] at k1; cases k1
          obtain ⟨c', j1, j2⟩ := hE.row _ _ _ k6
          exact .inr ⟨b, cp, c', e', hnn, k3, k4, k5, j1, j2.trans k7⟩
    · obtain ⟨n2, hn2, hblk⟩ := hh.blk id2 _ hid2
      rw [g1] at hn2; cases hn2
      simp only [Blk.rep] at hblk
      obtain ⟨cur, k1, k2, k3⟩ := hblk
      have hrk := ownRows_k k3
      obtain ⟨xs, x1, x2, x3⟩ := flat_of_ownRows (ρ := ρ) k3
      -- the piece
      have hdl : ∀ (l : List (List FV)) (off : Nat), (∀ r ∈ l, r.length = k) → ∀ (vs : List Value), repL w (sh F (own ρ h)) ρ (fvs l.flatten) vs → repL w (sh F (own ρ h)) ρ (fvs (l.drop off).flatten) (vs.drop (off * k)) := by
        intro l off
        induction off generalizing l with
        | zero => intro _ vs hv; simpa using hv
        | succ off ih =>
          intro hlk vs hv
          cases l with
          | nil => simp only [List.flatten_nil, fvs, List.map_nil, repL] at hv; subst hv; simp [fvs, repL]
          | cons r l =>
            rw [List.flatten_cons, fvs_append] at hv
            obtain ⟨p, q, rfl, v1, v2⟩ := repL_split hv
            have hp : p.length = k := by rw [repL_length v1]; simp [fvs, hlk r (by simp)]
            have := ih l (fun r' hr' => hlk r' (by simp [hr'])) q v2
            have e2 : (p ++ q).drop ((off + 1) * k) = q.drop (off * k) := by
              rw [List.drop_append, List.drop_eq_nil_of_le (by rw [hp, Nat.add_mul]; omega), List.nil_append, hp]
              congr 1; rw [Nat.add_mul]; omega
            rw [e2]; exact this
      have htl : ∀ (l : List (List FV)) (n : Nat), (∀ r ∈ l, r.length = k) → ∀ (vs : List Value), repL w (sh F (own ρ h)) ρ (fvs l.flatten) vs → repL w (sh F (own ρ h)) ρ (fvs (l.take n).flatten) (vs.take (n * k)) := by
        intro l n
        induction n generalizing l with
        | zero => intro _ vs hv; simp [fvs, repL]
        | succ n ih =>
          intro hlk vs hv
          cases l with
          | nil => simp only [List.flatten_nil, fvs, List.map_nil, repL] at hv; subst hv; simp [fvs, repL]
          | cons r l =>
            rw [List.flatten_cons, fvs_append] at hv
            obtain ⟨p, q, rfl, v1, v2⟩ := repL_split hv
            have hp : p.length = k := by rw [repL_length v1]; simp [fvs, hlk r (by simp)]
            have := ih l (fun r' hr' => hlk r' (by simp [hr'])) q v2
            have e2 : (p ++ q).take ((n + 1) * k) = p ++ q.take (n * k) := by
              rw [List.take_append, List.take_of_length_le (by rw [hp, Nat.add_mul]; omega), hp]
              congr 2; rw [Nat.add_mul]; omega
            rw [e2, List.take_succ_cons, List.flatten_cons, fvs_append]
            exact repL_append v1 this
      have hd1 := hdl rows2 off hrk xs x1
      have hd2 := htl (rows2.drop off) news.length (fun r hr => hrk r (List.mem_of_mem_drop hr)) _ hd1
      rw [hnw] at hd2
      have hkn : ∀ r ∈ news, r.length = k := fun r hr => by
        rw [← hnw] at hr
        exact hrk r (List.mem_of_mem_drop (List.mem_of_mem_take hr))
      have hnl : news.length ≤ rows2.length - off := by
        have := congrArg List.length hnw
        simp at this; omega
      have hyl : ((xs.drop (off * k)).take (news.length * k)).length = news.length * k := by
        simp only [List.length_take, List.length_drop, x2]
        have : news.length * k ≤ (rows2.length - off) * k := Nat.mul_le_mul_right _ hnl
        rw [Nat.sub_mul] at this
        omega
      obtain ⟨u, w', r1, r2⟩ := append_out hT he hk hz hh hid hm h1 (ad := ⟨b, off * k, none⟩) (c := cap) hd2 hkn hyl (fun j v hj => by
        rw [add_none]
        rw [List.getElem?_take] at hj
        split at hj
        · rw [List.getElem?_drop] at hj
          have := x3 _ v hj
          rwa [Nat.zero_add] at this
        · cases hj) h63 hb ty
      rw [← g3] at r1
      exact ⟨u, w', .inl (run_appendOp r1), r2⟩

/-! ### make -/
def zeroF (zs : List Value) : List FV := zs.map .lit

end
end Go.Uw
