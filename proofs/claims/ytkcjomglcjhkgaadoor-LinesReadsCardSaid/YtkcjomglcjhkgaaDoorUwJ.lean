/- More operations of the abstract machine. Own work. -/
import Derived.Test.YtkcjomglcjhkgaaDoorUwI
set_option linter.unusedVariables false
set_option linter.unusedSimpArgs false
namespace Go.Uw
open Go

section
variable {P : Program} {dst : Option Tmp} {ty : TypeId} {pos : String} {af : Array Edge} {g : Option (Nat × Bool)}

theorem litOK_nat {n : Nat} (h : n ≤ maxLen) : litOK (.int .i64 n) := by
  simp only [maxLen] at h
  constructor
  · simp only [IntKind.min, IntKind.bits, IntKind.signed, if_true]; omega
  · simp only [IntKind.max, IntKind.bits, IntKind.signed, if_true]; omega

/-! ### indexing -/
theorem run_indexAt_slice {T e k n len cap b o : Nat} {gg : Bool} {w : World} (hT : slB P T = some e) (he : tyB P e = some (gg, k, n)) {kk : IntKind} {i : Int} (h0 : 0 ≤ i) (h1 : i < len) :
    (Instr.indexAt T (.slice (some ⟨b, o, none⟩) len cap) (.int kk i)).run P w = .ok (.pointer (some ⟨b, o + i.toNat * k, none⟩)) w := by
  obtain ⟨d, inf, h2, h3, h4, h5, h6⟩ := tyB_spec he
  simp [Instr.indexAt, asIntOf, run_underlying (slB_spec hT), h0, h1, sizeOf, typeInfo, h3, h5, add_none]

theorem ltr_ixr {T e k n : Nat} {gg : Bool} {x y : Operand} {rows : List (List FV)} {kk : IntKind} {i : Int} {r : List FV} (hT : slB P T = some e) (he : tyB P e = some (gg, k, n))
    (hx : EvAt x (.fv (.ro k rows))) (hy : EvAt y (iv kk i)) (h0 : 0 ≤ i) (hr : rows[i.toNat]? = some r) :
    LTr P ⟨dst, .indexAddr T x y, ty, pos, af, g⟩ (foot x (.fv (.ro k rows)) ++ foot y (iv kk i)) [] [] (.rptr r) [] :=
  LTr.pure fun F ρ h a w _ _ hT' => by
    have h1 := eval_rep hx sub1 hT'
    have h2 := (rep_lit (eval_rep hy sub2 hT')).1
    simp only [AV.rep, FV.rep] at h1
    obtain ⟨ad, len, cap, h3, h4, h5, h6, h7, h8⟩ := h1
    have hlt : i.toNat < rows.length := (List.getElem?_eq_some_iff.1 hr).1
    cases ad with
    | none => have := h7 rfl; omega
    | some ad =>
      obtain ⟨h9', h10⟩ := h8 ad rfl
      have h9 := h9' (by rintro rfl; simp at hlt)
      have h11 := (repRows_at h10 hr).2
      rw [addr_eta h9] at h3
      refine ⟨.pointer (some ⟨ad.block, ad.off + i.toNat * k, none⟩), ?_, by simp only [AV.rep]; exact ⟨_, rfl, rfl, h11⟩⟩
      simp only [execOp, h2, h3, Sem.run_bind, run_indexAt_slice hT he h0 (show i < len by omega), Result.andThen_ok, Sem.run_pure]

theorem ltr_ixw {T e k n id off len : Nat} {gg : Bool} {x y : Operand} {kk : IntKind} {i : Int} (hT : slB P T = some e) (he : tyB P e = some (gg, k, n))
    (hx : EvAt x (.rw id k off len)) (hy : EvAt y (iv kk i)) (h0 : 0 ≤ i) (h1 : i < len) :
    LTr P ⟨dst, .indexAddr T x y, ty, pos, af, g⟩ (foot x (.rw id k off len) ++ foot y (iv kk i)) [] [] (.ptr id k (off + i.toNat) 0) [] :=
  LTr.pure fun F ρ h a w _ _ hT' => by
    have h2 := eval_rep hx sub1 hT'
    have h3 := (rep_lit (eval_rep hy sub2 hT')).1
    simp only [AV.rep] at h2
    rcases h2 with ⟨_, _, h4, _⟩ | ⟨b, cap, c, e', h4, h5, h6, h7, h8, h9⟩
    · omega
    · refine ⟨.pointer (some ⟨b, (off + i.toNat) * k + 0, none⟩), ?_, by simp only [AV.rep]; exact ⟨b, h4, rfl⟩⟩
      simp only [execOp, h5, h3, Sem.run_bind, run_indexAt_slice hT he h0 h1, Result.andThen_ok, Sem.run_pure, Nat.add_mul, Nat.add_zero]

/-! ### lengths -/
theorem run_len {T e : Nat} {tt : TypeId} {a : Option Addr} {len cap : Nat} {w : World} (hT : slB P T = some e) : (Builtin.len_ #[T] tt #[.slice a len cap]).run P w = .ok (.int .i64 len) w := by
  simp [Builtin.len_, run_underlying (slB_spec hT), goInt]

theorem ltr_lenr {T e k : Nat} {x : Operand} {rows : List (List FV)} (hT : slB P T = some e) (hx : EvAt x (.fv (.ro k rows))) :
    LTr P ⟨dst, .call ⟨.builtin .len, ⟨[x]⟩, ⟨[T]⟩⟩, ty, pos, af, g⟩ (foot x (.fv (.ro k rows))) [] [] (iA rows.length) [] :=
  LTr.pure fun F ρ h a w _ _ hT' => by
    have h1 := eval_rep hx (List.Subset.refl _) hT'
    simp only [AV.rep, FV.rep] at h1
    obtain ⟨ad, len, cap, h3, h4, h5, h6, h7, h8⟩ := h1
    subst h4
    refine ⟨.int .i64 rows.length, ?_, rep_lit_mk (litOK_nat (Nat.le_trans h5 h6))⟩
    have := run_len (P := P) (T := T) (e := e) (tt := ty) (a := ad) (len := rows.length) (cap := cap) (w := w) hT
    simp [execOp, resolve, invoke, builtin, h3, this]

theorem ltr_lenw {T e id k off len : Nat} {x : Operand} (hT : slB P T = some e) (hx : EvAt x (.rw id k off len)) :
    LTr P ⟨dst, .call ⟨.builtin .len, ⟨[x]⟩, ⟨[T]⟩⟩, ty, pos, af, g⟩ (foot x (.rw id k off len)) [] [] (iA len) [] :=
  LTr.pure fun F ρ h a w _ _ hT' => by
    have h1 := eval_rep hx (List.Subset.refl _) hT'
    simp only [AV.rep] at h1
    have hl : len ≤ maxLen := by
      rcases h1 with ⟨_, _, h4, _⟩ | ⟨b, cap, c, e', h4, h5, h6, h7, h8, h9⟩
      · subst h4; exact Nat.zero_le _
      · omega
    refine ⟨.int .i64 len, ?_, rep_lit_mk (litOK_nat hl)⟩
    rcases h1 with ⟨_, _, h4, h5⟩ | ⟨b, cap, c, e', h4, h5, h6, h7, h8, h9⟩
    · subst h4
      have := run_len (P := P) (T := T) (e := e) (tt := ty) (a := none) (len := 0) (cap := 0) (w := w) hT
      simp [execOp, resolve, invoke, builtin, h5, this]
    · have := run_len (P := P) (T := T) (e := e) (tt := ty) (a := some ⟨b, off * k, none⟩) (len := len) (cap := cap) (w := w) hT
      simp [execOp, resolve, invoke, builtin, h5, this]

theorem ltr_len0 {T e : Nat} {x : Operand} (hT : slB P T = some e) (hx : EvAt x (lit (.slice none 0 0))) :
    LTr P ⟨dst, .call ⟨.builtin .len, ⟨[x]⟩, ⟨[T]⟩⟩, ty, pos, af, g⟩ (foot x (lit (.slice none 0 0))) [] [] (iA 0) [] :=
  LTr.pure fun F ρ h a w _ _ hT' => by
    have h1 := (rep_lit (eval_rep hx (List.Subset.refl _) hT')).1
    have := run_len (P := P) (T := T) (e := e) (tt := ty) (a := none) (len := 0) (cap := 0) (w := w) hT
    exact ⟨.int .i64 0, by simp [execOp, resolve, invoke, builtin, h1, this], rep_lit_mk (litOK_of_b (by decide))⟩

/-! ### composite values -/
/-- the places of a struct's fields: offset and cells -/
def placesB (P : Program) (T : Nat) : Option (List (Nat × Nat)) :=
  match P.underlying T with
  | some (.struct fs) => fs.toList.mapM fun f => (P.info? f.type).map fun i => (f.offset, i.size)
  | _ => none

/-- the parts laid over the zero cells -/
def fillA (places : List (Nat × Nat)) : List AV → List (Nat × AV) → Option (List AV)
  | cs, [] => some cs
  | cs, (j, v) :: rest =>
    match places[j]? with
    | none => none
    | some (off, n) => if cellish v = true ∧ (cellsOfA v).length = n ∧ off + n ≤ cs.length then fillA places (setAt cs off (cellsOfA v)) rest else none

theorem take_set_succ {α : Type} (l : List α) (n : Nat) (v : α) (h : n < l.length) : (l.set n v).take (n + 1) = l.take n ++ [v] := by
  apply List.ext_getElem?
  intro j
  rw [List.getElem?_take, List.getElem?_append]
  by_cases h1 : j < n
  · rw [if_pos (by omega), List.getElem?_set_ne (by omega), if_pos (by simp; omega), List.getElem?_take, if_pos h1]
  · by_cases h2 : j = n
    · subst h2
      rw [if_pos (by omega), List.getElem?_set_self h, if_neg (by simp; omega)]
      simp [Nat.min_eq_left (Nat.le_of_lt h)]
    · rw [if_neg (by omega), if_neg (by simp; omega)]
      rw [List.getElem?_eq_none (by simp; omega)]

theorem foldl_set : ∀ (vs : List Value) (off : Nat) (cs : Array Value) (k : Nat), off + k + vs.length ≤ cs.size →
    (vs.zipIdx k).foldl (fun cs (p : Value × Nat) => cs.setIfInBounds (off + p.2) p.1) cs = (cs.toList.take (off + k) ++ vs ++ cs.toList.drop (off + k + vs.length)).toArray
  | [], off, cs, k, h => by simp
  | v :: vs, off, cs, k, h => by
    simp only [List.zipIdx_cons, List.foldl_cons]
    rw [foldl_set vs off _ (k + 1) (by simp at h ⊢; omega)]
    have hlt : off + k < cs.size := by simp at h; omega
    have e1 : (cs.toList.set (off + k) v).take (off + (k + 1)) = cs.toList.take (off + k) ++ [v] := take_set_succ _ _ _ (by simpa using hlt)
    have e2 : (cs.toList.set (off + k) v).drop (off + (k + 1) + vs.length) = cs.toList.drop (off + k + (v :: vs).length) := by
      rw [List.drop_set_of_lt (by omega)]; congr 1; simp; omega
    simp only [Array.toList_setIfInBounds, e1, e2]
    simp

theorem fillA_run {places : List (Nat × Nat)} {w : World} {own : Nat → Prop} {ρ : Names} : ∀ {parts : List (Nat × AV)} {vparts : List (Nat × Value)} {cs out : List AV} {vcs : List Value},
    fillA places cs parts = some out → repL w own ρ cs vcs → (∀ u ∈ vcs, u.oneCell' = true) →
    (vparts.map (·.1) = parts.map (·.1) ∧ repL w own ρ (parts.map (·.2)) (vparts.map (·.2))) →
    ∃ vout : List Value, Instr.fill (fun x => places[x]?) vcs.toArray vparts = some vout.toArray ∧ repL w own ρ out vout ∧ ∀ u ∈ vout, u.oneCell' = true
  | [], vparts, cs, out, vcs, h, hc, h1, hp => by
    have : vparts = [] := by simpa using hp.1
    subst this
    simp only [fillA] at h
    cases h
    exact ⟨vcs, by simp [Instr.fill], hc, h1⟩
  | (j, v) :: rest, vparts, cs, out, vcs, h, hc, h1, hp => by
    cases vparts with
    | nil => simp at hp
    | cons q qs =>
      obtain ⟨j', u⟩ := q
      simp only [List.map_cons, List.cons.injEq] at hp
      obtain ⟨⟨rfl, hp1⟩, hp2⟩ := hp
      simp only [repL] at hp2
      obtain ⟨u', us, he, hu, hus⟩ := hp2
      cases he
      simp only [fillA] at h
      cases hpl : places[j']? with
      | none => simp [hpl] at h
      | some p =>
        obtain ⟨off, n⟩ := p
        simp only [hpl] at h
        split at h
        · rename_i hcond
          obtain ⟨c1, c2, c3⟩ := hcond
          obtain ⟨r1, r2⟩ := cellsOfA_rep c1 hu
          have hlen : u.cells.size = n := by have := repL_length r1; simp at this; omega
          have hvl : vcs.length = cs.length := repL_length hc
          have hnew := repL_append (repL_append (repL_take off hc) r1) (repL_drop (off + n) hc)
          have hseq : setAt cs off (cellsOfA v) = cs.take off ++ cellsOfA v ++ cs.drop (off + n) := by rw [setAt_eq _ _ _ (by omega), c2]
          rw [← hseq] at hnew
          obtain ⟨vout, f1, f2, f3⟩ := fillA_run h hnew (fun x hx => by
            simp only [List.mem_append] at hx
            rcases hx with (hx | hx) | hx
            · exact h1 x (List.mem_of_mem_take hx)
            · exact r2 x hx
            · exact h1 x (List.mem_of_mem_drop hx)) ⟨hp1, hus⟩
          refine ⟨vout, ?_, f2, f3⟩
          simp only [Instr.fill, hpl]
          rw [if_neg (by simp [hlen, hvl]; omega)]
          have hfold := foldl_set u.cells.toList off vcs.toArray 0 (by simp [hlen]; omega)
          simp only [Nat.add_zero, Array.length_toList, hlen] at hfold
          rw [← f1]
          congr 1
          rw [← hfold, ← Array.foldl_toList]
          simp [Array.toList_zipIdx]
        · simp at h

def evParts (t : List (Nat × AV)) : List (Nat × Operand) → Option (List (Nat × AV))
  | [] => some []
  | (j, x) :: l => match evF t x, evParts t l with
    | some v, some vs => some ((j, v) :: vs)
    | _, _ => none

def footP : List (Nat × Operand) → List (Nat × AV) → List (Nat × AV)
  | (_, x) :: l, (_, v) :: vs => foot x v ++ footP l vs
  | _, _ => []

def EvP : List (Nat × Operand) → List (Nat × AV) → Prop
  | [], [] => True
  | (j, x) :: l, (j', v) :: vs => j = j' ∧ EvAt x v ∧ EvP l vs
  | _, _ => False

theorem evP_of {t : List (Nat × AV)} : ∀ {l : List (Nat × Operand)} {vs : List (Nat × AV)}, evParts t l = some vs → EvP l vs ∧ ∀ p ∈ footP l vs, tget t p.1 = some p.2
  | [], vs, h => by simp [evParts] at h; subst h; simp [EvP, footP]
  | (j, x) :: l, vs, h => by
    simp only [evParts] at h
    split at h
    · rename_i v us h1 h2
      simp at h; subst h
      obtain ⟨h3, h4⟩ := evP_of h2
      refine ⟨⟨rfl, evAt_of h1, h3⟩, fun p hp => ?_⟩
      simp only [footP, List.mem_append] at hp
      rcases hp with hp | hp
      · cases x <;> simp [foot] at hp
        subst hp
        exact h1
      · exact h4 p hp
    · simp at h

theorem evP_rep {T : List (Nat × AV)} {a : Act} {w : World} {own : Nat → Prop} {ρ : Names} (hT : TR T a w own ρ) : ∀ {l : List (Nat × Operand)} {vs : List (Nat × AV)}, EvP l vs → footP l vs ⊆ T →
    (l.map fun p => (p.1, a.eval p.2)).map (·.1) = vs.map (·.1) ∧ repL w own ρ (vs.map (·.2)) ((l.map fun p => (p.1, a.eval p.2)).map (·.2))
  | [], [], _, _ => by simp [repL]
  | (j, x) :: l, (j', v) :: vs, h, hs => by
    obtain ⟨rfl, h1, h2⟩ := h
    have h3 := evP_rep hT h2 (fun p hp => hs (by simp [footP, hp]))
    refine ⟨by simp [h3.1], ?_⟩
    simp only [List.map_cons, repL]
    exact ⟨_, _, rfl, eval_rep h1 (fun p hp => hs (by simp [footP, hp])) hT, h3.2⟩
  | [], _ :: _, h, _ => h.elim
  | _ :: _, [], h, _ => h.elim

theorem ltr_build {T : Nat} {parts : List (Nat × Operand)} {vs : List (Nat × AV)} {places : List (Nat × Nat)} {zs : List Value} {out : List AV} (hp : placesB P T = some places) (hz : zeroB P T = some zs)
    (hx : EvP parts vs) (ho : fillA places (zeroA zs) vs = some out) : LTr P ⟨dst, .build T ⟨parts⟩, ty, pos, af, g⟩ (footP parts vs) [] [] (.agg out) [] :=
  LTr.pure fun F ρ h a w _ _ hT' => by
    obtain ⟨i, z, h1, h2, h3, h4, h5⟩ := zeroB_spec hz
    obtain ⟨vout, f1, f2, f3⟩ := fillA_run (w := w) (own := sh F (own ρ h)) (ρ := ρ) ho (zeroA_rep h5) (fun v hv => oneCell_of_lit (h5 v hv)) (evP_rep hT' hx (List.Subset.refl _))
    refine ⟨.agg vout.toArray, ?_, by simp only [AV.rep]; exact ⟨vout, rfl, f2, f3⟩⟩
    have hb : P.built T (parts.map fun p => (p.1, a.eval p.2)) = some vout.toArray := by
      unfold placesB at hp
      split at hp
      · rename_i fs hu
        unfold Program.built
        simp only [h1, hu, h2, hp, h3]
        simpa using f1
      · simp at hp
    have hrun := run_build (P := P) w T ⟨parts.map fun p => (p.1, a.eval p.2)⟩ _ hb
    simp only [execOp, Sem.run_bind]
    rw [show Array.map (fun x => (x.1, a.eval x.2)) { toList := parts } = ⟨parts.map fun p => (p.1, a.eval p.2)⟩ by simp]
    rw [hrun]
    rfl

theorem part_run {T k n : Nat} {gg : Bool} (ht : tyB P T = some (gg, k, n)) {cs : Array Value} {off : Nat} {w : World} (hfit : off + k ≤ cs.size) (hg1 : gg = false → k = 1) :
    (part T cs off).run P w = .ok (if gg then .agg (cs.extract off (off + k)) else cs.getD off default) w := by
  obtain ⟨d, i, h1, h2, h3, h4, h5⟩ := tyB_spec ht
  cases gg with
  | true => simp [part, run_isAgg h1, h3, sizeOf, typeInfo, h2, h4]
  | false =>
    have hk := hg1 rfl
    have hlt : off < cs.size := by omega
    simp [part, run_isAgg h1, h3, hlt]

/-! ### other -/
theorem ltr_nilck {x : Operand} {id k row col : Nat} (hx : EvAt x (.ptr id k row col)) : LTr P ⟨dst, .nilCheck x, ty, pos, af, g⟩ (foot x (.ptr id k row col)) [] [] (.ptr id k row col) [] :=
  LTr.pure fun F ρ h a w _ _ hT' => by
    have h1 := eval_rep hx (List.Subset.refl _) hT'
    have h1' := h1
    simp only [AV.rep] at h1
    obtain ⟨b, h2, h3⟩ := h1
    exact ⟨a.eval x, by simp only [execOp, h3, Sem.run_pure], h1'⟩

theorem ltr_nilckr {x : Operand} {cells : List FV} (hx : EvAt x (.rptr cells)) : LTr P ⟨dst, .nilCheck x, ty, pos, af, g⟩ (foot x (.rptr cells)) [] [] (.rptr cells) [] :=
  LTr.pure fun F ρ h a w _ _ hT' => by
    have h1 := eval_rep hx (List.Subset.refl _) hT'
    have h1' := h1
    simp only [AV.rep] at h1
    obtain ⟨b, h2, h3⟩ := h1
    exact ⟨a.eval x, by simp only [execOp, h2, Sem.run_pure], h1'⟩

theorem ltr_nilckf {x : Operand} {f : FuncId} {caps : List AV} (hx : EvAt x (.fn f caps)) : LTr P ⟨dst, .nilCheck x, ty, pos, af, g⟩ (foot x (.fn f caps)) [] [] (.fn f caps) [] :=
  LTr.pure fun F ρ h a w _ _ hT' => by
    have h1 := eval_rep hx (List.Subset.refl _) hT'
    have h1' := h1
    simp only [AV.rep] at h1
    obtain ⟨b, h2, h3⟩ := h1
    exact ⟨a.eval x, by simp only [execOp, h2, Sem.run_pure], h1'⟩

def intB (P : Program) (T : Nat) : Option IntKind := match P.underlying T with | some (.int k) => some k | _ => none
theorem intB_spec {T : Nat} {k : IntKind} (h : intB P T = some k) : P.underlying T = some (.int k) := by
  unfold intB at h; split at h <;> simp_all

theorem ltr_conv {S T : Nat} {x : Operand} {k k' ks : IntKind} {n : Int} (hS : intB P S = some ks) (hT : intB P T = some k') (hx : EvAt x (iv k n)) :
    LTr P ⟨dst, .convert S T x, ty, pos, af, g⟩ (foot x (iv k n)) [] [] (iv k' (k'.wrap n)) [] :=
  LTr.pure fun F ρ h a w _ _ hT' => by
    have h1 := (rep_lit (eval_rep hx (List.Subset.refl _) hT')).1
    exact ⟨.int k' (k'.wrap n), by simp [execOp, convert, run_underlying (intB_spec hS), run_underlying (intB_spec hT), h1, Conv.intToInt], rep_lit_mk (wrap_ok k' n)⟩

theorem ltr_convi {S T : Nat} {x : Operand} {k k' ks : IntKind} {n : Int} (hS : intB P S = some ks) (hT : intB P T = some k') (hx : EvAt x (iv k n)) (hr : k'.min ≤ n ∧ n ≤ k'.max) :
    LTr P ⟨dst, .convert S T x, ty, pos, af, g⟩ (foot x (iv k n)) [] [] (iv k' n) [] := by
  have := ltr_conv (dst := dst) (ty := ty) (pos := pos) (af := af) (g := g) hS hT hx
  rwa [wrap_in k' n hr] at this

theorem ltr_mkfn {f : FuncId} {caps : List Operand} {vs : List AV} (hx : EvLAt caps vs) : LTr P ⟨dst, .makeFunc (.func f) ⟨[]⟩ ⟨caps⟩, ty, pos, af, g⟩ (footL caps vs) [] [] (.fn f vs) [] :=
  LTr.pure fun F ρ h a w _ _ hT' => by
    have h1 := evalL_rep hT' hx (List.Subset.refl _)
    exact ⟨.func (.func f) #[] (caps.map a.eval).toArray, by simp [execOp, Instr.makeFunc], by simp only [AV.rep]; exact ⟨_, rfl, h1⟩⟩

end
end Go.Uw
