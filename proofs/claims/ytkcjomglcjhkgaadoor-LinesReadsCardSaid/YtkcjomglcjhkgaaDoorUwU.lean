/- append onto nil. Own work. -/
import Derived.Test.YtkcjomglcjhkgaaDoorUwT
import Derived.Lib.Builder
import Derived.Lib.UnsafeStr
import Derived.Laws.Externs
import Derived.Deep.Draws
import Derived.Sort.Grow
set_option linter.unusedVariables false
set_option linter.unusedSimpArgs false
namespace Go.Uw
open Go

theorem bytesF_len (a : List UInt8) : (bytesF a).length = a.length := by simp [bytesF]

/-- nothing, under a new name -/
theorem Out.virt {F : Nat → Prop} {w : World} {ρ : Names} {h : Nat → Option Blk} (hh : HR F w ρ h) {n e k : Nat} (hn : ρ n = none) :
    Out F w ρ h [n] (.rw n k 0 0) [(n, some (.rows e k []))] w (.slice none 0 0) := by
  have hsub : ∀ b, own (rput ρ n 0) (happ [(n, some (.rows e k []))] h) b → own ρ h b := by
    rintro b ⟨i, h1, h2⟩
    by_cases hi : n = i
    · subst hi; rw [rput_same] at h2; cases h2
    · rw [happ1_other hi] at h1; rw [rput_other hi] at h2; exact ⟨i, h1, h2⟩
  have hE : Ext w (own ρ h) ρ w (own (rput ρ n 0) (happ [(n, some (.rows e k []))] h)) (rput ρ n 0) := by
    refine ⟨rfl, rfl, rfl, Nat.le_refl _, fun b _ hb => ⟨rfl, fun h' => hb (hsub b h')⟩, fun b c e hc => ⟨c, hc, rfl⟩, fun i b hi => ?_⟩
    rw [rput_other]; exact hi
    rintro rfl; rw [hn] at hi; cases hi
  refine ⟨rput ρ n 0, ⟨fun i x hx => ?_, fun b hb => ⟨(hh.far b hb).1, fun ho => (hh.far b hb).2 (hsub b ho)⟩, fun i i' b h1 h2 h3 h4 => ?_, hh.gl.ext hE.sh⟩, by simp [AV.rep, rput_same], hE, fun i hi => rput_other (by simpa using Ne.symm (by simpa using hi)), fun i b h1 h2 => .inl (hsub b ⟨i, h1, h2⟩)⟩
  · by_cases hi : n = i
    · subst hi
      rw [happ1_same] at hx; cases hx
      exact ⟨0, rput_same, e, k, rfl⟩
    · rw [happ1_other hi] at hx
      obtain ⟨m, h1, h2⟩ := hh.blk i x hx
      refine ⟨m, by rw [rput_other hi]; exact h1, ?_⟩
      cases m with
      | zero => exact h2
      | succ b => exact Blk.rep_ext hE.sh rfl x h2
  · by_cases hi : n = i
    · subst hi; rw [rput_same] at h3; cases h3
    · by_cases hi' : n = i'
      · subst hi'; rw [rput_same] at h4; cases h4
      · rw [happ1_other hi] at h1; rw [happ1_other hi'] at h2; rw [rput_other hi] at h3; rw [rput_other hi'] at h4
        exact hh.inj i i' b h1 h2 h3 h4

section
variable {P : Program} {dst : Option Tmp} {ty : TypeId} {pos : String} {af : Array Edge} {g : Option (Nat × Bool)}

end

section
variable {P : Program} {nt : Nat} {ops : Array Oper} {rest : List Oper} {t : List (Nat × AV)} {h : List (Nat × Option Blk)} {n : Nat} {K : List Rec → St → Prop}
variable {d : Tmp} {ty : TypeId} {pos : String} {af : Array Edge} {g : Option (Nat × Bool)}
end
end Go.Uw
namespace Go.Uw
theorem awp_loopQ {P : Program} {E : Env} {K : Exit → St → Prop} {s : St} {X : Type} (Q : X → Prop) (Inv : X → St) (μ : X → Nat) {c : Code} (x0 : X) (hq : Q x0) (h0 : Le E s (Inv x0))
    (hr : ∀ x, Q x → AWP P E c (thenK (fun s' => ∃ x', Q x' ∧ Le E s' (Inv x') ∧ μ x' < μ x) K) (Inv x)) : AWP P E (.loop c) K s :=
  awp_loop (X := {x : X // Q x}) (fun x => Inv x.1) (fun x => μ x.1) ⟨x0, hq⟩ h0 fun x => awp_mono (hr x.1 x.2) fun e s' h => by
    cases e with
    | normal => obtain ⟨x', h1, h2, h3⟩ := h; exact ⟨⟨x', h1⟩, h2, h3⟩
    | _ => exact h
end Go.Uw
namespace Go.Uw
open Go

theorem lits_eq {w : World} {own : Nat → Prop} {ρ : Names} : ∀ {l : List FV} {xs ys : List Value}, (∀ f ∈ l, ∃ u, f = .lit u) → repL w own ρ (fvs l) xs → repL w own ρ (fvs l) ys → xs = ys
  | [], xs, ys, _, h1, h2 => by simp only [fvs, List.map_nil, repL] at h1 h2; rw [h1, h2]
  | f :: l, xs, ys, hf, h1, h2 => by
    simp only [fvs, List.map_cons, repL] at h1 h2
    obtain ⟨u, us, rfl, a1, a2⟩ := h1
    obtain ⟨u', us', rfl, b1, b2⟩ := h2
    obtain ⟨z, rfl⟩ := hf f (by simp)
    rw [(rep_lit a1).1, (rep_lit b1).1, lits_eq (fun f hf' => hf f (by simp [hf'])) a2 b2]

section
variable {P : Program} {dst : Option Tmp} {ty : TypeId} {pos : String} {af : Array Edge} {g : Option (Nat × Bool)}

theorem run_guard_ptr {op : BinOp} {T : TypeId} {x y : Operand} {a b : Option Addr} {w : World} {α : Type} (f : Unit → Sem α) : (eqGuard op T x y (.pointer a) (.pointer b) >>= f).run P w = (f ()).run P w := by
  unfold eqGuard
  cases op <;> rfl

theorem run_eql_nil {T e : TypeId} {w : World} (hT : P.underlying T = some (.pointer e)) : (binOp .eql T (.pointer none) (.pointer none)).run P w = .ok (.bool true) w := by
  have h : ∀ d : Nat, (Op.equalIn (d + 1) T (.pointer none) (.pointer none)).run P w = .ok true w := fun d => by
    simp [Op.equalIn, run_underlying hT]
  simp only [binOp]
  simp [Op.equal, Op.maxDepth, h 9999]

theorem run_eql_some {T e : TypeId} {w : World} {a : Addr} (hT : P.underlying T = some (.pointer e)) : (binOp .eql T (.pointer (some a)) (.pointer none)).run P w = .ok (.bool false) w := by
  have h : ∀ d : Nat, (Op.equalIn (d + 1) T (.pointer (some a)) (.pointer none)).run P w = .ok false w := fun d => by
    simp [Op.equalIn, run_underlying hT]
  simp only [binOp]
  simp [Op.equal, Op.maxDepth, h 9999]

theorem ltr_pnil {T e : TypeId} {x y : Operand} {yt : TypeId} (hT : P.underlying T = some (.pointer e)) (hx : EvAt x (lit (.pointer none))) (hy : EvAt y (lit (.pointer none))) :
    LTr P ⟨dst, .binOp .eql T x y yt, ty, pos, af, g⟩ (foot x (lit (.pointer none)) ++ foot y (lit (.pointer none))) [] [] (bA true) [] :=
  ltr_bin hx hy fun _ _ => ⟨rfl, fun w => by rw [run_guard_ptr]; exact run_eql_nil hT⟩

theorem ltr_psome {T e id k row col : Nat} {x y : Operand} {yt : TypeId} (hT : P.underlying T = some (.pointer e)) (hx : EvAt x (.ptr id k row col)) (hy : EvAt y (lit (.pointer none))) :
    LTr P ⟨dst, .binOp .eql T x y yt, ty, pos, af, g⟩ (foot x (.ptr id k row col) ++ foot y (lit (.pointer none))) [] [] (bA false) [] :=
  LTr.pure fun F ρ h ac w _ _ hT' => by
    have h1 := eval_rep hx sub1 hT'
    have h2 := (rep_lit (eval_rep hy sub2 hT')).1
    simp only [AV.rep] at h1
    obtain ⟨b, _, h3⟩ := h1
    refine ⟨.bool false, ?_, rep_lit_mk rfl⟩
    have := run_guard_ptr (P := P) (op := .eql) (T := T) (x := x) (y := y) (a := some ⟨b, row * k + col, none⟩) (b := none) (w := w) (fun _ => binOp .eql T (.pointer (some ⟨b, row * k + col, none⟩)) (.pointer none))
    rw [run_eql_some hT] at this
    simp only [execOp, h2, h3]
    simp only [Sem.run_bind] at this ⊢
    rw [this]; rfl

/-- a pointer held against itself -/
theorem ltr_psame {T e id k row col : Nat} {x y : Operand} {yt : TypeId} {j : TypeInfo} (hT : P.underlying T = some (.pointer e)) (hj : P.info? e = some j) (hx : EvAt x (.ptr id k row col)) (hy : EvAt y (.ptr id k row col)) :
    LTr P ⟨dst, .binOp .neq T x y yt, ty, pos, af, g⟩ (foot x (.ptr id k row col) ++ foot y (.ptr id k row col)) [] [] (bA false) [] :=
  LTr.pure fun F ρ h ac w _ _ hT' => by
    have h1 := eval_rep hx sub1 hT'
    have h2 := eval_rep hy sub2 hT'
    simp only [AV.rep] at h1 h2
    obtain ⟨b, g1, h3⟩ := h1
    obtain ⟨b', g2, h4⟩ := h2
    rw [g1] at g2; cases g2
    refine ⟨.bool false, ?_, rep_lit_mk rfl⟩
    have := run_guard_ptr (P := P) (op := .neq) (T := T) (x := x) (y := y) (a := some ⟨b, row * k + col, none⟩) (b := some ⟨b, row * k + col, none⟩) (w := w) (fun _ => binOp .neq T (.pointer (some ⟨b, row * k + col, none⟩)) (.pointer (some ⟨b, row * k + col, none⟩)))
    rw [Lib.run_neq_ptr_same w _ hT hj] at this
    simp only [execOp, h3, h4]
    simp only [Sem.run_bind] at this ⊢
    rw [this]; rfl

/-- to unsafe.Pointer: the pointer stays what it is -/
theorem ltr_tou {S T t e id : Nat} {x : Operand} {j : TypeInfo} {cs : List AV} (hS : P.underlying S = some (.pointer t)) (hT : P.underlying T = some .unsafePointer) (ht : P.info? t = some j) (hj : j.size ≠ 0) (hx : EvAt x (.ptr id 0 0 0)) (hc : 0 < cs.length) :
    LTr P ⟨dst, .convert S T x, ty, pos, af, g⟩ (foot x (.ptr id 0 0 0)) [(id, .cells e cs)] [] (.ptr id 0 0 0) [] :=
  LTr.pure fun F ρ h ac w hh hH hT' => by
    have h1 := eval_rep hx (List.Subset.refl _) hT'
    have h1' := h1
    simp only [AV.rep] at h1
    obtain ⟨b, g1, h3⟩ := h1
    obtain ⟨m, h4, h5⟩ := hh.blk id (.cells e cs) (hH (id, .cells e cs) (by simp))
    rw [g1] at h4; cases h4
    simp only [Blk.rep] at h5
    obtain ⟨vs, rest, h6, h7, h8⟩ := h5
    have hl := repL_length h7
    refine ⟨ac.eval x, ?_, h1'⟩
    simp only [Nat.zero_mul, Nat.add_zero] at h3
    simp only [execOp, h3, Sem.run_bind, Lib.run_to_unsafe w ⟨b, 0, none⟩ hS hT ht hj (show w.shape? b = some (e, (vs ++ rest).toArray.size) by simp [World.shape?, h6]) (by simp; omega), Result.andThen_ok, Sem.run_pure]

/-- and back; the block is one variable of the type -/
theorem ltr_fromu {S T u id : Nat} {x : Operand} {j : TypeInfo} {cs : List AV} (hS : P.underlying S = some .unsafePointer) (hT : P.underlying T = some (.pointer u)) (hu : P.info? u = some j) (hl : ∀ n, cs.length ≤ n → liesAt P P.depth u (n / P.cellsOf u) 0 u 1 = true) (hx : EvAt x (.ptr id 0 0 0)) :
    LTr P ⟨dst, .convert S T x, ty, pos, af, g⟩ (foot x (.ptr id 0 0 0)) [(id, .cells u cs)] [] (.ptr id 0 0 0) [] :=
  LTr.pure fun F ρ h ac w hh hH hT' => by
    have h1 := eval_rep hx (List.Subset.refl _) hT'
    have h1' := h1
    simp only [AV.rep] at h1
    obtain ⟨b, g1, h3⟩ := h1
    obtain ⟨m, h4, h5⟩ := hh.blk id (.cells u cs) (hH (id, .cells u cs) (by simp))
    rw [g1] at h4; cases h4
    simp only [Blk.rep] at h5
    obtain ⟨vs, rest, h6, h7, h8⟩ := h5
    have hlen := repL_length h7
    refine ⟨ac.eval x, ?_, h1'⟩
    simp only [Nat.zero_mul, Nat.add_zero] at h3
    simp only [execOp, h3, Sem.run_bind, Lib.run_from_unsafe w ⟨b, 0, none⟩ hS hT hu (show w.shape? b = some (u, (vs ++ rest).toArray.size) by simp [World.shape?, h6]) (hl _ (by simp; omega)), Result.andThen_ok, Sem.run_pure]

/-- abi.NoEscape: the pointer as it is -/
theorem ltr_noesc {f : FuncId} {fn : Func} {x : Operand} {at_ : Array TypeId} {v : AV} (hf : P.funcs[f]? = some fn) (hname : (fn.name == "runtime.NumGoroutine") = false) (hb : fn.body.isNone = true) (hn : Extern.findNext fn = none) (he : Extern.find fn = some Extern.AbiNoEscape.same) (hx : EvAt x v) :
    LTr P ⟨dst, .call ⟨.value (.func f), ⟨[x]⟩, at_⟩, ty, pos, af, g⟩ (foot x v) [] [] v [] :=
  LTr.pure fun F ρ h ac w _ _ hT' => by
    have h1 := eval_rep hx (List.Subset.refl _) hT'
    refine ⟨ac.eval x, ?_, h1⟩
    have e0 : ac.eval (.func f) = .func (.func f) #[] #[] := rfl
    have := run_callFunc_extern (P := P) hf hname hb hn he #[ac.eval x] w
    rw [Lib.run_noEscape] at this
    simp only [Result.andThen_ok] at this
    simp [execOp, resolve, e0, Deferred.ofValue, invoke, this]

/-- unsafe.SliceData of rows that are there -/
theorem ltr_sdata {e id len : Nat} {x : Operand} {at_ : Array TypeId} (hx : EvAt x (.rw id 1 0 len)) (h0 : len ≠ 0) :
    LTr P ⟨dst, .call ⟨.builtin .unsafeSliceData, ⟨[x]⟩, at_⟩, ty, pos, af, g⟩ (foot x (.rw id 1 0 len)) [] [] (.ptr id 0 0 0) [] :=
  LTr.pure fun F ρ h ac w _ _ hT' => by
    have h1 := eval_rep hx (List.Subset.refl _) hT'
    simp only [AV.rep] at h1
    rcases h1 with ⟨_, _, h2, _⟩ | ⟨b, cap, c, e', g1, g2, g3, g4, g5, g6⟩
    · exact absurd h2 h0
    · refine ⟨.pointer (some ⟨b, 0, none⟩), ?_, by simp only [AV.rep]; exact ⟨b, g1, rfl⟩⟩
      have := Lib.run_unsafeSliceData_row (P := P) w at_ ty ⟨b, 0 * 1, none⟩ len cap (by omega)
      simp only [Nat.zero_mul] at this g2
      simp [execOp, resolve, invoke, builtin, g2, this]

/-- unsafe.String over rows of the call's own: they are given up -/
theorem ltr_ustr {pt it e id : Nat} {x y : Operand} {l : List UInt8} (hp : P.underlying pt = some (.pointer e)) (hc : P.cellsOf e = 1) (hx : EvAt x (.ptr id 0 0 0)) (hy : EvAt y (iA l.length)) (h0 : l ≠ []) :
    LTr P ⟨dst, .call ⟨.builtin .unsafeString, ⟨[x, y]⟩, ⟨[pt, it]⟩⟩, ty, pos, af, g⟩ (foot x (.ptr id 0 0 0) ++ foot y (iA l.length)) [(id, .rows e 1 (bytesF l))] [] (sA l) [(id, none)] :=
  LTr.of_run fun F ρ h ac w hh hH hn hT' => by
    have h1 := eval_rep hx sub1 hT'
    obtain ⟨h2, h2'⟩ := rep_lit (eval_rep hy sub2 hT')
    simp only [AV.rep] at h1
    obtain ⟨b, g1, h3⟩ := h1
    have hid : h id = some (.rows e 1 (bytesF l)) := hH (id, .rows e 1 (bytesF l)) (by simp)
    obtain ⟨m, h4, h5⟩ := hh.blk id _ hid
    rw [g1] at h4; cases h4
    simp only [Blk.rep] at h5
    obtain ⟨cc, k1, k2, k3⟩ := h5
    obtain ⟨xs, x1, x2, x3⟩ := flat_of_ownRows (ρ := ρ) k3
    have hxs := lits_eq (l := (bytesF l).flatten) (fun f hf => by
      simp only [bytesF, List.mem_flatten, List.mem_map] at hf
      obtain ⟨r, ⟨b, _, rfl⟩, hf⟩ := hf
      simp at hf; exact ⟨_, hf⟩) x1 (bytes_rep l)
    have h63 : l.length ≤ 9223372036854775807 := by simp [litOK, IntKind.min, IntKind.max, IntKind.bits, IntKind.signed] at h2'; omega
    have hcell : ∀ j x, l[j]? = some x → w.cell? ((⟨b, 0, none⟩ : Addr).add j) = some (.int .u8 x.toNat) := fun j x hj => by
      rw [add_none]
      exact x3 j _ (by rw [hxs]; simp [hj])
    have hrun := Lib.run_unsafeString_row (P := P) w pt it ty e hp hc b cc.size (by simp [World.shape?, k1]) l h0 (by simpa [bytesF] using k2) h63 hcell
    simp only [Nat.zero_mul, Nat.add_zero] at h3
    refine ⟨.string ⟨l.toArray⟩, w.freeze ⟨b, 0, none⟩ l.length, .inl ?_, ?_⟩
    · simp [execOp, resolve, invoke, builtin, h2, h3, hrun]
    · have hb : ∀ b', b' ≠ b → (w.freeze ⟨b, 0, none⟩ l.length).heap[b']? = w.heap[b']? := fun b' hb' => by
        unfold World.freeze
        split
        · rfl
        · simp [Array.getElem?_modify, Ne.symm hb']
      have hsz : (w.freeze ⟨b, 0, none⟩ l.length).heap.size = w.heap.size := by
        unfold World.freeze; split <;> simp
      have hrow : ∃ fz, (w.freeze ⟨b, 0, none⟩ l.length).heap[b]? = some (.cells cc e fz) := by
        unfold World.freeze
        split
        · exact ⟨_, k1⟩
        · simp [Array.getElem?_modify, k1]
      have hsub : ∀ b', own ρ (happ [(id, none)] h) b' → own ρ h b' ∧ b' ≠ b := by
        rintro b' ⟨i, h1, h2⟩
        by_cases hi : id = i
        · subst hi; simp [happ1_same] at h1
        · rw [happ1_other hi] at h1
          refine ⟨⟨i, h1, h2⟩, ?_⟩
          rintro rfl
          exact hi (hh.inj id i b' (by simp [hid]) h1 g1 h2)
      have hob : own ρ h b := ⟨id, by simp [hid], g1⟩
      have hE : Ext w (own ρ h) ρ (w.freeze ⟨b, 0, none⟩ l.length) (own ρ (happ [(id, none)] h)) ρ := by
        refine ⟨by unfold World.freeze; split <;> rfl, by unfold World.freeze; split <;> rfl, by unfold World.freeze; split <;> rfl, by rw [hsz]; exact Nat.le_refl _, fun b' _ hb' => ⟨hb b' (fun e => hb' (e ▸ hob)), fun h' => hb' (hsub b' h').1⟩, fun b' c e' hc' => ?_, fun _ _ h => h⟩
        by_cases hbb : b' = b
        · subst hbb
          obtain ⟨fz, hc'⟩ := hc'
          rw [k1] at hc'; cases hc'
          exact ⟨_, hrow, rfl⟩
        · exact ⟨c, by rw [hb b' hbb]; exact hc', rfl⟩
      refine ⟨ρ, ⟨fun i x hx => ?_, fun b' hb' => ⟨by rw [hsz]; exact (hh.far b' hb').1, fun ho => (hh.far b' hb').2 (hsub b' ho).1⟩, fun i i' b' h1 h2 => ?_, hh.gl.ext hE.sh⟩, rep_lit_mk (by simp only [litOK, size_mk, maxLen]; exact h63), hE, fun _ _ => rfl, fun i b' h1 h2 => .inl (hsub b' ⟨i, h1, h2⟩).1⟩
      · by_cases hi : id = i
        · subst hi; simp [happ1_same] at hx
        · rw [happ1_other hi] at hx
          obtain ⟨n, h1, h2⟩ := hh.blk i x hx
          refine ⟨n, h1, ?_⟩
          cases n with
          | zero => exact h2
          | succ b' => exact Blk.rep_ext hE.sh (hb b' fun e => hi (hh.inj id i b (by simp [hid]) (by simp [hx]) g1 (e ▸ h1))) x h2
      · by_cases hi : id = i
        · subst hi; simp [happ1_same] at h1
        · by_cases hi' : id = i'
          · subst hi'; simp [happ1_same] at h2
          · rw [happ1_other hi] at h1; rw [happ1_other hi'] at h2; exact hh.inj i i' b' h1 h2
end
end Go.Uw
namespace Go.Uw
section
variable {P : Program} {dst : Option Tmp} {ty : TypeId} {pos : String} {af : Array Edge} {g : Option (Nat × Bool)}
/-- append of a string onto nil -/
theorem ltr_appns {T U e k n n' m : Nat} {gg : Bool} {zs : List Value} {s x : Operand} {l : List UInt8} (hT : slB P T = some e) (hU : P.underlying U = some .string) (he : tyB P e = some (gg, k, n)) (hk : k = 1) (hz : zeroB P e = some zs)
    (hs : EvAt s (lit (.slice none 0 0))) (hx : EvAt x (sA l)) (hnm : n' ≠ m) (h63 : l.length ≤ maxLen) (hb : l.length * n ≤ 140737488355328) :
    LTr P ⟨dst, .call ⟨.builtin .append, ⟨[s, x]⟩, ⟨[T, U]⟩⟩, ty, pos, af, g⟩ (foot s (lit (.slice none 0 0)) ++ foot x (sA l)) [] [n', m]
      (.rw m k 0 l.length) [(m, some (.rows e k (bytesF l))), (n', none)] :=
  LTr.of_run fun F ρ h a w hh hH hn hT' => by
    have h1 := (rep_lit (eval_rep hs sub1 hT')).1
    have h2 := (rep_lit (eval_rep hx sub2 hT')).1
    have hn1 := hn n' (by simp)
    have hm := hn m (by simp)
    have o1 : Out F w ρ h [n'] (.rw n' k 0 0) [(n', some (.rows e k []))] w (.slice none 0 0) := Out.virt hh hn1
    obtain ⟨ρ1, p1, p2, p3, p4, p5⟩ := o1
    have hm1 : ρ1 m = none := by rw [p4 m (by simpa using fun e => hnm e.symm)]; exact hm
    obtain ⟨u, w', r1, q1, q2, q3, q4, q5, q6⟩ := append_outs (bs := ⟨l.toArray⟩) hT hU he hk hz p1 (id := n') (m := m) (rs := []) happ1_same hm1 p2 (by rw [size_mk]; simpa using h63) (by rw [size_mk]; simpa using hb) ty
    refine ⟨u, w', .inl (run_appendOpS (by rw [h1, h2]; exact r1)), ?_⟩
    have o1' : Out F w ρ h [n'] .undef [(n', some (.rows e k []))] w undef := ⟨ρ1, p1, by simp [AV.rep], p3, p4, p5⟩
    have r2 : Out F w ρ1 (happ [(n', some (.rows e k []))] h) [m] (.rw m k 0 ([].length + (ByteArray.mk l.toArray).size)) [(m, some (.rows e k ([] ++ bytesF (ByteArray.mk l.toArray).data.toList))), (n', none)] w' u := ⟨q1, q2, q3, q4, q5, q6⟩
    obtain ⟨ρ3, s1, s2, s3, s4, s5⟩ := r2
    have hEq : happ [(m, some (.rows e k ([] ++ bytesF (ByteArray.mk l.toArray).data.toList))), (n', none)] (happ [(n', some (.rows e k []))] h) = happ [(m, some (.rows e k (bytesF l))), (n', none)] h := by
      funext j
      by_cases hj : n' = j
      · subst hj; simp [happ]
      · simp [happ, beq_ne hj]
    rw [hEq] at s1 s2 s3 s5
    refine ⟨ρ3, s1, by simpa [size_mk] using s2, p3.trans s3, fun id hid => ?_, fun id b g1 g2 => ?_⟩
    · simp only [List.mem_cons, List.not_mem_nil, or_false, not_or] at hid
      rw [s4 id (by simpa using hid.2), p4 id (by simpa using hid.1)]
    · rcases s5 id b g1 g2 with ⟨i, h3, h4⟩ | h3
      · exact p5 i b h3 h4
      · exact .inr h3
end

section
variable {P : Program} {nt : Nat} {ops : Array Oper} {rest : List Oper} {t : List (Nat × AV)} {h : List (Nat × Option Blk)} {n : Nat} {K : List Rec → St → Prop}
variable {d : Tmp} {ty : TypeId} {pos : String} {af : Array Edge} {g : Option (Nat × Bool)}
theorem r_pnil {T e : TypeId} {yt : TypeId} {x y : Operand} (hT : P.underlying T = some (.pointer e)) (hx : evF t x = some (lit (.pointer none))) (hy : evF t y = some (lit (.pointer none))) (hw : wantedS ops t g) (hd : Nat.blt d nt = true) (k : Reg P nt ops rest ⟨(d, bA true) :: t, h, n⟩ (fun tr s' => K (⟨(foot x (lit (.pointer none)) ++ foot y (lit (.pointer none))).map (·.1), [], [], []⟩ :: tr) s')) :
    Reg P nt ops (⟨some d, .binOp .eql T x y yt, ty, pos, af, g⟩ :: rest) ⟨t, h, n⟩ K := reg_pure (ltr_pnil hT (evAt_of hx) (evAt_of hy)) hw (foot_ok2 hx hy) hd k
theorem r_psome {T e id k' row col : Nat} {yt : TypeId} {x y : Operand} (hT : P.underlying T = some (.pointer e)) (hx : evF t x = some (.ptr id k' row col)) (hy : evF t y = some (lit (.pointer none))) (hw : wantedS ops t g) (hd : Nat.blt d nt = true) (k : Reg P nt ops rest ⟨(d, bA false) :: t, h, n⟩ (fun tr s' => K (⟨(foot x (.ptr id k' row col) ++ foot y (lit (.pointer none))).map (·.1), [], [], []⟩ :: tr) s')) :
    Reg P nt ops (⟨some d, .binOp .eql T x y yt, ty, pos, af, g⟩ :: rest) ⟨t, h, n⟩ K := reg_pure (ltr_psome hT (evAt_of hx) (evAt_of hy)) hw (foot_ok2 hx hy) hd k
theorem r_psame {T e id k' row col : Nat} {yt : TypeId} {x y : Operand} {j : TypeInfo} (hT : P.underlying T = some (.pointer e)) (hj : P.info? e = some j) (hx : evF t x = some (.ptr id k' row col)) (hy : evF t y = some (.ptr id k' row col)) (hw : wantedS ops t g) (hd : Nat.blt d nt = true) (k : Reg P nt ops rest ⟨(d, bA false) :: t, h, n⟩ (fun tr s' => K (⟨(foot x (.ptr id k' row col) ++ foot y (.ptr id k' row col)).map (·.1), [], [], []⟩ :: tr) s')) :
    Reg P nt ops (⟨some d, .binOp .neq T x y yt, ty, pos, af, g⟩ :: rest) ⟨t, h, n⟩ K := reg_pure (ltr_psame hT hj (evAt_of hx) (evAt_of hy)) hw (foot_ok2 hx hy) hd k
theorem r_tou {S T u e id : Nat} {x : Operand} {j : TypeInfo} {cs : List AV} (hS : P.underlying S = some (.pointer u)) (hT : P.underlying T = some .unsafePointer) (ht : P.info? u = some j) (hj : j.size ≠ 0) (hx : evF t x = some (.ptr id 0 0 0)) (hb : hget h id = some (.cells e cs)) (hc : 0 < cs.length) (hw : wantedS ops t g) (hd : Nat.blt d nt = true)
    (k : Reg P nt ops rest ⟨(d, .ptr id 0 0 0) :: t, h, n⟩ (fun tr s' => K (⟨(foot x (.ptr id 0 0 0)).map (·.1), [id], [], []⟩ :: tr) s')) :
    Reg P nt ops (⟨some d, .convert S T x, ty, pos, af, g⟩ :: rest) ⟨t, h, n⟩ K :=
  reg_of (ltr_tou hS hT ht hj (evAt_of hx) hc) hw (foot_ok hx) (mem1 hb) (by simp) (Nat.le_refl _) hd k
theorem r_fromu {S T u id : Nat} {x : Operand} {j : TypeInfo} {cs : List AV} (hS : P.underlying S = some .unsafePointer) (hT : P.underlying T = some (.pointer u)) (hu : P.info? u = some j) (hl : ∀ n, cs.length ≤ n → liesAt P P.depth u (n / P.cellsOf u) 0 u 1 = true) (hx : evF t x = some (.ptr id 0 0 0)) (hb : hget h id = some (.cells u cs)) (hw : wantedS ops t g) (hd : Nat.blt d nt = true)
    (k : Reg P nt ops rest ⟨(d, .ptr id 0 0 0) :: t, h, n⟩ (fun tr s' => K (⟨(foot x (.ptr id 0 0 0)).map (·.1), [id], [], []⟩ :: tr) s')) :
    Reg P nt ops (⟨some d, .convert S T x, ty, pos, af, g⟩ :: rest) ⟨t, h, n⟩ K :=
  reg_of (ltr_fromu hS hT hu hl (evAt_of hx)) hw (foot_ok hx) (mem1 hb) (by simp) (Nat.le_refl _) hd k
theorem r_noesc {f : FuncId} {fn : Func} {x : Operand} {at_ : Array TypeId} {v : AV} (hf : P.funcs[f]? = some fn) (hname : (fn.name == "runtime.NumGoroutine") = false) (hb : fn.body.isNone = true) (hn : Extern.findNext fn = none) (he : Extern.find fn = some Extern.AbiNoEscape.same) (hx : evF t x = some v) (hw : wantedS ops t g) (hd : Nat.blt d nt = true)
    (k : Reg P nt ops rest ⟨(d, v) :: t, h, n⟩ (fun tr s' => K (⟨(foot x v).map (·.1), [], [], []⟩ :: tr) s')) :
    Reg P nt ops (⟨some d, .call ⟨.value (.func f), ⟨[x]⟩, at_⟩, ty, pos, af, g⟩ :: rest) ⟨t, h, n⟩ K := reg_pure (ltr_noesc hf hname hb hn he (evAt_of hx)) hw (foot_ok hx) hd k
theorem r_sdata {id len : Nat} {x : Operand} {at_ : Array TypeId} (hx : evF t x = some (.rw id 1 0 len)) (h0 : len ≠ 0) (hw : wantedS ops t g) (hd : Nat.blt d nt = true)
    (k : Reg P nt ops rest ⟨(d, .ptr id 0 0 0) :: t, h, n⟩ (fun tr s' => K (⟨(foot x (.rw id 1 0 len)).map (·.1), [], [], []⟩ :: tr) s')) :
    Reg P nt ops (⟨some d, .call ⟨.builtin .unsafeSliceData, ⟨[x]⟩, at_⟩, ty, pos, af, g⟩ :: rest) ⟨t, h, n⟩ K := reg_pure (ltr_sdata (e := 0) (evAt_of hx) h0) hw (foot_ok hx) hd k
theorem r_ustr {pt it e id len : Nat} {x y : Operand} {l : List UInt8} (hp : P.underlying pt = some (.pointer e)) (hc : P.cellsOf e = 1) (hx : evF t x = some (.ptr id 0 0 0)) (hy : evF t y = some (iA len)) (hl : len = l.length) (hb : hget h id = some (.rows e 1 (bytesF l))) (h0 : l ≠ []) (hw : wantedS ops t g) (hd : Nat.blt d nt = true)
    (k : Reg P nt ops rest ⟨(d, sA l) :: t, (id, none) :: h, n⟩ (fun tr s' => K (⟨(foot x (.ptr id 0 0 0) ++ foot y (iA len)).map (·.1), [id], [id], []⟩ :: tr) s')) :
    Reg P nt ops (⟨some d, .call ⟨.builtin .unsafeString, ⟨[x, y]⟩, ⟨[pt, it]⟩⟩, ty, pos, af, g⟩ :: rest) ⟨t, h, n⟩ K := by
  subst hl
  exact reg_of (ltr_ustr hp hc (evAt_of hx) (evAt_of hy) h0) hw (foot_ok2 hx hy) (mem1 hb) (by simp) (Nat.le_refl _) hd k
theorem r_appns {T U e k' nb : Nat} {gg : Bool} {zs : List Value} {s x : Operand} {l : List UInt8} (hT : slB P T = some e) (hU : P.underlying U = some .string) (he : tyB P e = some (gg, k', nb)) (hk : k' = 1) (hz : zeroB P e = some zs)
    (hs : evF t s = some (lit (.slice none 0 0))) (hx : evF t x = some (sA l)) (h63 : l.length ≤ maxLen) (hbb : l.length * nb ≤ 140737488355328) (hw : wantedS ops t g) (hd : Nat.blt d nt = true)
    (k : Reg P nt ops rest ⟨(d, .rw (n + 1) k' 0 l.length) :: t, (n + 1, some (.rows e k' (bytesF l))) :: (n, none) :: h, n + 2⟩ (fun tr s' => K (⟨(foot s (lit (.slice none 0 0)) ++ foot x (sA l)).map (·.1), [], [n + 1, n], [n, n + 1]⟩ :: tr) s')) :
    Reg P nt ops (⟨some d, .call ⟨.builtin .append, ⟨[s, x]⟩, ⟨[T, U]⟩⟩, ty, pos, af, g⟩ :: rest) ⟨t, h, n⟩ K :=
  reg_of (ltr_appns (n' := n) (m := n + 1) hT hU he hk hz (evAt_of hs) (evAt_of hx) (by omega) h63 hbb) hw (foot_ok2 hs hx) (by simp) (mem2 ⟨Nat.le_refl _, by omega⟩ ⟨by omega, by omega⟩) (by omega) hd k
end
end Go.Uw
namespace Go.Uw
theorem liesAt_self {P : Program} {e : TypeId} (hc : P.cellsOf e ≠ 0) (count : Nat) (h : 1 ≤ count) : liesAt P P.depth e count 0 e 1 = true := by
  have hd : P.depth = (2 * (P.types.size + Made.depth) + 1) + 1 := rfl
  rw [hd]
  simp only [liesAt, Bool.or_eq_true]
  left
  rw [hd]
  simp [rowAt, hc, h, sameLayout]
end Go.Uw
namespace Go.Uw
open Go Go.Sort

theorem grow_old {w : World} {k b : Nat} {os : Array Obj} (hb : b < w.heap.size) : (grow (w.drewN k) os).heap[b]? = w.heap[b]? := by
  simp only [grow, World.drewN]
  rw [Array.getElem?_append_left hb]

/-- new blocks that nobody names, and draws -/
theorem Out.grown {F : Nat → Prop} {w : World} {ρ : Names} {h : Nat → Option Blk} (hh : HR F w ρ h) {k : Nat} {os : Array Obj} {v : Value} (hv : litOK v) : Out F w ρ h [] (lit v) [] (grow (w.drewN k) os) v := by
  have hs : w.heap.size ≤ (grow (w.drewN k) os).heap.size := by simp [grow, World.drewN]
  have hE : Ext w (own ρ h) ρ (grow (w.drewN k) os) (own ρ h) ρ := by
    refine ⟨rfl, rfl, rfl, hs, fun b hb ho => ⟨grow_old hb, ho⟩, fun b c e hc => ?_, fun _ _ h => h⟩
    obtain ⟨fz, hc⟩ := hc
    exact ⟨c, ⟨fz, by rw [grow_old (Array.getElem?_eq_some_iff.1 hc).1]; exact hc⟩, rfl⟩
  refine ⟨ρ, ⟨fun i x hx => ?_, fun b hb => ⟨Nat.lt_of_lt_of_le (hh.far b hb).1 hs, (hh.far b hb).2⟩, hh.inj, hh.gl.ext hE.sh⟩, rep_lit_mk hv, hE, fun _ _ => rfl, fun id b h1 h2 => .inl ⟨id, h1, h2⟩⟩
  obtain ⟨n, h1, h2⟩ := hh.blk i x hx
  refine ⟨n, h1, ?_⟩
  cases n with
  | zero => exact h2
  | succ b => exact Blk.rep_ext hE.sh (grow_old (hh.lt hx h1)) x h2

/-- a library function of one integer that answers a string -/
theorem fun_of_grown {P : Program} {f : FuncId} {n : Int} {l : List UInt8} (hl : l.length ≤ maxLen) (h : ∀ (w : World) (s : Nat → Prop), GOK w s → Calls P f #[.int .i64 n] w fun e w' => e = .returned (.string ⟨l.toArray⟩) ∧ ∃ k os, w' = grow (w.drewN k) os) : Fun P f [iA n] [] [] (sA l) [] := by
  intro F ρ w vals hh _ hr
  simp only [repL] at hr
  obtain ⟨u, us, rfl, h1, rfl⟩ := hr
  rw [(rep_lit h1).1]
  refine (h w _ hh.gl).mono ?_
  rintro e w' ⟨rfl, k, os, rfl⟩
  exact ⟨_, rfl, Out.grown hh (by simp only [litOK, size_mk]; exact hl)⟩
end Go.Uw
