/- Pieces and bytes of strings; a table read whole; elements of values. Own work. -/
import Derived.Test.YtkcjomglcjhkgaaDoorUwLn
import Derived.Laws.Strings2
import Derived.Laws.Slices
import Derived.Laws.Strings
set_option linter.unusedVariables false
set_option linter.unusedSimpArgs false
namespace Go.Uw
open Go
theorem u8rng {a : Int} (h : 0 ≤ a ∧ a ≤ 255) : IntKind.u8.min ≤ a ∧ a ≤ IntKind.u8.max := by
  simp [IntKind.min, IntKind.max, IntKind.bits, IntKind.signed]; omega

section
variable {P : Program} {dst : Option Tmp} {ty : TypeId} {pos : String} {af : Array Edge} {g : Option (Nat × Bool)}

theorem litOK_sub {l l' : List UInt8} (h : litOK (.string ⟨l.toArray⟩)) (hl : l'.length ≤ l.length) : litOK (.string ⟨l'.toArray⟩) := by
  simp only [litOK, size_mk] at h ⊢; omega

theorem ltr_cutsh {T : Nat} {x hi : Operand} {l : List UInt8} {kh : IntKind} {j : Int} (hT : P.underlying T = some .string) (hx : EvAt x (sA l)) (hh : EvAt hi (iv kh j)) (h0 : 0 ≤ j) (h1 : j ≤ l.length) :
    LTr P ⟨dst, .slice T x none (some hi) none, ty, pos, af, g⟩ (foot x (sA l) ++ foot hi (iv kh j)) [] [] (sA (l.take j.toNat)) [] :=
  LTr.pure fun F ρ h a w _ _ hT' => by
    obtain ⟨e1, e1'⟩ := rep_lit (eval_rep hx sub1 hT')
    have e2 := (rep_lit (eval_rep hh sub2 hT')).1
    refine ⟨_, ?_, rep_lit_mk (litOK_sub e1' (by simp; omega))⟩
    have := run_slice_string_h (P := P) w T ⟨l.toArray⟩ hT kh j h0 (by rw [size_mk]; exact h1)
    rw [ByteArray.extract_mk] at this
    simp [execOp, e1, e2, Instr.sliceAt, run_underlying hT, this]

theorem ltr_cutsl {T : Nat} {x lo : Operand} {l : List UInt8} {kl : IntKind} {i : Int} (hT : P.underlying T = some .string) (hx : EvAt x (sA l)) (hl : EvAt lo (iv kl i)) (h0 : 0 ≤ i) (h1 : i ≤ l.length) :
    LTr P ⟨dst, .slice T x (some lo) none none, ty, pos, af, g⟩ (foot x (sA l) ++ foot lo (iv kl i)) [] [] (sA (l.drop i.toNat)) [] :=
  LTr.pure fun F ρ h a w _ _ hT' => by
    obtain ⟨e1, e1'⟩ := rep_lit (eval_rep hx sub1 hT')
    have e2 := (rep_lit (eval_rep hl sub2 hT')).1
    refine ⟨_, ?_, rep_lit_mk (litOK_sub e1' (by simp))⟩
    have := run_slice_string_l (P := P) w T ⟨l.toArray⟩ hT kl i h0 (by rw [size_mk]; exact h1)
    rw [ByteArray.extract_mk, size_mk, List.take_of_length_le (by simp)] at this
    simp [execOp, e1, e2, Instr.sliceAt, run_underlying hT, this]

theorem ltr_cutslh {T : Nat} {x lo hi : Operand} {l : List UInt8} {kl kh : IntKind} {i j : Int} (hT : P.underlying T = some .string) (hx : EvAt x (sA l)) (hl : EvAt lo (iv kl i)) (hh : EvAt hi (iv kh j)) (h0 : 0 ≤ i) (h1 : i ≤ j) (h2 : j ≤ l.length) :
    LTr P ⟨dst, .slice T x (some lo) (some hi) none, ty, pos, af, g⟩ (foot x (sA l) ++ (foot lo (iv kl i) ++ foot hi (iv kh j))) [] [] (sA ((l.drop i.toNat).take (j.toNat - i.toNat))) [] :=
  LTr.pure fun F ρ h a w _ _ hT' => by
    obtain ⟨e1, e1'⟩ := rep_lit (eval_rep hx sub1 hT')
    have e2 := (rep_lit (eval_rep hl (fun p hp => by simp [hp]) hT')).1
    have e3 := (rep_lit (eval_rep hh (fun p hp => by simp [hp]) hT')).1
    refine ⟨_, ?_, rep_lit_mk (litOK_sub e1' (by simp; omega))⟩
    have := run_slice_string (P := P) w T ⟨l.toArray⟩ kl kh i j hT h0 h1 (by rw [size_mk]; exact h2)
    rw [ByteArray.extract_mk] at this
    simp [execOp, e1, e2, e3, Instr.sliceAt, run_underlying hT, this]

theorem ltr_ixs {T : Nat} {x y : Operand} {l : List UInt8} {ki : IntKind} {i : Int} {c : UInt8} (hT : P.underlying T = some .string) (hx : EvAt x (sA l)) (hy : EvAt y (iv ki i)) (h0 : 0 ≤ i) (hc : l[i.toNat]? = some c) :
    LTr P ⟨dst, .index T x y, ty, pos, af, g⟩ (foot x (sA l) ++ foot y (iv ki i)) [] [] (iv .u8 c.toNat) [] :=
  LTr.pure fun F ρ h a w _ _ hT' => by
    have e1 := (rep_lit (eval_rep hx sub1 hT')).1
    have e2 := (rep_lit (eval_rep hy sub2 hT')).1
    obtain ⟨hlt, hc'⟩ := List.getElem?_eq_some_iff.1 hc
    refine ⟨.int .u8 c.toNat, ?_, rep_lit_mk (by have := c.toNat_lt; simp [litOK, IntKind.min, IntKind.max, IntKind.bits, IntKind.signed]; omega)⟩
    have := run_index_string (P := P) w T ⟨l.toArray⟩ ki i hT
    rw [dif_pos ⟨h0, by rw [size_mk]; omega⟩] at this
    have hb : (ByteArray.mk l.toArray)[i.toNat]'(by rw [size_mk]; exact hlt) = c := by
      show l.toArray[i.toNat]'(by simpa using hlt) = c
      simpa using hc'
    rw [hb] at this
    simp [execOp, e1, e2, this]

/-- a whole table -/
theorem ltr_ldg {T v k n : Nat} {cells : Array Value} (ht : tyB P T = some (true, k, n)) (hg : (v, cells) ∈ Gl) (hk : cells.size = k) (hok : ∀ u ∈ cells.toList, litOK u ∧ u.oneCell' = true) :
    LTr P ⟨dst, .load T (.global v), ty, pos, af, g⟩ [] [] [] (.agg (cells.toList.map fun u => lit u)) [] :=
  LTr.pure fun F ρ h a w hh _ hT' => by
    obtain ⟨g1, eT, fz, g2⟩ := hh.gl.1 _ hg
    have e0 : a.eval (.global v) = .pointer (some ⟨v, 0, none⟩) := rfl
    have hL : ∀ (l : List Value), (∀ u ∈ l, litOK u) → repL w (sh F (own ρ h)) ρ (l.map fun u => lit u) l := by
      intro l
      induction l with
      | nil => intro _; simp [repL]
      | cons u l ih => intro hu; simp only [List.map_cons, repL]; exact ⟨u, l, rfl, rep_lit_mk (hu u (by simp)), ih fun u' hu' => hu u' (by simp [hu'])⟩
    refine ⟨.agg cells.toList.toArray, ?_, by simp only [AV.rep]; exact ⟨cells.toList, rfl, hL _ fun u hu => (hok u hu).1, fun u hu => (hok u hu).2⟩⟩
    simp only [execOp, e0, Sem.run_bind]
    rw [run_loadAt_agg (vs := cells.toList) ht (by simpa using hk) (fun j u hj => by
      simp only [World.cell?, g2, Nat.zero_add]
      simpa using hj)]
    rfl

/-- an element of an array that is a value -/
theorem ltr_ixa {T e m n : Nat} {gg : Bool} {x y : Operand} {cells : List AV} {ki : IntKind} {i : Int} {v : AV} (hT : arB P T = some (m, e)) (he : tyB P e = some (false, 1, n)) (hx : EvAt x (.agg cells)) (hy : EvAt y (iv ki i)) (h0 : 0 ≤ i) (h1 : i < m) (hv : cells[i.toNat]? = some v) :
    LTr P ⟨dst, .index T x y, ty, pos, af, g⟩ (foot x (.agg cells) ++ foot y (iv ki i)) [] [] v [] :=
  LTr.pure fun F ρ h a w _ _ hT' => by
    have e1 := eval_rep hx sub1 hT'
    have e2 := (rep_lit (eval_rep hy sub2 hT')).1
    simp only [AV.rep] at e1
    obtain ⟨vs, e3, e4, _⟩ := e1
    obtain ⟨u, e5, e6⟩ := cells_at e4 hv
    obtain ⟨d, inf, g1, g2, g3, g4, g5⟩ := tyB_spec he
    refine ⟨u, ?_, e6⟩
    obtain ⟨hlt, hval⟩ := List.getElem?_eq_some_iff.1 e5
    simp only [execOp, e3, e2]
    simp [Instr.index, asIntOf, run_underlying (arB_spec hT), h0, h1, sizeOf, typeInfo, g2, g4, part, run_isAgg g1, g3, e5, hlt, hval]
end

section
variable {P : Program} {nt : Nat} {ops : Array Oper} {rest : List Oper} {t : List (Nat × AV)} {h : List (Nat × Option Blk)} {n : Nat} {K : List Rec → St → Prop}
variable {d : Tmp} {ty : TypeId} {pos : String} {af : Array Edge} {g : Option (Nat × Bool)}
theorem r_cutsh {T : Nat} {x hi : Operand} {l : List UInt8} {kh : IntKind} {j : Int} (hT : P.underlying T = some .string) (hx : evF t x = some (sA l)) (hh : evF t hi = some (iv kh j)) (h0 : 0 ≤ j) (h1 : j ≤ l.length) (hw : wantedS ops t g) (hd : Nat.blt d nt = true)
    (k : Reg P nt ops rest ⟨(d, sA (l.take j.toNat)) :: t, h, n⟩ (fun tr s' => K (⟨(foot x (sA l) ++ foot hi (iv kh j)).map (·.1), [], [], []⟩ :: tr) s')) :
    Reg P nt ops (⟨some d, .slice T x none (some hi) none, ty, pos, af, g⟩ :: rest) ⟨t, h, n⟩ K := reg_pure (ltr_cutsh hT (evAt_of hx) (evAt_of hh) h0 h1) hw (foot_ok2 hx hh) hd k
theorem r_cutsl {T : Nat} {x lo : Operand} {l : List UInt8} {kl : IntKind} {i : Int} (hT : P.underlying T = some .string) (hx : evF t x = some (sA l)) (hl : evF t lo = some (iv kl i)) (h0 : 0 ≤ i) (h1 : i ≤ l.length) (hw : wantedS ops t g) (hd : Nat.blt d nt = true)
    (k : Reg P nt ops rest ⟨(d, sA (l.drop i.toNat)) :: t, h, n⟩ (fun tr s' => K (⟨(foot x (sA l) ++ foot lo (iv kl i)).map (·.1), [], [], []⟩ :: tr) s')) :
    Reg P nt ops (⟨some d, .slice T x (some lo) none none, ty, pos, af, g⟩ :: rest) ⟨t, h, n⟩ K := reg_pure (ltr_cutsl hT (evAt_of hx) (evAt_of hl) h0 h1) hw (foot_ok2 hx hl) hd k
theorem r_cutslh {T : Nat} {x lo hi : Operand} {l : List UInt8} {kl kh : IntKind} {i j : Int} (hT : P.underlying T = some .string) (hx : evF t x = some (sA l)) (hl : evF t lo = some (iv kl i)) (hh : evF t hi = some (iv kh j)) (h0 : 0 ≤ i) (h1 : i ≤ j) (h2 : j ≤ l.length) (hw : wantedS ops t g) (hd : Nat.blt d nt = true)
    (k : Reg P nt ops rest ⟨(d, sA ((l.drop i.toNat).take (j.toNat - i.toNat))) :: t, h, n⟩ (fun tr s' => K (⟨(foot x (sA l) ++ (foot lo (iv kl i) ++ foot hi (iv kh j))).map (·.1), [], [], []⟩ :: tr) s')) :
    Reg P nt ops (⟨some d, .slice T x (some lo) (some hi) none, ty, pos, af, g⟩ :: rest) ⟨t, h, n⟩ K :=
  reg_pure (ltr_cutslh hT (evAt_of hx) (evAt_of hl) (evAt_of hh) h0 h1 h2) hw (fun p hp => by
    rcases List.mem_append.1 hp with hp | hp
    · exact foot_ok hx p hp
    · exact foot_ok2 hl hh p hp) hd k
theorem r_ixs {T : Nat} {x y : Operand} {l : List UInt8} {ki : IntKind} {i : Int} {c : UInt8} (hT : P.underlying T = some .string) (hx : evF t x = some (sA l)) (hy : evF t y = some (iv ki i)) (h0 : 0 ≤ i) (hc : l[i.toNat]? = some c) (hw : wantedS ops t g) (hd : Nat.blt d nt = true)
    (k : Reg P nt ops rest ⟨(d, iv .u8 c.toNat) :: t, h, n⟩ (fun tr s' => K (⟨(foot x (sA l) ++ foot y (iv ki i)).map (·.1), [], [], []⟩ :: tr) s')) :
    Reg P nt ops (⟨some d, .index T x y, ty, pos, af, g⟩ :: rest) ⟨t, h, n⟩ K := reg_pure (ltr_ixs hT (evAt_of hx) (evAt_of hy) h0 hc) hw (foot_ok2 hx hy) hd k
theorem r_ldg {T v k' nb : Nat} {cells : Array Value} (ht : tyB P T = some (true, k', nb)) (hg : (v, cells) ∈ Gl) (hk : cells.size = k') (hok : ∀ u ∈ cells.toList, litOK u ∧ u.oneCell' = true) (hw : wantedS ops t g) (hd : Nat.blt d nt = true)
    (k : Reg P nt ops rest ⟨(d, .agg (cells.toList.map fun u => lit u)) :: t, h, n⟩ (fun tr s' => K (⟨[], [], [], []⟩ :: tr) s')) :
    Reg P nt ops (⟨some d, .load T (.global v), ty, pos, af, g⟩ :: rest) ⟨t, h, n⟩ K := reg_pure (ltr_ldg ht hg hk hok) hw (by simp) hd k
theorem r_ixa {T e m nb : Nat} {gg : Bool} {x y : Operand} {cells : List AV} {ki : IntKind} {i : Int} {v : AV} (hT : arB P T = some (m, e)) (he : tyB P e = some (false, 1, nb)) (hx : evF t x = some (.agg cells)) (hy : evF t y = some (iv ki i)) (h0 : 0 ≤ i) (h1 : i < m) (hv : cells[i.toNat]? = some v) (hw : wantedS ops t g) (hd : Nat.blt d nt = true)
    (k : Reg P nt ops rest ⟨(d, v) :: t, h, n⟩ (fun tr s' => K (⟨(foot x (.agg cells) ++ foot y (iv ki i)).map (·.1), [], [], []⟩ :: tr) s')) :
    Reg P nt ops (⟨some d, .index T x y, ty, pos, af, g⟩ :: rest) ⟨t, h, n⟩ K := reg_pure (ltr_ixa (gg := gg) hT he (evAt_of hx) (evAt_of hy) h0 h1 hv) hw (foot_ok2 hx hy) hd k
end
end Go.Uw
