/- Strings, tables. Own work. -/
import Derived.Test.YtkcjomglcjhkgaaDoorUwQ
import Derived.Lib.AppendStr
import Derived.Laws.IdiomStrings
set_option linter.unusedVariables false
set_option linter.unusedSimpArgs false
namespace Go.Uw
open Go

abbrev sA (l : List UInt8) : AV := lit (.string ⟨l.toArray⟩)
def bytesF (l : List UInt8) : List (List FV) := l.map fun b => [FV.lit (.int .u8 b.toNat)]

theorem bytes_rep {w : World} {own : Nat → Prop} {ρ : Names} : ∀ (l : List UInt8), repL w own ρ (fvs (bytesF l).flatten) (l.map fun b => Value.int .u8 b.toNat)
  | [] => by simp [bytesF, fvs, repL]
  | b :: l => by
    have ih := bytes_rep (w := w) (own := own) (ρ := ρ) l
    simp only [bytesF, List.map_cons, List.flatten_cons, List.singleton_append, fvs, repL, AV.rep, FV.rep] at ih ⊢
    refine ⟨_, _, rfl, ⟨rfl, ?_⟩, ih⟩
    have := b.toNat_lt
    simp [litOK, IntKind.min, IntKind.max, IntKind.bits, IntKind.signed]; omega

section
variable {P : Program} {dst : Option Tmp} {ty : TypeId} {pos : String} {af : Array Edge} {g : Option (Nat × Bool)}

theorem run_guard_str {op : BinOp} {T : TypeId} {x y : Operand} {a b : ByteArray} {w : World} {α : Type} (f : Unit → Sem α) : (eqGuard op T x y (.string a) (.string b) >>= f).run P w = (f ()).run P w := by
  unfold eqGuard
  cases op <;> rfl

theorem size_mk (l : List UInt8) : (ByteArray.mk l.toArray).size = l.length := by simp [ByteArray.size]
theorem append_mk (a b : List UInt8) : ByteArray.mk a.toArray ++ ByteArray.mk b.toArray = ByteArray.mk (a ++ b).toArray := by
  apply ByteArray.ext
  simp [ByteArray.data_append]
theorem toList_inj {a b : List UInt8} (h : (ByteArray.mk a.toArray).toList = (ByteArray.mk b.toArray).toList) : a = b := by
  rw [ByteArray.toList_eq, ByteArray.toList_eq] at h
  simpa using h
theorem beq_mk (a b : List UInt8) : ((ByteArray.mk a.toArray).toList == (ByteArray.mk b.toArray).toList) = decide (a = b) := by
  by_cases h : a = b
  · subst h; simp
  · simp only [h, decide_false, beq_eq_false_iff_ne]
    exact fun e => h (toList_inj e)

theorem ltr_cat {T : TypeId} {x y : Operand} {yt : TypeId} {a b : List UInt8} (hx : EvAt x (sA a)) (hy : EvAt y (sA b)) (hr : a.length + b.length ≤ 9223372036854775807) :
    LTr P ⟨dst, .binOp .add T x y yt, ty, pos, af, g⟩ (foot x (sA a) ++ foot y (sA b)) [] [] (sA (a ++ b)) [] :=
  ltr_bin hx hy fun _ _ => ⟨by simp only [litOK, size_mk, List.length_append, maxLen]; exact hr, fun w => by
    rw [run_guard_str]
    have := run_string_add_sum (P := P) w (ByteArray.mk a.toArray) (ByteArray.mk b.toArray) (by rw [size_mk, size_mk]; exact hr)
    rw [append_mk] at this
    simpa [binOp] using this⟩

theorem ltr_eqs_ {T : TypeId} {x y : Operand} {yt : TypeId} {a b : List UInt8} (hx : EvAt x (sA a)) (hy : EvAt y (sA b)) :
    LTr P ⟨dst, .binOp .eql T x y yt, ty, pos, af, g⟩ (foot x (sA a) ++ foot y (sA b)) [] [] (bA (decide (a = b))) [] :=
  ltr_bin hx hy fun _ _ => ⟨rfl, fun w => by
    rw [run_guard_str]
    simp only [binOp, Op.stringOp, Sem.run_pure, beq_mk]⟩

theorem ltr_nes_ {T : TypeId} {x y : Operand} {yt : TypeId} {a b : List UInt8} (hx : EvAt x (sA a)) (hy : EvAt y (sA b)) :
    LTr P ⟨dst, .binOp .neq T x y yt, ty, pos, af, g⟩ (foot x (sA a) ++ foot y (sA b)) [] [] (bA (decide (a ≠ b))) [] :=
  ltr_bin hx hy fun _ _ => ⟨rfl, fun w => by
    rw [run_guard_str]
    simp only [binOp, Op.stringOp, Sem.run_pure, beq_mk, ← decide_not]⟩

theorem ltr_lens {T : Nat} {x : Operand} {a : List UInt8} (hT : P.underlying T = some .string) (hx : EvAt x (sA a)) :
    LTr P ⟨dst, .call ⟨.builtin .len, ⟨[x]⟩, ⟨[T]⟩⟩, ty, pos, af, g⟩ (foot x (sA a)) [] [] (iA a.length) [] :=
  LTr.pure fun F ρ h ac w _ _ hT' => by
    obtain ⟨h1, h2⟩ := rep_lit (eval_rep hx (List.Subset.refl _) hT')
    simp only [litOK, size_mk] at h2
    refine ⟨.int .i64 a.length, ?_, rep_lit_mk (litOK_nat h2)⟩
    have := run_len_string (P := P) w T ty (ByteArray.mk a.toArray) hT
    simp only [size_mk] at this
    simp [execOp, resolve, invoke, builtin, h1, this, goInt]

/-- an element of a table -/
theorem ltr_ixg {T e v m : Nat} {nb : Nat} {gg : Bool} {y : Operand} {ki : IntKind} {i : Int} {cells : Array Value} {u : Value} (hT : arB P T = some (m, e)) (he : tyB P e = some (gg, 1, nb)) (hg : (v, cells) ∈ Gl)
    (hy : EvAt y (iv ki i)) (h0 : 0 ≤ i) (h1 : i < m) (hu : cells[i.toNat]? = some u) (hok : litOK u) :
    LTr P ⟨dst, .indexAddr T (.global v) y, ty, pos, af, g⟩ (foot y (iv ki i)) [] [] (.rptr [.lit u]) [] :=
  LTr.pure fun F ρ h a w hh _ hT' => by
    have h3 := (rep_lit (eval_rep hy (List.Subset.refl _) hT')).1
    obtain ⟨g1, eT, fz, g2⟩ := hh.gl.1 _ hg
    obtain ⟨d, inf, h6, h7, h8, h9, h10⟩ := tyB_spec he
    refine ⟨.pointer (some ⟨v, i.toNat, none⟩), ?_, ?_⟩
    · have e0 : a.eval (.global v) = .pointer (some ⟨v, 0, none⟩) := rfl
      simp [execOp, e0, h3, Instr.indexAt, asIntOf, run_underlying (arB_spec hT), Instr.sureAddr, h0, h1, sizeOf, typeInfo, h7, h9, add_none]
    · simp only [AV.rep, repCells, FV.rep]
      refine ⟨⟨v, i.toNat, none⟩, rfl, rfl, ⟨u, ?_, g1, rfl, hok⟩, trivial⟩
      simp only [World.cell?, g2]; exact hu

/-- what an append of a string does to the heap -/
theorem append_outs {T U e k n : Nat} {gg : Bool} {zs : List Value} (hT : slB P T = some e) (hU : P.underlying U = some .string) (he : tyB P e = some (gg, k, n)) (hk1 : k = 1) (hz : zeroB P e = some zs)
    {F : Nat → Prop} {ρ : Names} {h : Nat → Option Blk} {w : World} (hh : HR F w ρ h) {id m : Nat} {rs : List (List FV)} {bs : ByteArray} (hid : h id = some (.rows e k rs)) (hm : ρ m = none)
    {s : Value} (hs : (AV.rw id k 0 rs.length).rep w (sh F (own ρ h)) ρ s) (h63 : rs.length + bs.size ≤ maxLen) (hb : (rs.length + bs.size) * n ≤ 140737488355328) (tt : TypeId) :
    ∃ u w', (Builtin.append_ #[T, U] tt #[s, .string bs]).run P w = .ok u w' ∧ Out F w ρ h [m] (.rw m k 0 (rs.length + bs.size)) [(m, some (.rows e k (rs ++ bytesF bs.data.toList))), (id, none)] w' u := by
  have hk : 0 < k := by omega
  obtain ⟨news, hnews⟩ : ∃ news, news = bytesF bs.data.toList := ⟨_, rfl⟩
  obtain ⟨ys, hys⟩ : ∃ ys, ys = Lib.strCells bs := ⟨_, rfl⟩
  have hy : repL w (sh F (own ρ h)) ρ (fvs news.flatten) ys := by subst hnews; subst hys; exact bytes_rep _
  have hkn : ∀ r ∈ news, r.length = k := by subst hnews; subst hk1; intro r hr; simp only [bytesF, List.mem_map] at hr; obtain ⟨b, _, rfl⟩ := hr; rfl
  have hnl : news.length = bs.size := by subst hnews; simp [bytesF]
  have hyl : ys.length = news.length * k := by rw [hys, Lib.strCells_length, hnl, hk1, Nat.mul_one]
  rw [← hnews, ← hnl]
  rw [← hnl] at h63 hb
  obtain ⟨d, i, h2, h3, h4, h5, h6⟩ := tyB_spec he
  obtain ⟨i', z, h7, h8, h9, h10, h11⟩ := zeroB_spec hz
  rw [h3] at h7; cases h7
  have hTs := slB_spec hT
  subst h5
  subst h6
  have hml : maxLen = 9223372036854775807 := rfl
  obtain ⟨n0, hn0, hblk⟩ := hh.blk id _ hid
  -- a new row: what is in it
  have grown : ∀ (xs : List Value) (old cp : Nat), repL w (sh F (own ρ h)) ρ (fvs rs.flatten) xs → xs.length = rs.length * i.size → (∀ r ∈ rs, r.length = i.size) → rs.length + news.length ≤ cp → cp ≤ maxLen →
      Out F w ρ h [m] (.rw m i.size 0 (rs.length + news.length)) [(m, some (.rows e i.size (rs ++ news))), (id, none)]
        (w.drew.alloc (.cells (xs.toArray ++ ys.toArray ++ Builtin.zeroCells z.cells (cp - (rs.length + news.length))) e (0, 0))) (.slice (some ⟨w.heap.size, 0, none⟩) (rs.length + news.length) cp) := by
    intro xs old cp hx hxl hrk hcp hcm
    have hsz : (xs.toArray ++ ys.toArray ++ Builtin.zeroCells z.cells (cp - (rs.length + news.length))).size = cp * i.size := by
      rw [Array.size_append, Array.size_append, size_zeroCells, h9]
      simp only [List.size_toArray, hxl, hyl, h10, ← Nat.add_mul]
      congr 1; omega
    have o1 : Out F w ρ h [] .undef [(id, none)] w undef := Out.drop hh id
    have o2 : Out F w ρ h ([] ++ []) .undef ([] ++ [(id, none)]) w.drew undef := o1.trans fun ρ1 hh1 _ _ _ => Out.draw hh1
    have o3 := o2.trans (nid2 := [m]) (v2 := .rw m i.size 0 (rs.length + news.length)) (p2 := [(m, some (.rows e i.size (rs ++ news)))])
      (w2 := w.drew.alloc (.cells (xs.toArray ++ ys.toArray ++ Builtin.zeroCells z.cells (cp - (rs.length + news.length))) e (0, 0))) (u2 := .slice (some ⟨w.heap.size, 0, none⟩) (rs.length + news.length) cp) (fun ρ1 hh1 hρ _ hE => by
        have hx1 := repL_ext hE.sh _ _ hx
        have hy1 := repL_ext hE.sh _ _ hy
        refine Out.new hh1 (by rw [hρ m (by simp)]; exact hm) (fun own' ρ' hE' => ?_) (fun own' ρ' hE' hnn => ?_)
        · simp only [Blk.rep]
          refine ⟨_, heap_alloc_new w.drew _, by rw [hsz, List.length_append]; exact Nat.mul_le_mul_right _ hcp, ?_⟩
          refine ownRows_append (ρ := ρ') hrk hkn (repL_ext hE' _ _ hx1) (repL_ext hE' _ _ hy1) fun j v hj => ?_
          rw [Nat.zero_add, cell_of_heap (heap_alloc_new w.drew _)]
          have hlt := (List.getElem?_eq_some_iff.1 hj).1
          rw [Array.getElem?_append_left (by simpa using hlt)]
          simpa using hj
        · simp only [AV.rep]
          exact .inr ⟨w.heap.size, cp, _, e, hnn, by simp, hcp, hcm, ⟨_, heap_alloc_new w.drew _⟩, by rw [hsz, Nat.zero_add]⟩)
    simpa using o3
  simp only [AV.rep] at hs
  rcases hs with ⟨g1, _, g2, rfl⟩ | ⟨b, cap, cc, e', g1, rfl, g2, g3, g4, g5⟩
  · -- nothing yet
    have hrs : rs = [] := List.eq_nil_of_length_eq_zero g2
    subst hrs
    simp only [List.length_nil, Nat.zero_add, List.nil_append] at *
    by_cases hnz : news.length = 0
    · have hnn : news = [] := List.eq_nil_of_length_eq_zero hnz
      subst hnn
      refine ⟨.slice none 0 0, w, ?_, ?_⟩
      · (have hz0 : bs.size = 0 := (by simpa using hnl.symm)
         simp [Builtin.append_, run_underlying hTs, run_underlying hU, sizeOf, typeInfo, h3, Builtin.lenOf, Builtin.firstCells, hz0])
      · exact Out.rename hh hid g1 hm fun own' ρ' hE' hnn => by simp [AV.rep, hnn]
    · have hr := run_append_nil_string (P := P) w T U tt e i z hTs hU h3 h8 bs (by omega) (by omega) (by rw [← hnl]; omega)
      have hya : Array.map (fun b : UInt8 => Value.int IntKind.u8 (b.toNat : Int)) bs.data = ys.toArray := by rw [hys]; apply Array.ext'; simp [Lib.strCells]
      rw [← hnl, hya] at hr
      have hge := grownCap_ge w news.length 0 e
      have hcm := grownCap_le_maxLen w news.length 0 e h63
      have hg := grown [] 0 (grownCap w news.length 0 e) (by simp [fvs, repL]) (by simp) (by simp) (by simpa using hge) hcm
      refine ⟨_, _, hr, ?_⟩
      simpa using hg
  · rw [hn0] at g1; cases g1
    simp only [Blk.rep] at hblk
    obtain ⟨cur, k1, k2, k3⟩ := hblk
    have hce : cur = cc := by obtain ⟨fz, g4⟩ := g4; rw [k1] at g4; cases g4; rfl
    subst hce
    clear g4
    simp only [Nat.zero_mul, Nat.zero_add] at *
    obtain ⟨xs, x1, x2, x3⟩ := flat_of_ownRows (ρ := ρ) k3
    have hrk := ownRows_k k3
    have hcur : cur.toList.take (rs.length * i.size) = xs := by
      apply List.ext_getElem?
      intro j
      by_cases hj : j < rs.length * i.size
      · rw [List.getElem?_take, if_pos hj]
        have hjx : j < xs.length := by omega
        have := x3 j _ (List.getElem?_eq_getElem hjx)
        rw [Nat.zero_add, cell_of_heap k1] at this
        rw [List.getElem?_eq_getElem hjx, ← this]; simp
      · rw [List.getElem?_eq_none (by simp; omega), List.getElem?_eq_none (by omega)]
    by_cases hroom : rs.length + news.length ≤ cap
    · have hfit : rs.length * i.size + ys.length ≤ cur.size := by rw [hyl, g5, ← Nat.add_mul]; exact Nat.mul_le_mul_right _ hroom
      have hra : rs.length * i.size = rs.length := by rw [hk1, Nat.mul_one]
      have hrb : rs.length * i.size + ys.length = rs.length + bs.size := by rw [hyl, hk1, Nat.mul_one, Nat.mul_one, hnl]
      have hr : (Builtin.append_ #[T, U] tt #[.slice (some ⟨b, 0, none⟩) rs.length cap, .string bs]).run P w = .ok (.slice (some ⟨b, 0, none⟩) (rs.length + news.length) cap) (w.setRow b (cur.toList.take (rs.length * i.size) ++ ys ++ cur.toList.drop (rs.length * i.size + ys.length)).toArray) := by
        rw [hrb, hra, hys, hnl]
        exact Lib.run_append_room_string (P := P) w T U tt e i hTs hU h3 hk1 b rs.length cap cur k1 bs (by rw [← hnl]; exact hroom) (by rw [hyl, hk1, Nat.mul_one, Nat.mul_one] at hfit; rw [← hnl]; exact hfit)
      refine ⟨_, _, hr, ?_⟩
      have hsz : (cur.toList.take (rs.length * i.size) ++ ys ++ cur.toList.drop (rs.length * i.size + ys.length)).toArray.size = cur.size := by simp; omega
      have o1 := Out.set (x := .rows e i.size (rs ++ news)) (v := .undef) (u := undef) hh hid hn0 k1 hsz (fun own' ρ' hE' => by
          simp only [Blk.rep]
          refine ⟨_, setRow_heap w b cur _ e (0, 0) k1, by rw [hsz, List.length_append, Nat.add_mul, ← hyl]; exact hfit, ?_⟩
          refine ownRows_append (ρ := ρ') hrk hkn (repL_ext hE' _ _ x1) (repL_ext hE' _ _ hy) fun j v hj => ?_
          rw [Nat.zero_add, cell_of_heap (setRow_heap w b cur _ e (0, 0) k1), hcur]
          have hlt := (List.getElem?_eq_some_iff.1 hj).1
          simp only [List.getElem?_toArray]
          rw [List.getElem?_append_left (by simpa using hlt)]
          exact hj) (fun _ _ _ => by simp [AV.rep])
      have hcell := setRow_heap w b cur (cur.toList.take (rs.length * i.size) ++ ys ++ cur.toList.drop (rs.length * i.size + ys.length)).toArray e (0, 0) k1
      have o2 := o1.trans (nid2 := [m]) (v2 := .rw m i.size 0 (rs.length + news.length)) (p2 := [(m, some (.rows e i.size (rs ++ news))), (id, none)]) (w2 := w.setRow b _) (u2 := .slice (some ⟨b, 0, none⟩) (rs.length + news.length) cap)
        (fun ρ1 hh1 hρ _ hE => Out.rename hh1 happ1_same (by rw [hρ id (by simp)]; exact hn0) (by rw [hρ m (by simp)]; exact hm) fun own' ρ' hE' hnn => by
          simp only [AV.rep]
          exact .inr ⟨b, cap, _, e, hnn, by simp, hroom, g3, ⟨_, hcell⟩, by rw [hsz, g5, Nat.zero_add]⟩)
      -- the double entry of id is one
      obtain ⟨ρ', p1, p2, p3, p4, p5⟩ := o2
      have hEq : happ ([(m, some (Blk.rows e i.size (rs ++ news))), (id, none)] ++ [(id, some (Blk.rows e i.size (rs ++ news)))]) h = happ [(m, some (.rows e i.size (rs ++ news))), (id, none)] h := by
        funext j
        by_cases hj : id = j
        · subst hj; simp [happ]
        · simp [happ, beq_ne hj]
      rw [hEq] at p1 p2 p3 p5
      exact ⟨ρ', p1, p2, p3, by simpa using p4, p5⟩
    · have hr := Lib.run_append_grow_string (P := P) w T U tt e i z hTs hU h3 h8 ⟨b, 0, none⟩ rs.length cap xs x2 (fun j v hj => by rw [add_none]; exact x3 j v hj) bs (by omega) (by omega) (by rw [← hnl]; exact growslice_fits (by omega) hb)
      rw [← hnl, ← hys] at hr
      have hge := grownCap_ge w (rs.length + news.length) cap e
      have hcm := grownCap_le_maxLen w (rs.length + news.length) cap e h63
      exact ⟨_, _, hr, grown xs cap _ x1 x2 hrk hge hcm⟩
theorem run_appendOpS {T U : Nat} {s x : Operand} {a : Act} {w : World} {u : Value} {w' : World} (hr : (Builtin.append_ #[T, U] ty #[a.eval s, a.eval x]).run P w = .ok u w') :
    (execOp a.eval ⟨dst, .call ⟨.builtin .append, ⟨[s, x]⟩, ⟨[T, U]⟩⟩, ty, pos, af, g⟩).run P w = .ok (.value u) w' := by
  simp [execOp, resolve, invoke, builtin, hr]

theorem ltr_apps {T U e k n id m len : Nat} {gg : Bool} {zs : List Value} {s x : Operand} {rs : List (List FV)} {l : List UInt8} (hT : slB P T = some e) (hU : P.underlying U = some .string) (he : tyB P e = some (gg, k, n)) (hk : k = 1) (hz : zeroB P e = some zs)
    (hs : EvAt s (.rw id k 0 len)) (hx : EvAt x (sA l)) (hl : len = rs.length) (h63 : rs.length + l.length ≤ maxLen) (hb : (rs.length + l.length) * n ≤ 140737488355328) :
    LTr P ⟨dst, .call ⟨.builtin .append, ⟨[s, x]⟩, ⟨[T, U]⟩⟩, ty, pos, af, g⟩ (foot s (.rw id k 0 len) ++ foot x (sA l)) [(id, .rows e k rs)] [m]
      (.rw m k 0 (rs.length + l.length)) [(m, some (.rows e k (rs ++ bytesF l))), (id, none)] :=
  LTr.of_run fun F ρ h a w hh hH hn hT' => by
    subst hl
    have h1 := eval_rep hs sub1 hT'
    have h2 := (rep_lit (eval_rep hx sub2 hT')).1
    have hid : h id = some (.rows e k rs) := hH (id, .rows e k rs) (by simp)
    obtain ⟨u, w', r1, r2⟩ := append_outs (bs := ⟨l.toArray⟩) hT hU he hk hz hh hid (hn m (by simp)) h1 (by rw [size_mk]; exact h63) (by rw [size_mk]; exact hb) ty
    rw [size_mk] at r2
    rw [← h2] at r1
    exact ⟨u, w', .inl (run_appendOpS r1), by simpa using r2⟩
end

section
variable {P : Program} {nt : Nat} {ops : Array Oper} {rest : List Oper} {t : List (Nat × AV)} {h : List (Nat × Option Blk)} {n : Nat} {K : List Rec → St → Prop}
variable {d : Tmp} {ty : TypeId} {pos : String} {af : Array Edge} {g : Option (Nat × Bool)}

theorem r_cat {T : TypeId} {yt : TypeId} {a b : List UInt8} {x y : Operand} (hx : evF t x = some (sA a)) (hy : evF t y = some (sA b)) (hr : a.length + b.length ≤ 9223372036854775807) (hw : wantedS ops t g) (hd : Nat.blt d nt = true) (k : Reg P nt ops rest ⟨(d, sA (a ++ b)) :: t, h, n⟩ (fun tr s' => K (⟨(foot x (sA a) ++ foot y (sA b)).map (·.1), [], [], []⟩ :: tr) s')) :
    Reg P nt ops (⟨some d, .binOp .add T x y yt, ty, pos, af, g⟩ :: rest) ⟨t, h, n⟩ K := reg_pure (ltr_cat (evAt_of hx) (evAt_of hy) hr) hw (foot_ok2 hx hy) hd k
theorem r_eqstr {T : TypeId} {yt : TypeId} {a b : List UInt8} {x y : Operand} (hx : evF t x = some (sA a)) (hy : evF t y = some (sA b)) (hw : wantedS ops t g) (hd : Nat.blt d nt = true) (k : Reg P nt ops rest ⟨(d, bA (decide (a = b))) :: t, h, n⟩ (fun tr s' => K (⟨(foot x (sA a) ++ foot y (sA b)).map (·.1), [], [], []⟩ :: tr) s')) :
    Reg P nt ops (⟨some d, .binOp .eql T x y yt, ty, pos, af, g⟩ :: rest) ⟨t, h, n⟩ K := reg_pure (ltr_eqs_ (evAt_of hx) (evAt_of hy)) hw (foot_ok2 hx hy) hd k
theorem r_nestr {T : TypeId} {yt : TypeId} {a b : List UInt8} {x y : Operand} (hx : evF t x = some (sA a)) (hy : evF t y = some (sA b)) (hw : wantedS ops t g) (hd : Nat.blt d nt = true) (k : Reg P nt ops rest ⟨(d, bA (decide (a ≠ b))) :: t, h, n⟩ (fun tr s' => K (⟨(foot x (sA a) ++ foot y (sA b)).map (·.1), [], [], []⟩ :: tr) s')) :
    Reg P nt ops (⟨some d, .binOp .neq T x y yt, ty, pos, af, g⟩ :: rest) ⟨t, h, n⟩ K := reg_pure (ltr_nes_ (evAt_of hx) (evAt_of hy)) hw (foot_ok2 hx hy) hd k
theorem r_lens {T : Nat} {a : List UInt8} {x : Operand} (hT : P.underlying T = some .string) (hx : evF t x = some (sA a)) (hw : wantedS ops t g) (hd : Nat.blt d nt = true) (k : Reg P nt ops rest ⟨(d, iA a.length) :: t, h, n⟩ (fun tr s' => K (⟨(foot x (sA a)).map (·.1), [], [], []⟩ :: tr) s')) :
    Reg P nt ops (⟨some d, .call ⟨.builtin .len, ⟨[x]⟩, ⟨[T]⟩⟩, ty, pos, af, g⟩ :: rest) ⟨t, h, n⟩ K := reg_pure (ltr_lens hT (evAt_of hx)) hw (foot_ok hx) hd k
theorem r_ixg {T e v m nb : Nat} {gg : Bool} {ki : IntKind} {i : Int} {y : Operand} {cells : Array Value} {u : Value} (hT : arB P T = some (m, e)) (he : tyB P e = some (gg, 1, nb)) (hg : (v, cells) ∈ Gl) (hy : evF t y = some (iv ki i)) (h0 : 0 ≤ i) (h1 : i < m) (hu : cells[i.toNat]? = some u) (hok : litOK u) (hw : wantedS ops t g) (hd : Nat.blt d nt = true)
    (k : Reg P nt ops rest ⟨(d, .rptr [.lit u]) :: t, h, n⟩ (fun tr s' => K (⟨(foot y (iv ki i)).map (·.1), [], [], []⟩ :: tr) s')) :
    Reg P nt ops (⟨some d, .indexAddr T (.global v) y, ty, pos, af, g⟩ :: rest) ⟨t, h, n⟩ K := reg_pure (ltr_ixg (P := P) (nb := nb) (gg := gg) (e := e) (m := m) hT he hg (evAt_of hy) h0 h1 hu hok) hw (foot_ok hy) hd k
theorem r_apps {T U e k' nb id len : Nat} {gg : Bool} {zs : List Value} {s x : Operand} {rs : List (List FV)} {l : List UInt8} (hT : slB P T = some e) (hU : P.underlying U = some .string) (he : tyB P e = some (gg, k', nb)) (hk : k' = 1) (hz : zeroB P e = some zs)
    (hs : evF t s = some (.rw id k' 0 len)) (hx : evF t x = some (sA l)) (hb : hget h id = some (.rows e k' rs)) (hl : len = rs.length) (h63 : rs.length + l.length ≤ maxLen) (hbb : (rs.length + l.length) * nb ≤ 140737488355328) (hw : wantedS ops t g) (hd : Nat.blt d nt = true)
    (k : Reg P nt ops rest ⟨(d, .rw n k' 0 (rs.length + l.length)) :: t, (n, some (.rows e k' (rs ++ bytesF l))) :: (id, none) :: h, n + 1⟩ (fun tr s' => K (⟨(foot s (.rw id k' 0 len) ++ foot x (sA l)).map (·.1), [id], [n, id], [n]⟩ :: tr) s')) :
    Reg P nt ops (⟨some d, .call ⟨.builtin .append, ⟨[s, x]⟩, ⟨[T, U]⟩⟩, ty, pos, af, g⟩ :: rest) ⟨t, h, n⟩ K :=
  reg_of (ltr_apps (m := n) hT hU he hk hz (evAt_of hs) (evAt_of hx) hl h63 hbb) hw (foot_ok2 hs hx) (mem1 hb) (mem1 ⟨Nat.le_refl _, Nat.lt_succ_self _⟩) (Nat.le_succ _) hd k
end
end Go.Uw
