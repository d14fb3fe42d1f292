/- Helpers of the walks. Own work. -/
import Derived.Test.YtkcjomglcjhkgaaDoorUwP
set_option linter.unusedVariables false
set_option linter.unusedSimpArgs false
namespace Go.Uw
open Go

section
variable {h : Nat → Option Blk} {dead : Nat → Prop} {ν : Nat → Nat}
theorem Cv.fv {x : FV} : Cv h dead ν (.fv x) (.fv x) := Cv.same (x := .fv x)
theorem CvL.fvs : ∀ {l : List FV}, CvL h dead ν (fvs l) (fvs l)
  | [] => .nil
  | _ :: _ => .cons .fv CvL.fvs
theorem Cv.aggf {l : List FV} : Cv h dead ν (.agg (fvs l)) (.agg (fvs l)) := .agg .fvs
theorem Cv.ren {x v : AV} (he : v.ren ν = x) : Cv h dead ν x v := by subst he; exact Cv.same
theorem Cv.rptr {l : List FV} : Cv h dead ν (.rptr l) (.rptr l) := Cv.same (x := .rptr l)
end

section
variable {P : Program} {E : Env} {K : Exit → St → Prop} {s : St}

/-- a frozen slice has a length -/
theorem awp_len {c : Code} (i : Nat) {k : Nat} {rows : List (List FV)} (h : tget s.t i = some (.fv (.ro k rows))) (hk : rows.length ≤ maxLen → AWP P E c K s) : AWP P E c K s := by
  intro ρ ac w hR
  obtain ⟨u, h1, h2⟩ := hR.tm _ _ h
  simp only [AV.rep, FV.rep] at h2
  obtain ⟨a, len, cap, h3, h4, h5, h6, _⟩ := h2
  exact hk (by omega) ρ ac w hR

theorem fin0 {rl : List ResultVar} {rs : List AV} {v v' : AV} (hr : ResL P s rl rs) (hc : Cv (hget s.h) (fun _ => True) (ren 0 s.nx []) (tupA rs) v') (he : v' = v) : Fin P 0 rl [] [] v [] s := by
  subst he
  refine ⟨rs, [], 0, hr, rfl, Nat.le_refl _, Nat.zero_le _, Cv.mono (fun _ _ h => h) (fun id _ _ => by simp [hget]) hc, fun id x' h => by simp [hget] at h⟩
end

theorem map_get {α : Type} {f : α → List FV} {l : List α} {i : Nat} (h : i < l.length) : (l.map f)[((i : Nat) : Int).toNat]? = some (f l[i]) := by simp [h]
theorem map_geti {α : Type} {f : α → List FV} {l : List α} {i : Int} (h : i.toNat < l.length) : (l.map f)[i.toNat]? = some (f l[i.toNat]) := by simp [h]
theorem rng64 {a : Int} (h : -9223372036854775808 ≤ a ∧ a ≤ 9223372036854775807) : IntKind.i64.min ≤ a ∧ a ≤ IntKind.i64.max := by
  simpa [IntKind.min, IntKind.max, IntKind.bits, IntKind.signed] using h
theorem maxLen_eq : maxLen = 9223372036854775807 := by rfl
end Go.Uw
namespace Go.Uw
theorem Cv.aggf' {h : Nat → Option Blk} {dead : Nat → Prop} {ν : Nat → Nat} {x : List AV} {l : List FV} (e : fvs l = x) : Cv h dead ν (.agg x) (.agg (fvs l)) := e ▸ .aggf
end Go.Uw
namespace Go.Uw
section
variable {P : Program} {nt : Nat} {ops : Array Oper} {rest : List Oper} {t : List (Nat × AV)} {h : List (Nat × Option Blk)} {n : Nat} {K : List Rec → St → Prop}
theorem r_skip {op : Op} {d : Tmp} {ty : TypeId} {pos : String} {af : Array Edge} {g : Option (Nat × Bool)} (hw : unwantedS ops t g) (hd : Nat.blt d nt = true) (k : Reg P nt ops rest ⟨(d, .undef) :: t, h, n⟩ (fun tr s' => K (⟨[], [], [], []⟩ :: tr) s')) :
    Reg P nt ops (⟨some d, op, ty, pos, af, g⟩ :: rest) ⟨t, h, n⟩ K := reg_skip hw hd k
end
end Go.Uw
namespace Go.Uw
open Go

section
variable {P : Program} {dst : Option Tmp} {ty : TypeId} {pos : String} {af : Array Edge} {g : Option (Nat × Bool)}

theorem flatMap_len {k : Nat} : ∀ {vs : List (Nat × AV)}, (∀ p ∈ vs, cellish p.2 = true ∧ (cellsOfA p.2).length = k) → (vs.flatMap fun p => cellsOfA p.2).length = vs.length * k
  | [], _ => by simp
  | p :: vs, h => by
    rw [List.flatMap_cons, List.length_append, flatMap_len (fun q hq => h q (by simp [hq])), (h p (by simp)).2, List.length_cons, Nat.add_mul]; omega

theorem ltr_bslicec {T e k n m len : Nat} {gg : Bool} {parts : List (Nat × Operand)} {vs : List (Nat × AV)} {zs : List Value} {cs : List AV} (hT : slB P T = some e) (he : tyB P e = some (gg, k, n)) (hk : 0 < k) (hz : zeroB P e = some zs)
    (hpos : 0 < len) (hsm : len * k ≤ 16777216) (hlm : len = vs.length) (hx : EvP parts vs) (hord : inOrder 0 vs = true) (hrow : (vs.flatMap fun p => cellsOfA p.2) = cs) (hcell : ∀ p ∈ vs, cellish p.2 = true ∧ (cellsOfA p.2).length = k) :
    LTr P ⟨dst, .buildSlice T len ⟨parts⟩, ty, pos, af, g⟩ (footP parts vs) [] [m] (.rw m k 0 len) [(m, some (.cells e cs))] :=
  LTr.of_run fun F ρ h a w hh _ hn hT' => by
    subst hlm
    subst hrow
    obtain ⟨i', z, h7, h8, h9, h10, h11⟩ := zeroB_spec hz
    obtain ⟨out, f1, f2, f3⟩ := fill_rows (k := k) (w := w) (own := sh F (own ρ h)) (ρ := ρ) (vs := vs) (vparts := parts.map fun p => (p.1, a.eval p.2)) 0 []
      ((Array.range (vs.length * k)).map (zs.toArray[· % zs.toArray.size]!)).toList hord hcell (by simp) (by simp) (evP_rep hT' hx (List.Subset.refl _))
    simp only [List.nil_append, Array.toArray_toList] at f1
    have hrun := run_buildSlice (P := P) (w := w) hT he hk hpos hz hsm f1
    have hol : out.length = vs.length * k := by rw [repL_length f2, flatMap_len hcell]
    refine ⟨.slice (some ⟨w.heap.size, 0, none⟩) vs.length vs.length, w.alloc (.cells out.toArray e (0, 0)), .inl ?_, Out.new hh (hn m (by simp)) (fun own' ρ' hE => ?_) (fun own' ρ' hE hnn => ?_)⟩
    · simp only [execOp, Sem.run_bind]
      rw [show Array.map (fun x => (x.1, a.eval x.2)) { toList := parts } = ⟨parts.map fun p => (p.1, a.eval p.2)⟩ by simp]
      rw [hrun]; rfl
    · simp only [Blk.rep]
      exact ⟨out, [], by rw [heap_alloc_new]; simp, repL_ext hE _ _ f2, f3⟩
    · simp only [AV.rep]
      refine .inr ⟨w.heap.size, vs.length, out.toArray, e, hnn, by simp, Nat.le_refl _, ?_, ⟨_, by rw [heap_alloc_new]⟩, by simp [hol]⟩
      have : vs.length * 1 ≤ vs.length * k := Nat.mul_le_mul_left _ hk
      simp only [maxLen]; omega

/-- what an append does to a block of cells -/
theorem append_outc {T e k n : Nat} {gg : Bool} {zs : List Value} (hT : slB P T = some e) (he : tyB P e = some (gg, k, n)) (hk : 0 < k) (hz : zeroB P e = some zs)
    {F : Nat → Prop} {ρ : Names} {h : Nat → Option Blk} {w : World} (hh : HR F w ρ h) {id m len nn : Nat} {cs news : List AV} (hid : h id = some (.cells e cs)) (hm : ρ m = none) (hcl : cs.length = len * k) (hnl : news.length = nn * k)
    {s : Value} (hs : (AV.rw id k 0 len).rep w (sh F (own ρ h)) ρ s) {ad : Addr} {c : Nat} {ys : List Value} (hy : repL w (sh F (own ρ h)) ρ news ys) (hyo : ∀ u ∈ ys, u.oneCell' = true)
    (hyc : ∀ j v, ys[j]? = some v → w.cell? (ad.add j) = some v) (h63 : len + nn ≤ maxLen) (hb : (len + nn) * n ≤ 140737488355328) (tt : TypeId) :
    ∃ u w', (Builtin.append_ #[T, T] tt #[s, .slice (some ad) nn c]).run P w = .ok u w' ∧ Out F w ρ h [m] (.rw m k 0 (len + nn)) [(m, some (.cells e (cs ++ news))), (id, none)] w' u := by
  obtain ⟨d, i, h2, h3, h4, h5, h6⟩ := tyB_spec he
  obtain ⟨i', z, h7, h8, h9, h10, h11⟩ := zeroB_spec hz
  rw [h3] at h7; cases h7
  have hTs := slB_spec hT
  subst h5
  subst h6
  have hml : maxLen = 9223372036854775807 := rfl
  obtain ⟨n0, hn0, hblk⟩ := hh.blk id _ hid
  have hyl : ys.length = nn * i.size := by rw [repL_length hy, hnl]
  simp only [AV.rep] at hs
  rcases hs with ⟨g1, _, g2, rfl⟩ | ⟨b, cap, cc, e', g1, rfl, g2, g3, g4, g5⟩
  · rw [hn0] at g1; cases g1
    obtain ⟨_, _, hb⟩ := hblk; cases hb
  · rw [hn0] at g1; cases g1
    simp only [Blk.rep] at hblk
    obtain ⟨xs, rest, k1, k2, k3⟩ := hblk
    have hce : (xs ++ rest).toArray = cc := by obtain ⟨fz, g4⟩ := g4; rw [k1] at g4; cases g4; rfl
    subst hce
    clear g4
    simp only [Nat.zero_mul, Nat.zero_add] at *
    have x2 : xs.length = len * i.size := by rw [repL_length k2, hcl]
    have x3 : ∀ j v, xs[j]? = some v → w.cell? ⟨b, j, none⟩ = some v := fun j v hj => cell_front k1 hj
    have hcur : (xs ++ rest).toArray.toList.take (len * i.size) = xs := by simp [← x2]
    by_cases hroom : len + nn ≤ cap
    · have hfit : len * i.size + ys.length ≤ (xs ++ rest).toArray.size := by rw [hyl, g5, ← Nat.add_mul]; exact Nat.mul_le_mul_right _ hroom
      have hr := run_append_room (P := P) w T tt e i hTs h3 b len cap (xs ++ rest).toArray k1 ad nn c ys hyl hyc hyo hroom hfit
      refine ⟨_, _, hr, ?_⟩
      have hsz : ((xs ++ rest).toArray.toList.take (len * i.size) ++ ys ++ (xs ++ rest).toArray.toList.drop (len * i.size + ys.length)).toArray.size = (xs ++ rest).toArray.size := by
        simp only [List.size_toArray, List.length_append, List.length_take, List.length_drop] at hfit ⊢; omega
      have hcell := setRow_heap w b (xs ++ rest).toArray ((xs ++ rest).toArray.toList.take (len * i.size) ++ ys ++ (xs ++ rest).toArray.toList.drop (len * i.size + ys.length)).toArray e (0, 0) k1
      have o1 := Out.set (x := .cells e (cs ++ news)) (v := .undef) (u := undef) hh hid hn0 k1 hsz (fun own' ρ' hE' => by
          simp only [Blk.rep]
          refine ⟨xs ++ ys, (xs ++ rest).toArray.toList.drop (len * i.size + ys.length), ?_, repL_append (repL_ext hE' _ _ k2) (repL_ext hE' _ _ hy), ?_⟩
          · rw [hcell, hcur]
          · intro u hu
            rcases List.mem_append.1 hu with hu | hu
            · exact k3 u hu
            · exact hyo u hu) (fun _ _ _ => by simp [AV.rep])
      have o2 := o1.trans (nid2 := [m]) (v2 := .rw m i.size 0 (len + nn)) (p2 := [(m, some (.cells e (cs ++ news))), (id, none)]) (w2 := w.setRow b _) (u2 := .slice (some ⟨b, 0, none⟩) (len + nn) cap)
        (fun ρ1 hh1 hρ _ hE => Out.rename hh1 happ1_same (by rw [hρ id (by simp)]; exact hn0) (by rw [hρ m (by simp)]; exact hm) fun own' ρ' hE' hnn => by
          simp only [AV.rep]
          exact .inr ⟨b, cap, _, e, hnn, by simp, hroom, g3, ⟨_, hcell⟩, by rw [hsz, g5, Nat.zero_add]⟩)
      obtain ⟨ρ', p1, p2, p3, p4, p5⟩ := o2
      have hEq : happ ([(m, some (Blk.cells e (cs ++ news))), (id, none)] ++ [(id, some (Blk.cells e (cs ++ news)))]) h = happ [(m, some (.cells e (cs ++ news))), (id, none)] h := by
        funext j
        by_cases hj : id = j
        · subst hj; simp [happ]
        · simp [happ, beq_ne hj]
      rw [hEq] at p1 p2 p3 p5
      exact ⟨ρ', p1, p2, p3, by simpa using p4, p5⟩
    · have hr := run_append_grow (P := P) w T tt e i z hTs h3 h8 ⟨b, 0, none⟩ len cap xs x2 (fun j v hj => by rw [add_none]; simpa using x3 j v hj) ad nn c ys hyl hyc (by omega) (by omega) (growslice_fits (by omega) hb)
      have hcp := grownCap_ge w (len + nn) cap e
      have hcm := grownCap_le_maxLen w (len + nn) cap e h63
      refine ⟨_, _, hr, ?_⟩
      have hsz : (xs.toArray ++ ys.toArray ++ Builtin.zeroCells z.cells (grownCap w (len + nn) cap e - (len + nn))).size = grownCap w (len + nn) cap e * i.size := by
        rw [Array.size_append, Array.size_append, size_zeroCells, h9]
        simp only [List.size_toArray, x2, hyl, h10, ← Nat.add_mul]
        congr 1; omega
      have o1 : Out F w ρ h [] .undef [(id, none)] w undef := Out.drop hh id
      have o2 : Out F w ρ h ([] ++ []) .undef ([] ++ [(id, none)]) w.drew undef := o1.trans fun ρ1 hh1 _ _ _ => Out.draw hh1
      have o3 := o2.trans (nid2 := [m]) (v2 := .rw m i.size 0 (len + nn)) (p2 := [(m, some (.cells e (cs ++ news)))])
        (w2 := w.drew.alloc (.cells (xs.toArray ++ ys.toArray ++ Builtin.zeroCells z.cells (grownCap w (len + nn) cap e - (len + nn))) e (0, 0))) (u2 := .slice (some ⟨w.heap.size, 0, none⟩) (len + nn) (grownCap w (len + nn) cap e)) (fun ρ1 hh1 hρ _ hE => by
          have hx1 := repL_ext hE.sh _ _ k2
          have hy1 := repL_ext hE.sh _ _ hy
          refine Out.new hh1 (by rw [hρ m (by simp)]; exact hm) (fun own' ρ' hE' => ?_) (fun own' ρ' hE' hnn => ?_)
          · simp only [Blk.rep]
            refine ⟨xs ++ ys, (Builtin.zeroCells z.cells (grownCap w (len + nn) cap e - (len + nn))).toList, ?_, repL_append (repL_ext hE' _ _ hx1) (repL_ext hE' _ _ hy1), ?_⟩
            · rw [heap_alloc_new w.drew _]; simp
            · intro u hu
              rcases List.mem_append.1 hu with hu | hu
              · exact k3 u hu
              · exact hyo u hu
          · simp only [AV.rep]
            exact .inr ⟨w.heap.size, _, _, e, hnn, by simp, hcp, hcm, ⟨_, heap_alloc_new w.drew _⟩, by rw [hsz, Nat.zero_add]⟩)
      simpa using o3

/-- append of one own block of cells to another -/
theorem ltr_appc {T e k n id id2 m len nn : Nat} {gg : Bool} {zs : List Value} {s x : Operand} {cs news : List AV} (hT : slB P T = some e) (he : tyB P e = some (gg, k, n)) (hk : 0 < k) (hz : zeroB P e = some zs)
    (hs : EvAt s (.rw id k 0 len)) (hx : EvAt x (.rw id2 k 0 nn)) (hcl : cs.length = len * k) (hnl : news.length = nn * k) (h63 : len + nn ≤ maxLen) (hb : (len + nn) * n ≤ 140737488355328) :
    LTr P ⟨dst, .call ⟨.builtin .append, ⟨[s, x]⟩, ⟨[T, T]⟩⟩, ty, pos, af, g⟩ (foot s (.rw id k 0 len) ++ foot x (.rw id2 k 0 nn)) [(id, .cells e cs), (id2, .cells e news)] [m]
      (.rw m k 0 (len + nn)) [(m, some (.cells e (cs ++ news))), (id, none)] :=
  LTr.of_run fun F ρ h a w hh hH hn hT' => by
    have h1 := eval_rep hs sub1 hT'
    have h2 := eval_rep hx sub2 hT'
    have hid : h id = some (.cells e cs) := hH (id, .cells e cs) (by simp)
    have hid2 : h id2 = some (.cells e news) := hH (id2, .cells e news) (by simp)
    have hm := hn m (by simp)
    obtain ⟨n2, hn2, hblk⟩ := hh.blk id2 _ hid2
    simp only [AV.rep] at h2
    rcases h2 with ⟨g1, g2, g3, g4⟩ | ⟨b, cap, c, e', g1, g3, g4, g5, g6, g7⟩
    · rw [hn2] at g1; cases g1
      obtain ⟨_, _, hb⟩ := hblk; cases hb
    · rw [g1] at hn2; cases hn2
      simp only [Blk.rep] at hblk
      obtain ⟨ys, rest, k1, k2, k3⟩ := hblk
      obtain ⟨u, w', r1, r2⟩ := append_outc hT he hk hz hh hid hm hcl hnl h1 (ad := ⟨b, 0, none⟩) (c := cap) k2 k3 (fun j v hj => by rw [add_none]; simpa using cell_front k1 hj) h63 hb ty
      rw [Nat.zero_mul] at g3
      rw [← g3] at r1
      exact ⟨u, w', .inl (run_appendOp r1), r2⟩
end

section
variable {P : Program} {nt : Nat} {ops : Array Oper} {rest : List Oper} {t : List (Nat × AV)} {h : List (Nat × Option Blk)} {n : Nat} {K : List Rec → St → Prop}
variable {d : Tmp} {ty : TypeId} {pos : String} {af : Array Edge} {g : Option (Nat × Bool)}

theorem r_bslicec {T e k' nb len : Nat} {gg : Bool} {parts : List (Nat × Operand)} {vs : List (Nat × AV)} {zs : List Value} {cs : List AV} (hT : slB P T = some e) (he : tyB P e = some (gg, k', nb)) (hk : Nat.blt 0 k' = true) (hz : zeroB P e = some zs)
    (hpos : Nat.blt 0 len = true) (hsm : Nat.ble (len * k') 16777216 = true) (hx : evParts t parts = some vs) (hlm : len = vs.length) (hord : inOrder 0 vs = true) (hrow : (vs.flatMap fun p => cellsOfA p.2) = cs) (hcell : (vs.all fun p => cellish p.2 && Nat.beq (cellsOfA p.2).length k') = true) (hw : wantedS ops t g) (hd : Nat.blt d nt = true)
    (k : Reg P nt ops rest ⟨(d, .rw n k' 0 len) :: t, (n, some (.cells e cs)) :: h, n + 1⟩ (fun tr s' => K (⟨(footP parts vs).map (·.1), [], [n], [n]⟩ :: tr) s')) :
    Reg P nt ops (⟨some d, .buildSlice T len ⟨parts⟩, ty, pos, af, g⟩ :: rest) ⟨t, h, n⟩ K :=
  reg_of (ltr_bslicec (m := n) hT he (by rwa [Nat.blt_eq] at hk) hz (by rwa [Nat.blt_eq] at hpos) (Nat.le_of_ble_eq_true hsm) hlm (evP_of hx).1 hord hrow
    (fun p hp => by have := List.all_eq_true.1 hcell p hp; simp only [Bool.and_eq_true] at this; exact ⟨this.1, Nat.eq_of_beq_eq_true this.2⟩)) hw (evP_of hx).2 (by simp) (mem1 ⟨Nat.le_refl _, Nat.lt_succ_self _⟩) (Nat.le_succ _) hd k

theorem r_appc {T e k' nb id id2 len nn : Nat} {gg : Bool} {zs : List Value} {s x : Operand} {cs news : List AV} (hT : slB P T = some e) (he : tyB P e = some (gg, k', nb)) (hk : Nat.blt 0 k' = true) (hz : zeroB P e = some zs)
    (hs : evF t s = some (.rw id k' 0 len)) (hx : evF t x = some (.rw id2 k' 0 nn)) (hb : hget h id = some (.cells e cs)) (hb2 : hget h id2 = some (.cells e news)) (hcl : cs.length = len * k') (hnl : news.length = nn * k') (h63 : len + nn ≤ maxLen) (hbb : (len + nn) * nb ≤ 140737488355328) (hw : wantedS ops t g) (hd : Nat.blt d nt = true)
    (k : Reg P nt ops rest ⟨(d, .rw n k' 0 (len + nn)) :: t, (n, some (.cells e (cs ++ news))) :: (id, none) :: h, n + 1⟩ (fun tr s' => K (⟨(foot s (.rw id k' 0 len) ++ foot x (.rw id2 k' 0 nn)).map (·.1), [id, id2], [n, id], [n]⟩ :: tr) s')) :
    Reg P nt ops (⟨some d, .call ⟨.builtin .append, ⟨[s, x]⟩, ⟨[T, T]⟩⟩, ty, pos, af, g⟩ :: rest) ⟨t, h, n⟩ K :=
  reg_of (ltr_appc (m := n) hT he (by rwa [Nat.blt_eq] at hk) hz (evAt_of hs) (evAt_of hx) hcl hnl h63 hbb) hw (foot_ok2 hs hx) (mem2 hb hb2) (mem1 ⟨Nat.le_refl _, Nat.lt_succ_self _⟩) (Nat.le_succ _) hd k
end
end Go.Uw
namespace Go.Uw
open Go

inductive AllGet (h : List (Nat × Option Blk)) : List (Nat × Blk) → Prop
  | nil : AllGet h []
  | cons {i : Nat} {b : Blk} {l : List (Nat × Blk)} (h1 : hget h i = some b) (h2 : AllGet h l) : AllGet h ((i, b) :: l)
theorem AllGet.all {h : List (Nat × Option Blk)} : ∀ {l : List (Nat × Blk)}, AllGet h l → ∀ p ∈ l, hget h p.1 = some p.2
  | [], _, p, hp => by simp at hp
  | (i, b) :: l, .cons h1 h2, p, hp => by
    rcases List.mem_cons.1 hp with rfl | hp
    · exact h1
    · exact h2.all p hp

section
variable {P : Program} {nt : Nat} {ops : Array Oper} {rest : List Oper} {t : List (Nat × AV)} {h : List (Nat × Option Blk)} {n : Nat} {K : List Rec → St → Prop}
variable {ty : TypeId} {pos : String} {af : Array Edge} {g : Option (Nat × Bool)}

/-- a call that is lent blocks and hands over new ones; l: the callee's names and the caller's; N: the caller's next name behind the call; nx: the callee's -/
theorem r_callh {d : Tmp} {c : Operand} {xs : List Operand} {at_ : Array TypeId} {vs caps args : List AV} {f : FuncId} {h0 : List (Nat × Option Blk)} {nid : List Nat} {v v' : AV} {puts puts' : List (Nat × Option Blk)} (l : List (Nat × Nat)) (N nx : Nat)
    (hF : Fun P f args h0 nid v puts) (hf : callB P f = true) (hc : evF t c = some (.fn f caps)) (hx : evL t xs = some vs) (hl : renOK 0 N nx l = true)
    (hargs : CvL (fun _ => none) (fun _ => False) (ren 0 N l) (vs ++ caps) args)
    (hH : AllGet h ((liveH h0).map fun p => (ren 0 N l p.1, p.2.ren (ren 0 N l)))) (hn : ((nid.map (ren 0 N l)).all fun i => Nat.ble n i && Nat.blt i N) = true) (hN : Nat.ble n N = true)
    (hv : v.ren (ren 0 N l) = v') (hp : renH (ren 0 N l) puts = puts') (hw : wantedS ops t g) (hd : Nat.blt d nt = true)
    (k : Reg P nt ops rest ⟨(d, v') :: t, puts' ++ h, N⟩ (fun tr s' => K (⟨(foot c (.fn f caps) ++ footL xs vs).map (·.1), ((liveH h0).map fun p => (ren 0 N l p.1, p.2.ren (ren 0 N l))).map (·.1), puts'.map (·.1), nid.map (ren 0 N l)⟩ :: tr) s')) :
    Reg P nt ops (⟨some d, .call ⟨.value c, ⟨xs⟩, at_⟩, ty, pos, af, g⟩ :: rest) ⟨t, h, n⟩ K := by
  subst hv; subst hp
  exact reg_of (ltr_call (evAt_of hc) (evLAt_of hx).1 hf hF N nx l hl hargs) hw (foot_okL hc hx) hH.all
    (fun id hid => by
      have := List.all_eq_true.1 hn id hid
      simp only [Bool.and_eq_true] at this
      exact ⟨Nat.le_of_ble_eq_true this.1, by have := this.2; rwa [Nat.blt_eq] at this⟩) (Nat.le_of_ble_eq_true hN) hd k

end

/-! rounds, one by one -/
def Unr (P : Program) (E : Env) (c : Code) (K : Exit → St → Prop) : Nat → St → Prop
  | 0, _ => False
  | n + 1, s => AWP P E c (thenK (Unr P E c K n) K) s

theorem unr_succ {P : Program} {E : Env} {c : Code} {K : Exit → St → Prop} {n : Nat} {s : St} (h : AWP P E c (thenK (Unr P E c K n) K) s) : Unr P E c K (n + 1) s := h

theorem awp_unroll {P : Program} {E : Env} {c : Code} {K : Exit → St → Prop} {s : St} (n : Nat) (h : Unr P E c K n s) : AWP P E (.loop c) K s := by
  intro ρ a w hR
  refine wpIn_loop_ix (fun n a w => ∃ s ρ, R E s ρ a w ∧ Unr P E c K n s) id n ⟨s, ρ, hR, h⟩ fun x a w ⟨s, ρ, hx, hu⟩ => ?_
  cases x with
  | zero => exact hu.elim
  | succ x =>
    refine wpIn_mono (hu ρ a w hx) fun e a' w' hp => ?_
    rcases hp with ⟨s', ρ', h1, h2⟩ | ⟨rfl, h1⟩
    · cases e with
      | normal => exact ⟨x, ⟨s', ρ', h1, h2⟩, Nat.lt_succ_self x⟩
      | _ => exact .inl ⟨s', ρ', h1, h2⟩
    · exact .inr ⟨rfl, h1⟩

theorem CvL.same {h : Nat → Option Blk} {dead : Nat → Prop} {ν : Nat → Nat} : ∀ {l : List AV}, CvL h dead ν (renL ν l) l
  | [] => .nil
  | _ :: _ => .cons .same CvL.same
theorem CvL.ren {h : Nat → Option Blk} {dead : Nat → Prop} {ν : Nat → Nat} {x v : List AV} (he : renL ν v = x) : CvL h dead ν x v := by subst he; exact .same
theorem CvB.ren {h : Nat → Option Blk} {dead : Nat → Prop} {ν : Nat → Nat} {x v : Blk} (he : v.ren ν = x) : CvB h dead ν x v := by
  subst he
  cases v with
  | cells e cs => exact .cells .same
  | rows e k rs => exact .rows

inductive FinH (h : List (Nat × Option Blk)) (dead : Nat → Prop) (ν : Nat → Nat) : List (Nat × Option Blk) → Prop
  | nil : FinH h dead ν []
  | cons {i : Nat} {x x' : Blk} {l : List (Nat × Option Blk)} (h1 : hget h (ν i) = some x) (h2 : CvB (hget h) dead ν x x') (h3 : FinH h dead ν l) : FinH h dead ν ((i, some x') :: l)
  | none {i : Nat} {l : List (Nat × Option Blk)} (h3 : FinH h dead ν l) : FinH h dead ν ((i, none) :: l)

theorem FinH.all {h : List (Nat × Option Blk)} {dead : Nat → Prop} {ν : Nat → Nat} : ∀ {l : List (Nat × Option Blk)}, FinH h dead ν l → AllH (fun id x' => ∃ x, hget h (ν id) = some x ∧ CvB (hget h) dead ν x x') l
  | [], _ => trivial
  | (i, some x') :: l, .cons h1 h2 h3 => ⟨⟨_, h1, h2⟩, h3.all⟩
  | (i, Option.none) :: l, .none h3 => h3.all

def vis : List Nat → List (Nat × Option Blk) → List (Nat × Option Blk)
  | _, [] => []
  | seen, (i, b) :: l => bif seen.any (Nat.beq i) then vis seen l else (i, b) :: vis (i :: seen) l

theorem vis_get : ∀ (l : List (Nat × Option Blk)) (seen : List Nat) (id : Nat), seen.any (Nat.beq id) = false → hget (vis seen l) id = hget l id
  | [], _, _, _ => rfl
  | (i, b) :: l, seen, id, hs => by
    simp only [vis]
    cases hi : seen.any (Nat.beq i) with
    | true =>
      simp only [cond_true]
      have hne : i ≠ id := by rintro rfl; rw [hi] at hs; cases hs
      rw [vis_get l seen id hs]
      simp [hget, beq_ne hne]
    | false =>
      simp only [cond_false, hget]
      by_cases h : i = id
      · subst h; simp
      · rw [beq_ne h]
        simp only [cond_false]
        exact vis_get l (i :: seen) id (by simp only [List.any_cons, hs, Bool.or_false]; exact beq_ne (Ne.symm h))

/-- the end of a body that was lent blocks: l: the new names (as the contract has them, as the body has them) -/
theorem finG {P : Program} {n0 : Nat} {s : St} {rl : List ResultVar} {rs : List AV} {h0 : List (Nat × Option Blk)} {nid : List Nat} {v : AV} {puts : List (Nat × Option Blk)} (l : List (Nat × Nat)) (nx : Nat) (hr : ResL P s rl rs) (hl : renOK n0 s.nx nx l = true)
    (hn : Nat.ble n0 nx = true) (hn' : Nat.ble n0 s.nx = true) (hc : Cv (hget s.h) (fun id => ∀ id', (hget (puts ++ h0) id').isSome = true → ren n0 s.nx l id' ≠ id) (ren n0 s.nx l) (tupA rs) v)
    (hh : FinH s.h (fun id => ∀ id', (hget (puts ++ h0) id').isSome = true → ren n0 s.nx l id' ≠ id) (ren n0 s.nx l) (vis [] (puts ++ h0))) : Fin P n0 rl h0 nid v puts s := by
  exact ⟨rs, l, nx, hr, hl, Nat.le_of_ble_eq_true hn, Nat.le_of_ble_eq_true hn', hc, fun id x' hx' => hh.all.get (by rw [vis_get _ _ _ rfl]; exact hx')⟩
end Go.Uw
namespace Go.Uw
section
variable {P : Program} {E : Env} {K : Exit → St → Prop} {s : St}
theorem awp_cond_yes {c : Operand} {x y : Code} {p : Prop} [Decidable p] (hc : evF s.t c = some (bA (decide p))) (hp : p) (h1 : AWP P E x K s) : AWP P E (.cond c x y) K s := awp_cond_dec hc (fun _ => h1) (fun h => absurd hp h)
theorem awp_cond_no {c : Operand} {x y : Code} {p : Prop} [Decidable p] (hc : evF s.t c = some (bA (decide p))) (hp : ¬ p) (h1 : AWP P E y K s) : AWP P E (.cond c x y) K s := awp_cond_dec hc (fun h => absurd h hp) (fun _ => h1)
end
section
variable {P : Program} {nt : Nat} {ops : Array Oper} {rest : List Oper} {t : List (Nat × AV)} {h : List (Nat × Option Blk)} {n : Nat} {K : List Rec → St → Prop}
theorem reg_yes {l : List Oper} (d : Nat) {p : Prop} [Decidable p] (hb : tget t d = some (bA (decide p))) (hp : p) (h1 : Reg P nt ops l ⟨(d, bA true) :: t, h, n⟩ K) : Reg P nt ops l ⟨t, h, n⟩ K := reg_split_dec d hb (fun _ => h1) (fun h => absurd hp h)
theorem reg_no {l : List Oper} (d : Nat) {p : Prop} [Decidable p] (hb : tget t d = some (bA (decide p))) (hp : ¬ p) (h1 : Reg P nt ops l ⟨(d, bA false) :: t, h, n⟩ K) : Reg P nt ops l ⟨t, h, n⟩ K := reg_split_dec d hb (fun h => absurd h hp) (fun _ => h1)
end
end Go.Uw
namespace Go.Uw
theorem fin0' {P : Program} {s : St} {rl : List ResultVar} {rs : List AV} {v : AV} (hr : ResL P s rl rs) (hc : Cv (hget s.h) (fun _ => True) (ren 0 s.nx []) (tupA rs) v) : Fin P 0 rl [] [] v [] s := fin0 hr hc rfl
end Go.Uw
