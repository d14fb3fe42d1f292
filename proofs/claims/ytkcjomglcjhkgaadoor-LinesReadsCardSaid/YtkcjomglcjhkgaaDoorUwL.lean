/- append. Own work. -/
import Derived.Test.YtkcjomglcjhkgaaDoorUwK
set_option linter.unusedVariables false
set_option linter.unusedSimpArgs false
namespace Go.Uw
open Go

section
variable {F : Nat → Prop} {w w1 w2 : World} {ρ : Names} {h : Nat → Option Blk}

theorem happ_append (a b : List (Nat × Option Blk)) (h : Nat → Option Blk) : happ (a ++ b) h = happ a (happ b h) := by
  induction a with
  | nil => rfl
  | cons x l ih => obtain ⟨i, v⟩ := x; funext j; simp only [List.cons_append, happ, ih]

theorem Out.trans {nid1 nid2 : List Nat} {v1 v2 : AV} {p1 p2 : List (Nat × Option Blk)} {u1 u2 : Value} (h1 : Out F w ρ h nid1 v1 p1 w1 u1)
    (h2 : ∀ ρ1, HR F w1 ρ1 (happ p1 h) → (∀ id, id ∉ nid1 → ρ1 id = ρ id) → v1.rep w1 (sh F (own ρ1 (happ p1 h))) ρ1 u1 → Ext w (own ρ h) ρ w1 (own ρ1 (happ p1 h)) ρ1 →
      Out F w1 ρ1 (happ p1 h) nid2 v2 p2 w2 u2) : Out F w ρ h (nid1 ++ nid2) v2 (p2 ++ p1) w2 u2 := by
  obtain ⟨ρ1, a1, a2, a3, a4, a5⟩ := h1
  obtain ⟨ρ2, b1, b2, b3, b4, b5⟩ := h2 ρ1 a1 a4 a2 a3
  rw [← happ_append] at b1 b2 b3 b5
  refine ⟨ρ2, b1, b2, a3.trans b3, fun id hid => ?_, fun id b h3 h4 => ?_⟩
  · simp only [List.mem_append, not_or] at hid
    rw [b4 id hid.2, a4 id hid.1]
  · rcases b5 id b h3 h4 with ⟨id', h5, h6⟩ | h5
    · exact a5 id' b h5 h6
    · exact .inr (Nat.le_trans a3.size h5)

theorem Blk.rep_heap {own : Nat → Prop} {b : Nat} {x : Blk} (he : w1.heap = w.heap) (hx : x.rep w own ρ b) (ho : w1.os = w.os) (ht : w1.tape = w.tape) (hp : w1.output = w.output) : x.rep w1 own ρ b :=
  Blk.rep_ext (own := own) (own' := own) (ρ := ρ) (ρ' := ρ) ⟨ho, ht, hp, by rw [he]; exact Nat.le_refl _, fun b _ hb => ⟨by rw [he], hb⟩, fun b c e hc => ⟨c, by rw [he]; exact hc, rfl⟩, fun _ _ h => h⟩ (by rw [he]) x hx

theorem Out.draw (hh : HR F w ρ h) : Out F w ρ h [] .undef [] w.drew undef := by
  refine ⟨ρ, ⟨fun id x hx => ?_, hh.far, hh.inj, hh.gl⟩, by simp [AV.rep], ⟨rfl, rfl, rfl, Nat.le_refl _, fun b _ hb => ⟨rfl, hb⟩, fun b c e hc => ⟨c, hc, rfl⟩, fun _ _ h => h⟩, fun _ _ => rfl, fun id b h1 h2 => .inl ⟨id, h1, h2⟩⟩
  obtain ⟨n, h1, h2⟩ := hh.blk id x hx
  refine ⟨n, h1, ?_⟩
  cases n with
  | zero => exact h2
  | succ b =>
    have h2' : x.rep w (sh F (own ρ h)) ρ b := h2
    exact Blk.rep_heap (w := w) (w1 := w.drew) rfl h2' rfl rfl rfl

/-- a block let go -/
theorem Out.drop (hh : HR F w ρ h) (id : Nat) : Out F w ρ h [] .undef [(id, none)] w undef := by
  have hsub : ∀ b, own ρ (happ [(id, none)] h) b → own ρ h b := by
    rintro b ⟨i, h1, h2⟩
    by_cases hi : id = i
    · subst hi; simp [happ1_same] at h1
    · rw [happ1_other hi] at h1; exact ⟨i, h1, h2⟩
  have hE : Ext w (own ρ h) ρ w (own ρ (happ [(id, none)] h)) ρ := ⟨rfl, rfl, rfl, Nat.le_refl _, fun b _ hb => ⟨rfl, fun h' => hb (hsub b h')⟩, fun b c e hc => ⟨c, hc, rfl⟩, fun _ _ h => h⟩
  refine ⟨ρ, ⟨fun i x hx => ?_, fun b hb => ⟨(hh.far b hb).1, fun ho => (hh.far b hb).2 (hsub b ho)⟩, fun i i' b h1 h2 => ?_, hh.gl.ext hE.sh⟩, by simp [AV.rep], hE, fun _ _ => rfl, fun i b h1 h2 => .inl (hsub b ⟨i, h1, h2⟩)⟩
  · by_cases hi : id = i
    · subst hi; simp [happ1_same] at hx
    · rw [happ1_other hi] at hx
      obtain ⟨n, h1, h2⟩ := hh.blk i x hx
      refine ⟨n, h1, ?_⟩
      cases n with
      | zero => exact h2
      | succ b => exact Blk.rep_ext hE.sh rfl x h2
  · by_cases hi : id = i
    · subst hi; simp [happ1_same] at h1
    · by_cases hi' : id = i'
      · subst hi'; simp [happ1_same] at h2
      · rw [happ1_other hi] at h1; rw [happ1_other hi'] at h2; exact hh.inj i i' b h1 h2

/-- a block under a new name -/
theorem Out.rename (hh : HR F w ρ h) {id n : Nat} {x : Blk} {m : Nat} (hx : h id = some x) (hid : ρ id = some m) (hn : ρ n = none) {v : AV} {u : Value}
    (hv : ∀ own' ρ', Ext w (sh F (own ρ h)) ρ w own' ρ' → ρ' n = some m → v.rep w own' ρ' u) : Out F w ρ h [n] v [(n, some x), (id, none)] w u := by
  have hne : n ≠ id := by rintro rfl; rw [hn] at hid; cases hid
  have hg : ∀ i, happ [(n, some x), (id, none)] h i = if n = i then some x else if id = i then none else h i := by
    intro i
    by_cases h1 : n = i
    · subst h1; simp [happ]
    · by_cases h2 : id = i
      · subst h2; simp [happ, beq_ne h1, h1]
      · simp [happ, beq_ne h1, beq_ne h2, h1, h2]
  have hlv : ∀ i y, happ [(n, some x), (id, none)] h i = some y → ∃ j, h j = some y ∧ rput ρ n m i = ρ j ∧ (i ≠ n → j = i) ∧ (i = n → j = id) := by
    intro i y hy
    rw [hg] at hy
    by_cases h1 : n = i
    · subst h1
      simp at hy; subst hy
      exact ⟨id, hx, by rw [rput_same, hid], fun h => absurd rfl h, fun _ => rfl⟩
    · rw [if_neg h1] at hy
      by_cases h2 : id = i
      · rw [if_pos h2] at hy; cases hy
      · rw [if_neg h2] at hy
        exact ⟨i, hy, rput_other h1, fun _ => rfl, fun h => absurd h.symm h1⟩
  have hsub : ∀ b, own (rput ρ n m) (happ [(n, some x), (id, none)] h) b → own ρ h b := by
    rintro b ⟨i, h1, h2⟩
    obtain ⟨y, hy⟩ := Option.isSome_iff_exists.1 h1
    obtain ⟨j, h3, h4, _⟩ := hlv i y hy
    exact ⟨j, by simp [h3], by rw [← h4]; exact h2⟩
  have hE : Ext w (own ρ h) ρ w (own (rput ρ n m) (happ [(n, some x), (id, none)] h)) (rput ρ n m) := by
    refine ⟨rfl, rfl, rfl, Nat.le_refl _, fun b _ hb => ⟨rfl, fun h' => hb (hsub b h')⟩, fun b c e hc => ⟨c, hc, rfl⟩, fun i b hi => ?_⟩
    rw [rput_other]; exact hi
    rintro rfl; rw [hn] at hi; cases hi
  refine ⟨rput ρ n m, ⟨fun i y hy => ?_, fun b hb => ⟨(hh.far b hb).1, fun ho => (hh.far b hb).2 (hsub b ho)⟩, fun i i' b h1 h2 h3 h4 => ?_, hh.gl.ext hE.sh⟩, hv _ _ hE.sh rput_same, hE, fun i hi => rput_other (by simpa using Ne.symm (by simpa using hi)), fun i b h1 h2 => .inl (hsub b ⟨i, h1, h2⟩)⟩
  · obtain ⟨j, h3, h4, _⟩ := hlv i y hy
    obtain ⟨k, h5, h6⟩ := hh.blk j y h3
    refine ⟨k, by rw [h4]; exact h5, ?_⟩
    cases k with
    | zero => exact h6
    | succ b => exact Blk.rep_ext hE.sh rfl y h6
  · obtain ⟨y, hy⟩ := Option.isSome_iff_exists.1 h1
    obtain ⟨y', hy'⟩ := Option.isSome_iff_exists.1 h2
    obtain ⟨j, g1, g2, g3, g4⟩ := hlv i y hy
    obtain ⟨j', g5, g6, g7, g8⟩ := hlv i' y' hy'
    have hj := hh.inj j j' b (by simp [g1]) (by simp [g5]) (by rw [← g2]; exact h3) (by rw [← g6]; exact h4)
    by_cases hi : i = n
    · by_cases hi' : i' = n
      · rw [hi, hi']
      · have e1 := g4 hi; have e2 := g7 hi'
        exfalso
        have : h i' = none ∨ True := .inr trivial
        rw [hg, if_neg (fun e => hi' e.symm)] at hy'
        rw [if_pos (by rw [← e1, hj, e2])] at hy'
        cases hy'
    · by_cases hi' : i' = n
      · have e1 := g3 hi; have e2 := g8 hi'
        exfalso
        rw [hg, if_neg (fun e => hi e.symm)] at hy
        rw [if_pos (by rw [← e2, ← hj, e1])] at hy
        cases hy
      · rw [← g3 hi, ← g7 hi', hj]
end

section
variable {P : Program} {dst : Option Tmp} {ty : TypeId} {pos : String} {af : Array Edge} {g : Option (Nat × Bool)}

theorem ownRows_append {w : World} {own : Nat → Prop} {ρ : Names} {k b : Nat} {rs news : List (List FV)} {xs ys : List Value} (hk : ∀ r ∈ rs, r.length = k) (hk' : ∀ r ∈ news, r.length = k)
    (h1 : repL w own ρ (fvs rs.flatten) xs) (h2 : repL w own ρ (fvs news.flatten) ys) (hc : ∀ j v, (xs ++ ys)[j]? = some v → w.cell? ⟨b, 0 + j, none⟩ = some v) : ownRows w own k b 0 (rs ++ news) := by
  refine ownRows_of_flat (ρ := ρ) (vs := xs ++ ys) (fun r hr => ?_) ?_ hc
  · rcases List.mem_append.1 hr with h | h
    · exact hk r h
    · exact hk' r h
  · rw [List.flatten_append, fvs_append]; exact repL_append h1 h2

theorem ownRows_k {w : World} {own : Nat → Prop} {k b : Nat} : ∀ {rs : List (List FV)} {o : Nat}, ownRows w own k b o rs → ∀ r ∈ rs, r.length = k
  | [], o, _, r, hr => by simp at hr
  | r0 :: rs, o, h, r, hr => by
    simp only [ownRows] at h
    rcases List.mem_cons.1 hr with rfl | hr
    · exact h.1
    · exact ownRows_k h.2.2 r hr
theorem repRows_k {w : World} {own : Nat → Prop} {k b : Nat} : ∀ {rs : List (List FV)} {o : Nat}, repRows w own k b o rs → ∀ r ∈ rs, r.length = k
  | [], o, _, r, hr => by simp at hr
  | r0 :: rs, o, h, r, hr => by
    simp only [repRows] at h
    rcases List.mem_cons.1 hr with rfl | hr
    · exact h.1
    · exact repRows_k h.2.2 r hr

/-- what an append does to the heap, its source being some cells 'ys' at 'ad' -/
theorem append_out {T e k n : Nat} {gg : Bool} {zs : List Value} (hT : slB P T = some e) (he : tyB P e = some (gg, k, n)) (hk : 0 < k) (hz : zeroB P e = some zs)
    {F : Nat → Prop} {ρ : Names} {h : Nat → Option Blk} {w : World} (hh : HR F w ρ h) {id m : Nat} {rs news : List (List FV)} (hid : h id = some (.rows e k rs)) (hm : ρ m = none)
    {s : Value} (hs : (AV.rw id k 0 rs.length).rep w (sh F (own ρ h)) ρ s) {ad : Addr} {c : Nat} {ys : List Value} (hy : repL w (sh F (own ρ h)) ρ (fvs news.flatten) ys) (hkn : ∀ r ∈ news, r.length = k) (hyl : ys.length = news.length * k)
    (hyc : ∀ j v, ys[j]? = some v → w.cell? (ad.add j) = some v) (h63 : rs.length + news.length ≤ maxLen) (hb : (rs.length + news.length) * n ≤ 140737488355328) (tt : TypeId) :
    ∃ u w', (Builtin.append_ #[T, T] tt #[s, .slice (some ad) news.length c]).run P w = .ok u w' ∧ Out F w ρ h [m] (.rw m k 0 (rs.length + news.length)) [(m, some (.rows e k (rs ++ news))), (id, none)] w' u := by
  obtain ⟨d, i, h2, h3, h4, h5, h6⟩ := tyB_spec he
  obtain ⟨i', z, h7, h8, h9, h10, h11⟩ := zeroB_spec hz
  rw [h3] at h7; cases h7
  have hTs := slB_spec hT
  subst h5
  subst h6
  have hml : maxLen = 9223372036854775807 := rfl
  obtain ⟨n0, hn0, hblk⟩ := hh.blk id _ hid
  -- a new row: what is in it
  have grown : ∀ (xs : List Value) (old cp : Nat), repL w (sh F (own ρ h)) ρ (fvs rs.flatten) xs → xs.length = rs.length * i.size → (∀ r ∈ rs, r.length = i.size) → rs.length + news.length ≤ cp → cp ≤ maxLen →
      Out F w ρ h [m] (.rw m i.size 0 (rs.length + news.length)) [(m, some (.rows e i.size (rs ++ news))), (id, none)]
        (w.drew.alloc (.cells (xs.toArray ++ ys.toArray ++ Builtin.zeroCells z.cells (cp - (rs.length + news.length))) e (0, 0))) (.slice (some ⟨w.heap.size, 0, none⟩) (rs.length + news.length) cp) := by
    intro xs old cp hx hxl hrk hcp hcm
    have hsz : (xs.toArray ++ ys.toArray ++ Builtin.zeroCells z.cells (cp - (rs.length + news.length))).size = cp * i.size := by
      rw [Array.size_append, Array.size_append, size_zeroCells, h9]
      simp only [List.size_toArray, hxl, hyl, h10, ← Nat.add_mul]
      congr 1; omega
    have o1 : Out F w ρ h [] .undef [(id, none)] w undef := Out.drop hh id
    have o2 : Out F w ρ h ([] ++ []) .undef ([] ++ [(id, none)]) w.drew undef := o1.trans fun ρ1 hh1 _ _ _ => Out.draw hh1
    have o3 := o2.trans (nid2 := [m]) (v2 := .rw m i.size 0 (rs.length + news.length)) (p2 := [(m, some (.rows e i.size (rs ++ news)))])
      (w2 := w.drew.alloc (.cells (xs.toArray ++ ys.toArray ++ Builtin.zeroCells z.cells (cp - (rs.length + news.length))) e (0, 0))) (u2 := .slice (some ⟨w.heap.size, 0, none⟩) (rs.length + news.length) cp) (fun ρ1 hh1 hρ _ hE => by
        have hx1 := repL_ext hE.sh _ _ hx
        have hy1 := repL_ext hE.sh _ _ hy
        refine Out.new hh1 (by rw [hρ m (by simp)]; exact hm) (fun own' ρ' hE' => ?_) (fun own' ρ' hE' hnn => ?_)
        · simp only [Blk.rep]
          refine ⟨_, heap_alloc_new w.drew _, by rw [hsz, List.length_append]; exact Nat.mul_le_mul_right _ hcp, ?_⟩
          refine ownRows_append (ρ := ρ') hrk hkn (repL_ext hE' _ _ hx1) (repL_ext hE' _ _ hy1) fun j v hj => ?_
          rw [Nat.zero_add, cell_of_heap (heap_alloc_new w.drew _)]
          have hlt := (List.getElem?_eq_some_iff.1 hj).1
          rw [Array.getElem?_append_left (by simpa using hlt)]
          simpa using hj
        · simp only [AV.rep]
          exact .inr ⟨w.heap.size, cp, _, e, hnn, by simp, hcp, hcm, ⟨_, heap_alloc_new w.drew _⟩, by rw [hsz, Nat.zero_add]⟩)
    simpa using o3
  simp only [AV.rep] at hs
  rcases hs with ⟨g1, _, g2, rfl⟩ | ⟨b, cap, cc, e', g1, rfl, g2, g3, g4, g5⟩
  · -- nothing yet
    have hrs : rs = [] := List.eq_nil_of_length_eq_zero g2
    subst hrs
    simp only [List.length_nil, Nat.zero_add, List.nil_append] at *
    by_cases hnz : news.length = 0
    · have hnn : news = [] := List.eq_nil_of_length_eq_zero hnz
      subst hnn
      refine ⟨.slice none 0 0, w, ?_, ?_⟩
      · simp [Builtin.append_, run_underlying hTs, sizeOf, typeInfo, h3, Builtin.lenOf, Builtin.firstCells, loadCells, loadCellsFrom]
      · exact Out.rename hh hid g1 hm fun own' ρ' hE' hnn => by simp [AV.rep, hnn]
    · have hr := run_append_nil (P := P) w T tt e i z hTs h3 h8 ad news.length c ys hyl hyc (by omega) (by omega) (by omega)
      have hge := grownCap_ge w news.length 0 e
      have hcm := grownCap_le_maxLen w news.length 0 e h63
      have hg := grown [] 0 (grownCap w news.length 0 e) (by simp [fvs, repL]) (by simp) (by simp) (by simpa using hge) hcm
      refine ⟨_, _, hr, ?_⟩
      simpa using hg
  · rw [hn0] at g1; cases g1
    simp only [Blk.rep] at hblk
    obtain ⟨cur, k1, k2, k3⟩ := hblk
    have hce : cur = cc := by obtain ⟨fz, g4⟩ := g4; rw [k1] at g4; cases g4; rfl
    subst hce
    clear g4
    simp only [Nat.zero_mul, Nat.zero_add] at *
    obtain ⟨xs, x1, x2, x3⟩ := flat_of_ownRows (ρ := ρ) k3
    have hrk := ownRows_k k3
    have hcur : cur.toList.take (rs.length * i.size) = xs := by
      apply List.ext_getElem?
      intro j
      by_cases hj : j < rs.length * i.size
      · rw [List.getElem?_take, if_pos hj]
        have hjx : j < xs.length := by omega
        have := x3 j _ (List.getElem?_eq_getElem hjx)
        rw [Nat.zero_add, cell_of_heap k1] at this
        rw [List.getElem?_eq_getElem hjx, ← this]; simp
      · rw [List.getElem?_eq_none (by simp; omega), List.getElem?_eq_none (by omega)]
    by_cases hroom : rs.length + news.length ≤ cap
    · have hfit : rs.length * i.size + ys.length ≤ cur.size := by rw [hyl, g5, ← Nat.add_mul]; exact Nat.mul_le_mul_right _ hroom
      have hr := run_append_room (P := P) w T tt e i hTs h3 b rs.length cap cur k1 ad news.length c ys hyl hyc (fvs_oneCell hy) hroom hfit
      refine ⟨_, _, hr, ?_⟩
      have hsz : (cur.toList.take (rs.length * i.size) ++ ys ++ cur.toList.drop (rs.length * i.size + ys.length)).toArray.size = cur.size := by simp; omega
      have o1 := Out.set (x := .rows e i.size (rs ++ news)) (v := .undef) (u := undef) hh hid hn0 k1 hsz (fun own' ρ' hE' => by
          simp only [Blk.rep]
          refine ⟨_, setRow_heap w b cur _ e (0, 0) k1, by rw [hsz, List.length_append, Nat.add_mul, ← hyl]; exact hfit, ?_⟩
          refine ownRows_append (ρ := ρ') hrk hkn (repL_ext hE' _ _ x1) (repL_ext hE' _ _ hy) fun j v hj => ?_
          rw [Nat.zero_add, cell_of_heap (setRow_heap w b cur _ e (0, 0) k1), hcur]
          have hlt := (List.getElem?_eq_some_iff.1 hj).1
          simp only [List.getElem?_toArray]
          rw [List.getElem?_append_left (by simpa using hlt)]
          exact hj) (fun _ _ _ => by simp [AV.rep])
      have hcell := setRow_heap w b cur (cur.toList.take (rs.length * i.size) ++ ys ++ cur.toList.drop (rs.length * i.size + ys.length)).toArray e (0, 0) k1
      have o2 := o1.trans (nid2 := [m]) (v2 := .rw m i.size 0 (rs.length + news.length)) (p2 := [(m, some (.rows e i.size (rs ++ news))), (id, none)]) (w2 := w.setRow b _) (u2 := .slice (some ⟨b, 0, none⟩) (rs.length + news.length) cap)
        (fun ρ1 hh1 hρ _ hE => Out.rename hh1 happ1_same (by rw [hρ id (by simp)]; exact hn0) (by rw [hρ m (by simp)]; exact hm) fun own' ρ' hE' hnn => by
          simp only [AV.rep]
          exact .inr ⟨b, cap, _, e, hnn, by simp, hroom, g3, ⟨_, hcell⟩, by rw [hsz, g5, Nat.zero_add]⟩)
      -- the double entry of id is one
      obtain ⟨ρ', p1, p2, p3, p4, p5⟩ := o2
      have hEq : happ ([(m, some (Blk.rows e i.size (rs ++ news))), (id, none)] ++ [(id, some (Blk.rows e i.size (rs ++ news)))]) h = happ [(m, some (.rows e i.size (rs ++ news))), (id, none)] h := by
        funext j
        by_cases hj : id = j
        · subst hj; simp [happ]
        · simp [happ, beq_ne hj]
      rw [hEq] at p1 p2 p3 p5
      exact ⟨ρ', p1, p2, p3, by simpa using p4, p5⟩
    · have hr := run_append_grow (P := P) w T tt e i z hTs h3 h8 ⟨b, 0, none⟩ rs.length cap xs x2 (fun j v hj => by rw [add_none]; exact x3 j v hj) ad news.length c ys hyl hyc (by omega) (by omega) (growslice_fits (by omega) hb)
      have hge := grownCap_ge w (rs.length + news.length) cap e
      have hcm := grownCap_le_maxLen w (rs.length + news.length) cap e h63
      exact ⟨_, _, hr, grown xs cap _ x1 x2 hrk hge hcm⟩
end
end Go.Uw
