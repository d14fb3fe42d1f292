/- A helper text of this claim: lemmas of an abstract machine over the model, or walks in it. Own work of an AI agent. -/
import Derived.Test.YtkcjomglcjhkgaaDoorD22
set_option linter.unusedVariables false
set_option linter.unusedSimpArgs false
namespace Go.Uw.D
open Go Go.Uw Go.Proofs
/-- a text's lines that end, and what is left behind them -/
def linesOf : List UInt8 → List (List UInt8) × List UInt8
  | [] => ([], [])
  | c :: r => if c = 10 then ([] :: (linesOf r).1, (linesOf r).2) else match (linesOf r).1 with
    | [] => ([], c :: (linesOf r).2)
    | w :: ws => ((c :: w) :: ws, (linesOf r).2)
theorem linesOf_word : ∀ (a : List UInt8), (∀ c ∈ a, c ≠ 10) → linesOf a = ([], a)
  | [], _ => rfl
  | c :: a, h => by rw [linesOf, if_neg (h c (by simp)), linesOf_word a fun c' hc => h c' (by simp [hc])]
theorem linesOf_cut : ∀ (a r : List UInt8), (∀ c ∈ a, c ≠ 10) → linesOf (a ++ 10 :: r) = (a :: (linesOf r).1, (linesOf r).2)
  | [], r, _ => by simp [linesOf]
  | c :: a, r, h => by rw [List.cons_append, linesOf, if_neg (h c (by simp)), linesOf_cut a r fun c' hc => h c' (by simp [hc])]
def readGo : List (List UInt8) → List UInt8 → List Ev → List Ev × Int × Int
  | [], [], acc => (acc, 0, 0)
  | [], _ :: _, acc => if acc.length = 4000 then ([], 4000, 9) else ([], acc.length, 3)
  | ln :: ls, r, acc => if acc.length = 4000 then ([], 4000, 9) else if (lineEvR (splitSp ln)).kind = 0 then ([], acc.length, 3) else readGo ls r (acc ++ [lineEvR (splitSp ln)])
def readR (l : List UInt8) : List Ev × Int × Int := if 200000 < l.length then ([], 0, 1) else readGo (linesOf l).1 (linesOf l).2 []
def RdQ (l : List UInt8) (x : Nat × Nat × List Ev) : Prop :=
  x.1 ≤ l.length + 1 ∧ x.2.1 ≤ x.1 ∧ x.2.1 ≤ l.length ∧ x.2.2.length ≤ x.1 ∧ x.2.2.length ≤ 4000 ∧ (∀ c ∈ (l.drop x.2.1).take (x.1 - x.2.1), c ≠ 10) ∧
    readGo (linesOf (l.drop x.2.1)).1 (linesOf (l.drop x.2.1)).2 x.2.2 = readGo (linesOf l).1 (linesOf l).2 [] ∧ (x.1 = l.length + 1 → x.2.1 = l.length)
theorem rd_0 (l : List UInt8) : RdQ l (0, 0, []) := ⟨by simp, Nat.le_refl _, by simp, by simp, by simp, by simp, by simp, fun h => by simp at h⟩
theorem rd_go {l : List UInt8} {x : Nat × Nat × List Ev} (h : RdQ l x) (hi : x.1 < l.length) (hc : l[x.1] ≠ 10) : RdQ l (x.1 + 1, x.2.1, x.2.2) := by
  obtain ⟨h1, h2, h3, h4, h5, h6, h7, h8⟩ := h
  refine ⟨by simp; omega, by simp; omega, h3, by simp; omega, h5, fun c hc' => ?_, h7, fun h => by simp at h; omega⟩
  simp only at hc'
  have e : (l.drop x.2.1).take (x.1 + 1 - x.2.1) = (l.drop x.2.1).take (x.1 - x.2.1) ++ [l[x.1]] := by
    rw [show x.1 + 1 - x.2.1 = (x.1 - x.2.1) + 1 by omega, take_snoc (by simp; omega)]
    simp [show x.2.1 + (x.1 - x.2.1) = x.1 by omega]
  rw [e] at hc'
  rcases List.mem_append.1 hc' with hc' | hc'
  · exact h6 c hc'
  · have : c = l[x.1] := by simpa using hc'
    rw [this]; exact hc
theorem rd_skip {l : List UInt8} {x : Nat × Nat × List Ev} (h : RdQ l x) (hi : x.1 = l.length) (hf : x.2.1 = l.length) : RdQ l (x.1 + 1, x.2.1, x.2.2) := by
  obtain ⟨h1, h2, h3, h4, h5, h6, h7, h8⟩ := h
  exact ⟨by simp; omega, by simp; omega, h3, by simp; omega, h5, by rw [hf]; simp, h7, fun _ => hf⟩
/-- the line that ends here -/
theorem rd_at {l : List UInt8} {x : Nat × Nat × List Ev} (h : RdQ l x) (hi : x.1 < l.length) (hc : l[x.1] = 10) :
    readGo ((l.drop x.2.1).take (x.1 - x.2.1) :: (linesOf (l.drop (x.1 + 1))).1) (linesOf (l.drop (x.1 + 1))).2 x.2.2 = readGo (linesOf l).1 (linesOf l).2 [] := by
  obtain ⟨h1, h2, h3, h4, h5, h6, h7, h8⟩ := h
  have e := linesOf_cut _ (l.drop (x.1 + 1)) h6
  rw [← hc, ← drop_split h2 hi] at e
  rw [← h7, e]
theorem rd_line {l : List UInt8} {x : Nat × Nat × List Ev} (h : RdQ l x) (hi : x.1 < l.length) (hc : l[x.1] = 10) (hn : x.2.2.length ≠ 4000) (hk : (lineEvR (splitSp ((l.drop x.2.1).take (x.1 - x.2.1)))).kind ≠ 0) :
    RdQ l (x.1 + 1, x.1 + 1, x.2.2 ++ [lineEvR (splitSp ((l.drop x.2.1).take (x.1 - x.2.1)))]) := by
  have e := rd_at h hi hc
  obtain ⟨h1, h2, h3, h4, h5, h6, h7, h8⟩ := h
  refine ⟨by simp; omega, Nat.le_refl _, by simp; omega, by simp; omega, by simp; omega, by simp, ?_, fun h => by simp at h; omega⟩
  rw [← e]
  simp only [readGo]
  rw [if_neg hn, if_neg hk]
theorem rd_rest {l : List UInt8} {x : Nat × Nat × List Ev} (h : RdQ l x) (hl : ¬ 200000 < (l.length : Int)) (hi : x.1 = l.length) (hf : x.2.1 ≠ l.length) : readR l = if x.2.2.length = 4000 then ([], 4000, 9) else ([], (x.2.2.length : Int), 3) := by
  obtain ⟨h1, h2, h3, h4, h5, h6, h7, h8⟩ := h
  rw [List.take_of_length_le (by simp; omega)] at h6
  rw [readR, if_neg (by omega), ← h7, linesOf_word _ h6]
  cases hd : l.drop x.2.1 with
  | nil => have := List.drop_eq_nil_iff.1 hd; omega
  | cons c r => rw [readGo]
theorem rd_full {l : List UInt8} {x : Nat × Nat × List Ev} (h : RdQ l x) (hl : ¬ 200000 < (l.length : Int)) (hi : x.1 < l.length) (hc : l[x.1] = 10) (hn : x.2.2.length = 4000) : readR l = ([], 4000, 9) := by
  rw [readR, if_neg (by omega), ← rd_at h hi hc, readGo, if_pos hn]
theorem rd_form {l : List UInt8} {x : Nat × Nat × List Ev} (h : RdQ l x) (hl : ¬ 200000 < (l.length : Int)) (hi : x.1 < l.length) (hc : l[x.1] = 10) (hn : x.2.2.length ≠ 4000) (hk : (lineEvR (splitSp ((l.drop x.2.1).take (x.1 - x.2.1)))).kind = 0) : readR l = ([], (x.2.2.length : Int), 3) := by
  rw [readR, if_neg (by omega), ← rd_at h hi hc, readGo, if_neg hn, if_pos hk]
theorem rd_done {l : List UInt8} {x : Nat × Nat × List Ev} (h : RdQ l x) (hl : ¬ 200000 < (l.length : Int)) (hi : ¬ (x.1 : Int) ≤ (l.length : Int)) : readR l = (x.2.2, 0, 0) := by
  obtain ⟨h1, h2, h3, h4, h5, h6, h7, h8⟩ := h
  rw [readR, if_neg (by omega), ← h7, h8 (by omega), List.drop_length]
  rfl
theorem u8_10 {c : UInt8} (h : ¬ ¬ (c.toNat : Int) = 10) : c = 10 := by
  apply UInt8.toNat_inj.1
  have := Classical.not_not.1 h
  simpa using (by omega : c.toNat = 10)
theorem ne10 {c : UInt8} (h : ¬ (c.toNat : Int) = 10) : c ≠ 10 := by rintro rfl; exact h rfl

set_option maxRecDepth 100000 in
theorem eventsRead_ok (l : List UInt8) : Fun Tryd.prog 10 [sA l] [] [] (.tup [.fv (.ro 8 ((readR l).1.map encEv)), iA (readR l).2.1, iA (readR l).2.2]) [] := by
  refine fun_of_awp (rl := [.tmp 2, .tmp 3, .tmp 4]) Tryd.func10 rfl Tryd.results10 Tryd.ntmps10 0 rfl (by simp) ?_
  intro w0 own0 ρ0 F hz
  refine awp_seq ?_
  refine awp_region ?_
  refine r_as rfl trivial rfl ?_
  refine r_as rfl trivial rfl ?_
  refine r_as rfl trivial rfl ?_
  refine reg_nil ?_
  refine awp_seq ?_
  refine awp_seq ?_
  refine awp_region ?_
  refine r_mv rfl trivial rfl ?_
  refine r_lens us_9 rfl trivial rfl ?_
  refine r_gtr rfl rfl trivial rfl ?_
  refine reg_nil ?_
  first | refine awp_cond_dec rfl (fun h1 => ?_) (fun h1 => ?_) | refine awp_cond rfl (fun h1 => ?_) (fun h1 => ?_)
  · refine awp_seq ?_
    refine awp_region ?_
    refine r_as rfl trivial rfl ?_
    refine r_as rfl trivial rfl ?_
    refine r_as rfl trivial rfl ?_
    refine reg_nil ?_
    refine awp_ret ?_
    refine fin0 (.cons (.tmp rfl) (.cons (.tmp rfl) (.cons (.tmp rfl) .nil))) (.tup (.cons (Cv.nil (k := 8)) (.cons .fv (.cons .fv .nil)))) ?_
    (rw [readR, if_pos (by omega)]; rfl)
  · refine awp_skip ?_
    refine awp_seq ?_
    refine awp_region ?_
    refine r_as rfl trivial rfl ?_
    refine reg_nil ?_
    refine awp_seq ?_
    refine awp_region ?_
    refine r_as rfl trivial rfl ?_
    refine reg_nil ?_
    refine awp_seq ?_
    refine awp_seq ?_
    refine awp_region ?_
    refine r_as rfl trivial rfl ?_
    refine reg_nil ?_
    refine awp_block ?_
    refine awp_le (le_virt (d := 5) 37 8 rfl) ?_
    refine awp_loopQ (X := Nat × Nat × List Ev) (RdQ l) (fun x => ⟨[(0, sA l), (5, .rw 0 8 0 x.2.2.length), (6, iA x.2.1), (7, iA x.1)], [(0, some (.rows 37 8 (x.2.2.map encEv)))], 1⟩) (fun x => l.length + 1 - x.1) (0, 0, []) ?_ ?_ ?_
    · exact rd_0 l
    · exact le_mk [(0, 0)] rfl hz (Nat.zero_le _) ⟨⟨_, rfl, .fv⟩, ⟨_, rfl, .ren rfl⟩, ⟨_, rfl, .fv⟩, ⟨_, rfl, .fv⟩, trivial⟩ ⟨⟨_, rfl, .ren rfl⟩, trivial⟩
    · intro x hx
      have hx1 := hx.1
      have hx2 := hx.2.1
      have hx3 := hx.2.2.1
      have hx4 := hx.2.2.2.1
      have hx5 := hx.2.2.2.2.1
      have hget : ∀ h : x.1 < l.length, l[((x.1 : Nat) : Int).toNat]? = some l[x.1] := fun h => by simp [h]
      refine awp_seq ?_
      refine awp_seq ?_
      refine awp_region ?_
      refine r_mv rfl trivial rfl ?_
      refine r_mv rfl trivial rfl ?_
      refine r_lens us_9 rfl trivial rfl ?_
      refine r_leq rfl rfl trivial rfl ?_
      refine reg_nil ?_
      first | refine awp_cond_dec rfl (fun h2 => ?_) (fun h2 => ?_) | refine awp_cond rfl (fun h2 => ?_) (fun h2 => ?_)
      · refine awp_skip ?_
        refine awp_seq ?_
        refine awp_block ?_
        refine awp_seq ?_
        refine awp_seq ?_
        refine awp_region ?_
        refine r_mv rfl trivial rfl ?_
        refine r_mv rfl trivial rfl ?_
        refine r_lens us_9 rfl trivial rfl ?_
        refine r_lss rfl rfl trivial rfl ?_
        refine r_mv rfl trivial rfl ?_
        first | refine reg_split_dec 22 rfl (fun h3 => ?_) (fun h3 => ?_) | refine reg_split 22 rfl (fun h3 => ?_) (fun h3 => ?_)
        · refine r_mv rfl ⟨_, rfl, rfl⟩ rfl ?_
          refine r_mv rfl ⟨_, rfl, rfl⟩ rfl ?_
          refine r_ixs us_9 rfl rfl (by omega) (hget (by omega)) ⟨_, rfl, rfl⟩ rfl ?_
          refine r_nei rfl rfl ⟨_, rfl, rfl⟩ rfl ?_
          refine r_pkt rfl rfl trivial rfl ?_
          refine r_mv rfl trivial rfl ?_
          first | refine reg_split_dec 28 rfl (fun h4 => ?_) (fun h4 => ?_) | refine reg_split 28 rfl (fun h4 => ?_) (fun h4 => ?_)
          · refine r_skip ⟨_, rfl, .inl rfl⟩ rfl ?_
            refine r_skip ⟨_, rfl, .inl rfl⟩ rfl ?_
            refine r_skip ⟨_, rfl, .inl rfl⟩ rfl ?_
            refine r_skip ⟨_, rfl, .inl rfl⟩ rfl ?_
            refine r_skip ⟨_, rfl, .inl rfl⟩ rfl ?_
            refine r_skip ⟨_, rfl, .inr rfl⟩ rfl ?_
            refine r_skip ⟨_, rfl, .inr rfl⟩ rfl ?_
            refine r_skip ⟨_, rfl, .inr rfl⟩ rfl ?_
            refine r_skip ⟨_, rfl, .inr rfl⟩ rfl ?_
            refine r_skip ⟨_, rfl, .inl rfl⟩ rfl ?_
            refine r_pkt rfl rfl trivial rfl ?_
            refine reg_nil ?_
            refine awp_cond_t rfl ?_
            refine awp_exit ?_
            refine awp_region ?_
            refine r_mv rfl trivial rfl ?_
            refine r_add rfl rfl (rng64 (by omega)) trivial rfl ?_
            refine r_as rfl trivial rfl ?_
            refine reg_nil ?_
            first | exact ⟨_, rd_go hx (by omega) (ne10 (by assumption)), le_mk [(0, 0)] rfl hz (Nat.zero_le _) ⟨⟨_, rfl, .fv⟩, ⟨_, rfl, .ren (by simp [AV.ren, ren] <;> rfl)⟩, ⟨_, rfl, .fv⟩, ⟨_, rfl, .fv⟩, trivial⟩ ⟨⟨_, rfl, .ren (by simp [Blk.ren] <;> rfl)⟩, trivial⟩, (show l.length + 1 - (x.1 + 1) < l.length + 1 - x.1 by have := hx.1; omega)⟩ | exact ⟨_, rd_skip hx (by omega) (by omega), le_mk [(0, 0)] rfl hz (Nat.zero_le _) ⟨⟨_, rfl, .fv⟩, ⟨_, rfl, .ren (by simp [AV.ren, ren] <;> rfl)⟩, ⟨_, rfl, .fv⟩, ⟨_, rfl, .fv⟩, trivial⟩ ⟨⟨_, rfl, .ren (by simp [Blk.ren] <;> rfl)⟩, trivial⟩, (show l.length + 1 - (x.1 + 1) < l.length + 1 - x.1 by have := hx.1; omega)⟩ | exact ⟨_, rd_line hx (by omega) (u8_10 (by assumption)) (by omega) (by simpa using (by assumption)), le_mk [(0, 3)] rfl hz (Nat.zero_le _) ⟨⟨_, rfl, .fv⟩, ⟨_, rfl, .ren (by simp [AV.ren, ren] <;> rfl)⟩, ⟨_, rfl, .fv⟩, ⟨_, rfl, .fv⟩, trivial⟩ ⟨⟨_, rfl, .ren (by simp [Blk.ren] <;> rfl)⟩, trivial⟩, (show l.length + 1 - (x.1 + 1) < l.length + 1 - x.1 by have := hx.1; omega)⟩
          · refine r_mv rfl ⟨_, rfl, rfl⟩ rfl ?_
            refine r_mv rfl ⟨_, rfl, rfl⟩ rfl ?_
            refine r_lens us_9 rfl ⟨_, rfl, rfl⟩ rfl ?_
            refine r_eqi rfl rfl ⟨_, rfl, rfl⟩ rfl ?_
            refine r_mv rfl ⟨_, rfl, rfl⟩ rfl ?_
            refine reg_no 33 rfl (by omega) ?_
            refine r_skip ⟨_, rfl, .inl rfl⟩ rfl ?_
            refine r_skip ⟨_, rfl, .inl rfl⟩ rfl ?_
            refine r_skip ⟨_, rfl, .inl rfl⟩ rfl ?_
            refine r_skip ⟨_, rfl, .inl rfl⟩ rfl ?_
            refine r_pkf rfl rfl ⟨_, rfl, rfl⟩ rfl ?_
            refine r_pkf rfl rfl trivial rfl ?_
            refine reg_nil ?_
            refine awp_cond_f rfl ?_
            refine awp_skip ?_
            refine awp_seq ?_
            refine awp_seq ?_
            refine awp_region ?_
            refine r_mv rfl trivial rfl ?_
            first | refine r_lenr sl_22 rfl trivial rfl ?_ | refine r_lenw sl_22 rfl trivial rfl ?_ | refine r_len0 sl_22 rfl trivial rfl ?_
            refine r_eqi rfl rfl trivial rfl ?_
            refine reg_nil ?_
            first | refine awp_cond_dec rfl (fun h5 => ?_) (fun h5 => ?_) | refine awp_cond rfl (fun h5 => ?_) (fun h5 => ?_)
            · refine awp_seq ?_
              refine awp_region ?_
              refine r_as rfl trivial rfl ?_
              refine r_as rfl trivial rfl ?_
              refine r_as rfl trivial rfl ?_
              refine reg_nil ?_
              refine awp_ret ?_
              refine fin0 (.cons (.tmp rfl) (.cons (.tmp rfl) (.cons (.tmp rfl) .nil))) (.tup (.cons (Cv.nil (k := 8)) (.cons .fv (.cons .fv .nil)))) ?_
              (rw [rd_full hx h1 (by omega) (u8_10 (by assumption)) (by omega)]; rfl)
            · refine awp_skip ?_
              refine awp_seq ?_
              refine awp_region ?_
              refine r_mv rfl trivial rfl ?_
              refine r_mv rfl trivial rfl ?_
              refine r_mv rfl trivial rfl ?_
              refine r_cutslh us_9 rfl rfl rfl (by omega) (by omega) (by omega) trivial rfl ?_
              refine r_call (lineEvent_ok ((l.drop ((x.2.1 : Nat) : Int).toNat).take (((x.1 : Nat) : Int).toNat - ((x.2.1 : Nat) : Int).toNat)) (by simp; omega)) cb_19 rfl rfl rfl ?_ trivial rfl ?_
              · (repeat (first | exact .nil | refine .cons .fv ?_ | refine .cons (.aggf' rfl) ?_ | refine .cons .nil ?_ | refine .cons (.ren rfl) ?_))
              refine r_alloc z_37 rfl trivial rfl ?_
              first | refine r_st ty_37 rfl rfl rfl rfl rfl rfl rfl trivial ?_ | refine r_sto ty_37 rfl rfl rfl rfl (by first | rfl | assumption) rfl rfl trivial ?_
              refine reg_nil ?_
              refine awp_seq ?_
              refine awp_seq ?_
              refine awp_region ?_
              first | refine r_fld fld_37_0 rfl trivial rfl ?_ | refine r_fldr fld_37_0 rfl trivial rfl ?_
              first | refine r_ld ty_3 rfl rfl rfl trivial rfl ?_ | refine r_ldr ty_3 rfl rfl trivial rfl ?_ | refine r_ldo ty_3 rfl rfl (by first | rfl | assumption) rfl trivial rfl ?_
              refine r_eqi rfl rfl trivial rfl ?_
              refine r_mv rfl trivial rfl ?_
              first | refine reg_split_dec 51 rfl (fun h6 => ?_) (fun h6 => ?_) | refine reg_split 51 rfl (fun h6 => ?_) (fun h6 => ?_)
              · refine r_skip ⟨_, rfl, .inl rfl⟩ rfl ?_
                refine r_skip ⟨_, rfl, .inl rfl⟩ rfl ?_
                refine r_skip ⟨_, rfl, .inl rfl⟩ rfl ?_
                refine r_skip ⟨_, rfl, .inl rfl⟩ rfl ?_
                refine r_pkt rfl rfl trivial rfl ?_
                refine reg_nil ?_
                refine awp_cond_t rfl ?_
                refine awp_seq ?_
                refine awp_region ?_
                refine r_mv rfl trivial rfl ?_
                first | refine r_lenr sl_22 rfl trivial rfl ?_ | refine r_lenw sl_22 rfl trivial rfl ?_ | refine r_len0 sl_22 rfl trivial rfl ?_
                refine r_as rfl trivial rfl ?_
                refine r_as rfl trivial rfl ?_
                refine r_as rfl trivial rfl ?_
                refine reg_nil ?_
                refine awp_ret ?_
                refine fin0 (.cons (.tmp rfl) (.cons (.tmp rfl) (.cons (.tmp rfl) .nil))) (.tup (.cons (Cv.nil (k := 8)) (.cons .fv (.cons .fv .nil)))) ?_
                (rw [rd_form hx h1 (by omega) (u8_10 (by assumption)) (by omega) (by simpa using (by assumption))]; rfl)
              · refine r_mv rfl ⟨_, rfl, rfl⟩ rfl ?_
                refine r_mv rfl ⟨_, rfl, rfl⟩ rfl ?_
                refine r_lens us_9 rfl ⟨_, rfl, rfl⟩ rfl ?_
                refine r_eqi rfl rfl ⟨_, rfl, rfl⟩ rfl ?_
                refine r_pkf rfl rfl trivial rfl ?_
                refine reg_nil ?_
                refine awp_cond_no rfl (by omega) ?_
                refine awp_skip ?_
                refine awp_seq ?_
                refine awp_region ?_
                refine r_mv rfl trivial rfl ?_
                first | refine r_lda ty_37 rfl rfl rfl rfl trivial rfl ?_ | refine r_ldra ty_37 rfl rfl rfl trivial rfl ?_ | refine r_ldoa ty_37 rfl rfl (by first | rfl | assumption) rfl rfl trivial rfl ?_
                refine r_bslice (rs := [[_, _, _, _, _, _, _, _]]) sl_22 ty_37 rfl z_37 rfl rfl rfl rfl rfl rfl rfl trivial rfl ?_
                first | refine r_appr sl_22 ty_37 rfl z_37 rfl rfl rfl (by simp) (by simp [maxLen_eq]; omega) (by simp; omega) trivial rfl ?_ | refine r_appw sl_22 ty_37 rfl z_37 rfl rfl rfl rfl (by simp) rfl rfl (by simp [maxLen_eq]; omega) (by simp; omega) trivial rfl ?_
                refine r_as rfl trivial rfl ?_
                refine reg_nil ?_
                refine awp_region ?_
                refine r_mv rfl trivial rfl ?_
                refine r_add rfl rfl (rng64 (by omega)) trivial rfl ?_
                refine r_as rfl trivial rfl ?_
                refine reg_nil ?_
                refine awp_region ?_
                refine r_mv rfl trivial rfl ?_
                refine r_add rfl rfl (rng64 (by omega)) trivial rfl ?_
                refine r_as rfl trivial rfl ?_
                refine reg_nil ?_
                first | exact ⟨_, rd_go hx (by omega) (ne10 (by assumption)), le_mk [(0, 0)] rfl hz (Nat.zero_le _) ⟨⟨_, rfl, .fv⟩, ⟨_, rfl, .ren (by simp [AV.ren, ren] <;> rfl)⟩, ⟨_, rfl, .fv⟩, ⟨_, rfl, .fv⟩, trivial⟩ ⟨⟨_, rfl, .ren (by simp [Blk.ren] <;> rfl)⟩, trivial⟩, (show l.length + 1 - (x.1 + 1) < l.length + 1 - x.1 by have := hx.1; omega)⟩ | exact ⟨_, rd_skip hx (by omega) (by omega), le_mk [(0, 0)] rfl hz (Nat.zero_le _) ⟨⟨_, rfl, .fv⟩, ⟨_, rfl, .ren (by simp [AV.ren, ren] <;> rfl)⟩, ⟨_, rfl, .fv⟩, ⟨_, rfl, .fv⟩, trivial⟩ ⟨⟨_, rfl, .ren (by simp [Blk.ren] <;> rfl)⟩, trivial⟩, (show l.length + 1 - (x.1 + 1) < l.length + 1 - x.1 by have := hx.1; omega)⟩ | exact ⟨_, rd_line hx (by omega) (u8_10 (by assumption)) (by omega) (by simpa using (by assumption)), le_mk [(0, 3)] rfl hz (Nat.zero_le _) ⟨⟨_, rfl, .fv⟩, ⟨_, rfl, .ren (by simp [AV.ren, ren] <;> rfl)⟩, ⟨_, rfl, .fv⟩, ⟨_, rfl, .fv⟩, trivial⟩ ⟨⟨_, rfl, .ren (by simp [Blk.ren] <;> rfl)⟩, trivial⟩, (show l.length + 1 - (x.1 + 1) < l.length + 1 - x.1 by have := hx.1; omega)⟩
        · refine r_skip ⟨_, rfl, .inl rfl⟩ rfl ?_
          refine r_skip ⟨_, rfl, .inl rfl⟩ rfl ?_
          refine r_skip ⟨_, rfl, .inl rfl⟩ rfl ?_
          refine r_skip ⟨_, rfl, .inl rfl⟩ rfl ?_
          refine r_pkf rfl rfl trivial rfl ?_
          refine r_mv rfl trivial rfl ?_
          refine r_mv rfl ⟨_, rfl, rfl⟩ rfl ?_
          refine r_mv rfl ⟨_, rfl, rfl⟩ rfl ?_
          refine r_lens us_9 rfl ⟨_, rfl, rfl⟩ rfl ?_
          refine r_eqi rfl rfl ⟨_, rfl, rfl⟩ rfl ?_
          refine r_mv rfl ⟨_, rfl, rfl⟩ rfl ?_
          refine reg_yes 33 rfl (by omega) ?_
          refine r_mv rfl ⟨_, rfl, rfl⟩ rfl ?_
          refine r_mv rfl ⟨_, rfl, rfl⟩ rfl ?_
          refine r_lens us_9 rfl ⟨_, rfl, rfl⟩ rfl ?_
          refine r_eqi rfl rfl ⟨_, rfl, rfl⟩ rfl ?_
          refine r_pkt rfl rfl ⟨_, rfl, rfl⟩ rfl ?_
          refine r_pkf rfl rfl trivial rfl ?_
          refine reg_nil ?_
          first | refine awp_cond_dec rfl (fun h7 => ?_) (fun h7 => ?_) | refine awp_cond rfl (fun h7 => ?_) (fun h7 => ?_)
          · refine awp_exit ?_
            refine awp_region ?_
            refine r_mv rfl trivial rfl ?_
            refine r_add rfl rfl (rng64 (by omega)) trivial rfl ?_
            refine r_as rfl trivial rfl ?_
            refine reg_nil ?_
            first | exact ⟨_, rd_go hx (by omega) (ne10 (by assumption)), le_mk [(0, 0)] rfl hz (Nat.zero_le _) ⟨⟨_, rfl, .fv⟩, ⟨_, rfl, .ren (by simp [AV.ren, ren] <;> rfl)⟩, ⟨_, rfl, .fv⟩, ⟨_, rfl, .fv⟩, trivial⟩ ⟨⟨_, rfl, .ren (by simp [Blk.ren] <;> rfl)⟩, trivial⟩, (show l.length + 1 - (x.1 + 1) < l.length + 1 - x.1 by have := hx.1; omega)⟩ | exact ⟨_, rd_skip hx (by omega) (by omega), le_mk [(0, 0)] rfl hz (Nat.zero_le _) ⟨⟨_, rfl, .fv⟩, ⟨_, rfl, .ren (by simp [AV.ren, ren] <;> rfl)⟩, ⟨_, rfl, .fv⟩, ⟨_, rfl, .fv⟩, trivial⟩ ⟨⟨_, rfl, .ren (by simp [Blk.ren] <;> rfl)⟩, trivial⟩, (show l.length + 1 - (x.1 + 1) < l.length + 1 - x.1 by have := hx.1; omega)⟩ | exact ⟨_, rd_line hx (by omega) (u8_10 (by assumption)) (by omega) (by simpa using (by assumption)), le_mk [(0, 3)] rfl hz (Nat.zero_le _) ⟨⟨_, rfl, .fv⟩, ⟨_, rfl, .ren (by simp [AV.ren, ren] <;> rfl)⟩, ⟨_, rfl, .fv⟩, ⟨_, rfl, .fv⟩, trivial⟩ ⟨⟨_, rfl, .ren (by simp [Blk.ren] <;> rfl)⟩, trivial⟩, (show l.length + 1 - (x.1 + 1) < l.length + 1 - x.1 by have := hx.1; omega)⟩
          · refine awp_skip ?_
            refine awp_seq ?_
            refine awp_seq ?_
            refine awp_region ?_
            refine r_mv rfl trivial rfl ?_
            first | refine r_lenr sl_22 rfl trivial rfl ?_ | refine r_lenw sl_22 rfl trivial rfl ?_ | refine r_len0 sl_22 rfl trivial rfl ?_
            refine r_eqi rfl rfl trivial rfl ?_
            refine reg_nil ?_
            first | refine awp_cond_dec rfl (fun h8 => ?_) (fun h8 => ?_) | refine awp_cond rfl (fun h8 => ?_) (fun h8 => ?_)
            · refine awp_seq ?_
              refine awp_region ?_
              refine r_as rfl trivial rfl ?_
              refine r_as rfl trivial rfl ?_
              refine r_as rfl trivial rfl ?_
              refine reg_nil ?_
              refine awp_ret ?_
              refine fin0 (.cons (.tmp rfl) (.cons (.tmp rfl) (.cons (.tmp rfl) .nil))) (.tup (.cons (Cv.nil (k := 8)) (.cons .fv (.cons .fv .nil)))) ?_
              (rw [rd_rest hx h1 (by omega) (by omega), if_pos (by omega)]; rfl)
            · refine awp_skip ?_
              refine awp_seq ?_
              refine awp_region ?_
              refine r_mv rfl trivial rfl ?_
              refine r_mv rfl trivial rfl ?_
              refine r_mv rfl trivial rfl ?_
              refine r_cutslh us_9 rfl rfl rfl (by omega) (by omega) (by omega) trivial rfl ?_
              refine r_call (lineEvent_ok ((l.drop ((x.2.1 : Nat) : Int).toNat).take (((x.1 : Nat) : Int).toNat - ((x.2.1 : Nat) : Int).toNat)) (by simp; omega)) cb_19 rfl rfl rfl ?_ trivial rfl ?_
              · (repeat (first | exact .nil | refine .cons .fv ?_ | refine .cons (.aggf' rfl) ?_ | refine .cons .nil ?_ | refine .cons (.ren rfl) ?_))
              refine r_alloc z_37 rfl trivial rfl ?_
              first | refine r_st ty_37 rfl rfl rfl rfl rfl rfl rfl trivial ?_ | refine r_sto ty_37 rfl rfl rfl rfl (by first | rfl | assumption) rfl rfl trivial ?_
              refine reg_nil ?_
              refine awp_seq ?_
              refine awp_seq ?_
              refine awp_region ?_
              first | refine r_fld fld_37_0 rfl trivial rfl ?_ | refine r_fldr fld_37_0 rfl trivial rfl ?_
              first | refine r_ld ty_3 rfl rfl rfl trivial rfl ?_ | refine r_ldr ty_3 rfl rfl trivial rfl ?_ | refine r_ldo ty_3 rfl rfl (by first | rfl | assumption) rfl trivial rfl ?_
              refine r_eqi rfl rfl trivial rfl ?_
              refine r_mv rfl trivial rfl ?_
              first | refine reg_split_dec 51 rfl (fun h9 => ?_) (fun h9 => ?_) | refine reg_split 51 rfl (fun h9 => ?_) (fun h9 => ?_)
              · refine r_skip ⟨_, rfl, .inl rfl⟩ rfl ?_
                refine r_skip ⟨_, rfl, .inl rfl⟩ rfl ?_
                refine r_skip ⟨_, rfl, .inl rfl⟩ rfl ?_
                refine r_skip ⟨_, rfl, .inl rfl⟩ rfl ?_
                refine r_pkt rfl rfl trivial rfl ?_
                refine reg_nil ?_
                refine awp_cond_t rfl ?_
                refine awp_seq ?_
                refine awp_region ?_
                refine r_mv rfl trivial rfl ?_
                first | refine r_lenr sl_22 rfl trivial rfl ?_ | refine r_lenw sl_22 rfl trivial rfl ?_ | refine r_len0 sl_22 rfl trivial rfl ?_
                refine r_as rfl trivial rfl ?_
                refine r_as rfl trivial rfl ?_
                refine r_as rfl trivial rfl ?_
                refine reg_nil ?_
                refine awp_ret ?_
                refine fin0 (.cons (.tmp rfl) (.cons (.tmp rfl) (.cons (.tmp rfl) .nil))) (.tup (.cons (Cv.nil (k := 8)) (.cons .fv (.cons .fv .nil)))) ?_
                (rw [rd_rest hx h1 (by omega) (by omega), if_neg (by omega)]; rfl)
              · refine r_mv rfl ⟨_, rfl, rfl⟩ rfl ?_
                refine r_mv rfl ⟨_, rfl, rfl⟩ rfl ?_
                refine r_lens us_9 rfl ⟨_, rfl, rfl⟩ rfl ?_
                refine r_eqi rfl rfl ⟨_, rfl, rfl⟩ rfl ?_
                refine r_pkf rfl rfl trivial rfl ?_
                refine reg_nil ?_
                refine awp_cond_yes rfl (by omega) ?_
                refine awp_seq ?_
                refine awp_region ?_
                refine r_mv rfl trivial rfl ?_
                first | refine r_lenr sl_22 rfl trivial rfl ?_ | refine r_lenw sl_22 rfl trivial rfl ?_ | refine r_len0 sl_22 rfl trivial rfl ?_
                refine r_as rfl trivial rfl ?_
                refine r_as rfl trivial rfl ?_
                refine r_as rfl trivial rfl ?_
                refine reg_nil ?_
                refine awp_ret ?_
                refine fin0 (.cons (.tmp rfl) (.cons (.tmp rfl) (.cons (.tmp rfl) .nil))) (.tup (.cons (Cv.nil (k := 8)) (.cons .fv (.cons .fv .nil)))) ?_
                (rw [rd_rest hx h1 (by omega) (by omega), if_neg (by omega)]; rfl)
      · refine awp_exit ?_
        refine awp_seq ?_
        refine awp_region ?_
        refine r_mv rfl trivial rfl ?_
        refine r_as rfl trivial rfl ?_
        refine r_as rfl trivial rfl ?_
        refine r_as rfl trivial rfl ?_
        refine reg_nil ?_
        refine awp_ret ?_
        refine fin0 (.cons (.tmp rfl) (.cons (.tmp rfl) (.cons (.tmp rfl) .nil))) (.tup (.cons (.frz rfl (by simp) trivial) (.cons .fv (.cons .fv .nil)))) ?_
        (rw [rd_done hx h1 (by assumption)])
end Go.Uw.D
