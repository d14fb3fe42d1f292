/- A helper text of this claim: lemmas of an abstract machine over the model, or walks in it. Own work of an AI agent. -/
import Derived.Test.YtkcjomglcjhkgaaDoorD13
import Derived.Test.YtkcjomglcjhkgaaDoorD31
import Derived.Test.YtkcjomglcjhkgaaDoorD22
import Derived.Test.YtkcjomglcjhkgaaDoorD23
set_option linter.unusedVariables false
set_option linter.unusedSimpArgs false
namespace Go.Uw.D
open Go Go.Uw Go.Proofs
theorem pline_ok (e : Ev) (h : checkEv e = 0) : Fun Tryd.prog 13 [.agg (fvs (encEv e))] [] [] (sA (lineL e ++ [10])) [] := by
  have hc := ev_cases e h
  obtain ⟨kind, key, slot, gen, good, request, backend, weight⟩ := e
  simp only at hc
  rcases hc with ⟨rfl, h1, h2⟩ | ⟨hk, h1, h2⟩ | ⟨rfl, h1, h2, h3⟩ | ⟨rfl, h1, h2⟩ | rfl
  · exact pline_1 key slot gen good request backend weight ⟨h1, h2⟩
  · rcases hk with rfl | rfl | rfl
    · exact pline_2 key slot gen good request backend weight h1 h2
    · exact pline_3 key slot gen good request backend weight h1 h2
    · cases good
      · exact pline_4f key slot gen request backend weight h1 h2
      · exact pline_4t key slot gen request backend weight h1 h2
  · exact pline_5 key slot gen good request backend weight h1 h2 h3
  · exact pline_6 key slot gen good request backend weight h1 h2
  · exact pline_7 key slot gen good request backend weight
end Go.Uw.D
namespace Go.Uw.D
open Go Go.Uw Go.Proofs
/-! ### numbers -/
def natL (l : List UInt8) (acc : Nat) : Nat := l.foldl (fun n c => n * 10 + (c.toNat - 48)) acc
theorem natL_snoc (l : List UInt8) (c : UInt8) (acc : Nat) : natL (l ++ [c]) acc = natL l acc * 10 + (c.toNat - 48) := by simp [natL]
theorem dig_iff {c : UInt8} : isDig c = true ↔ 48 ≤ c.toNat ∧ c.toNat ≤ 57 := by simp [isDig]
theorem numL_nat : ∀ (l : List UInt8), (∀ c ∈ l, isDig c = true) → numL l = (natL l 0 : Int) := by
  intro l
  have : ∀ (l : List UInt8) (a : Nat), (∀ c ∈ l, isDig c = true) → l.foldl (fun (n : Int) c => 10 * n + ((c.toNat : Int) - 48)) (a : Int) = (natL l a : Int) := by
    intro l
    induction l with
    | nil => intro a _; rfl
    | cons c l ih =>
      intro a h
      have hc := dig_iff.1 (h c (by simp))
      have e : (10 * (a : Int) + ((c.toNat : Int) - 48)) = ((a * 10 + (c.toNat - 48) : Nat) : Int) := by omega
      rw [List.foldl_cons, e, ih _ fun c' hc' => h c' (by simp [hc'])]
      rfl
  exact fun h => this l 0 h
theorem natL_pow : ∀ (l : List UInt8) (k acc : Nat), (∀ c ∈ l, isDig c = true) → acc < 10 ^ k → natL l acc < 10 ^ (k + l.length)
  | [], k, acc, _, h => h
  | c :: l, k, acc, hd, h => by
    have hc := dig_iff.1 (hd c (by simp))
    have := natL_pow l (k + 1) (acc * 10 + (c.toNat - 48)) (fun c' hc' => hd c' (by simp [hc'])) (by rw [Nat.pow_succ]; omega)
    rw [List.length_cons, show k + (l.length + 1) = k + 1 + l.length by omega]
    exact this
theorem parse_dig : ∀ (l : List UInt8) (k acc : Nat), (∀ c ∈ l, isDig c = true) → acc < 10 ^ k → k + l.length ≤ 18 → Lib.parseUint10 acc l = .ok (natL l acc)
  | [], k, acc, _, _, _ => rfl
  | c :: l, k, acc, hd, h, hk => by
    have hc := dig_iff.1 (hd c (by simp))
    simp only [List.length_cons] at hk
    have h17 : 10 ^ k ≤ 10 ^ 17 := Nat.pow_le_pow_right (by decide) (by omega)
    have e17 : (10 : Nat) ^ 17 = 100000000000000000 := by decide
    rw [Lib.parseUint10, if_pos hc, if_neg (by omega), if_neg (by omega)]
    exact parse_dig l (k + 1) _ (fun c' hc' => hd c' (by simp [hc'])) (by rw [Nat.pow_succ]; omega) (by omega)
theorem atoi_dig (a : List UInt8) (hd : ∀ c ∈ a, isDig c = true) (h0 : a ≠ []) (hl : a.length ≤ 10) : atoiV a = (natL a 0 : Int) := by
  cases a with
  | nil => exact absurd rfl h0
  | cons c r =>
    have hc := dig_iff.1 (hd c (by simp))
    have hp : Lib.parseMag (c :: r) = .ok (natL (c :: r) 0) := by
      rw [Lib.parseMag, if_neg (by simp)]
      exact parse_dig (c :: r) 0 0 hd (by decide) (by omega)
    have hb := natL_pow (c :: r) 0 0 hd (by decide)
    have h10 : 10 ^ (0 + (c :: r).length) ≤ 10 ^ 10 := Nat.pow_le_pow_right (by decide) (by omega)
    have e10 : (10 : Nat) ^ 10 = 10000000000 := by decide
    have : Lib.atoiAll (c :: r) = .ok (natL (c :: r) 0 : Int) := by
      simp only [Lib.atoiAll]
      rw [if_neg (by omega), hp]
      simp only
      rw [if_neg (by omega), if_neg (by omega), if_neg (by omega)]
    rw [atoiV, this]
theorem snoc_ind {p : List UInt8 → Prop} (h0 : p []) (h1 : ∀ l c, p l → p (l ++ [c])) : ∀ l, p l := by
  have : ∀ (n : Nat) (l : List UInt8), l.length = n → p l := by
    intro n
    induction n with
    | zero => intro l h; rw [List.length_eq_zero_iff.1 h]; exact h0
    | succ n ih =>
      intro l h
      rcases List.eq_nil_or_concat l with rfl | ⟨l', c, rfl⟩
      · exact h0
      · rw [List.concat_eq_append]
        exact h1 _ _ (ih l' (by simpa using h))
  exact fun l => this _ l rfl
theorem natL_pos : ∀ (r : List UInt8) (c : UInt8), isDig c = true → c ≠ 48 → 1 ≤ natL (c :: r) 0 := by
  intro r
  induction r using snoc_ind with
  | h0 =>
    intro c hc hn
    have := dig_iff.1 hc
    have : c.toNat ≠ 48 := fun h => hn (UInt8.toNat_inj.1 (by simpa using h))
    simp [natL]; omega
  | h1 r d ih =>
    intro c hc hn
    have := ih c hc hn
    rw [← List.cons_append, natL_snoc]; omega
theorem dig_chr {c : UInt8} (h : isDig c = true) : UInt8.ofNat (48 + (c.toNat - 48)) = c := by
  have := dig_iff.1 h
  rw [show 48 + (c.toNat - 48) = c.toNat by omega]
  exact UInt8.ofNat_toNat
theorem decL_natL : ∀ (a : List UInt8), a ≠ [] → (∀ c ∈ a, isDig c = true) → (a[0]? ≠ some 48 ∨ a.length ≤ 1) → decL (natL a 0) = a := by
  intro a
  induction a using snoc_ind with
  | h0 => intro h; exact absurd rfl h
  | h1 a c ih =>
    intro _ hd h0
    have hc := hd c (by simp)
    have hc' := dig_iff.1 hc
    rw [natL_snoc]
    cases a with
    | nil =>
      rw [decL_small (by simp [natL]; omega)]
      simp [natL, dig_chr hc]
    | cons b r =>
      have hb : b ≠ 48 := by
        rcases h0 with h0 | h0
        · simpa using h0
        · simp at h0
      have hp := natL_pos r b (hd b (by simp)) hb
      rw [decL_big (by omega), show (natL (b :: r) 0 * 10 + (c.toNat - 48)) / 10 = natL (b :: r) 0 by omega, show (natL (b :: r) 0 * 10 + (c.toNat - 48)) % 10 = c.toNat - 48 by omega,
        ih (by simp) (fun c' hc' => hd c' (List.mem_append_left _ hc')) (.inl (by simpa using hb)), dig_chr hc]
/-- a number in its only spelling -/
theorem whole_in {a : List UInt8} (h : 0 ≤ wholeR a) : decL (wholeR a).toNat = a ∧ atoiV a = wholeR a := by
  unfold wholeR at h ⊢
  split at h
  · omega
  · rename_i hn
    rw [if_neg hn]
    split at h
    · rename_i ha
      rw [if_pos ha]
      have hd : ∀ c ∈ a, isDig c = true := List.all_eq_true.1 ha
      have hne : a ≠ [] := by rintro rfl; simp at hn
      rw [numL_nat a hd]
      refine ⟨?_, atoi_dig a hd hne (by omega)⟩
      rw [Int.toNat_natCast]
      refine decL_natL a hne hd ?_
      by_cases h0 : a[0]? = some 48
      · exact .inr (Nat.le_of_not_lt fun h1 => hn (.inr (.inr ⟨h0, h1⟩)))
      · exact .inl h0
    · omega
theorem decL_dig : ∀ (n : Nat), (∀ c ∈ decL n, isDig c = true) ∧ decL n ≠ [] ∧ natL (decL n) 0 = n ∧ ((decL n)[0]? = some 48 → n = 0) := by
  intro n
  induction n using Nat.strongRecOn with
  | _ n ih =>
    by_cases h : n < 10
    · rw [decL_small h]
      have e : (UInt8.ofNat (48 + n)).toNat = 48 + n := by simp; omega
      refine ⟨fun c hc => ?_, by simp, by simp [natL, e]; omega, fun h0 => ?_⟩
      · rw [List.mem_singleton.1 hc]; exact dig_iff.2 (by omega)
      · have : UInt8.ofNat (48 + n) = 48 := by simpa using h0
        have := congrArg UInt8.toNat this
        rw [e] at this
        have e48 : (48 : UInt8).toNat = 48 := rfl
        omega
    · rw [decL_big h]
      obtain ⟨i1, i2, i3, i4⟩ := ih (n / 10) (by omega)
      have e : (UInt8.ofNat (48 + n % 10)).toNat = 48 + n % 10 := by simp; omega
      refine ⟨fun c hc => ?_, by simp, by rw [natL_snoc, i3, e]; omega, fun h0 => ?_⟩
      · rcases List.mem_append.1 hc with hc | hc
        · exact i1 c hc
        · rw [List.mem_singleton.1 hc]; exact dig_iff.2 (by omega)
      · have : n / 10 = 0 := i4 (by rw [← h0, List.getElem?_append_left (List.length_pos_iff.2 i2)])
        omega
theorem whole_dec {n : Int} (h0 : 0 ≤ n) (h1 : n ≤ 4294967295) : wholeR (decL n.toNat) = n := by
  obtain ⟨i1, i2, i3, i4⟩ := decL_dig n.toNat
  have hl := decL10 h1
  unfold wholeR
  rw [if_neg, if_pos (List.all_eq_true.2 i1), numL_nat _ i1, i3]
  · omega
  · rintro (h | h | ⟨h, h'⟩)
    · exact i2 (List.length_eq_zero_iff.1 h)
    · omega
    · have := i4 h
      rw [this, decL_small (by decide)] at h'
      simp at h'
theorem dec_ne (n : Nat) : ∀ c ∈ decL n, c ≠ 32 := by
  intro c hc h
  have := dig_iff.1 ((decL_dig n).1 c hc)
  subst h
  have : (32 : UInt8).toNat = 32 := rfl
  omega
end Go.Uw.D
namespace Go.Uw.D
open Go Go.Uw Go.Proofs
def joinSp : List (List UInt8) → List UInt8
  | [] => []
  | [w] => w
  | w :: v :: ws => w ++ 32 :: joinSp (v :: ws)
theorem joinSp_cons (c : UInt8) (v : List UInt8) : ∀ ws, joinSp ((c :: v) :: ws) = c :: joinSp (v :: ws)
  | [] => rfl
  | _ :: _ => rfl
theorem join_split : ∀ w, joinSp (splitSp w) = w
  | [] => rfl
  | c :: r => by
    have ih := join_split r
    rw [splitSp]
    split
    · rename_i hc
      cases hs : splitSp r with
      | nil => exact absurd hs (splitSp_ne r)
      | cons v ws =>
        rw [hs] at ih
        rw [joinSp, ih, hc]; rfl
    · split
      · rename_i hs; exact absurd hs (splitSp_ne r)
      · rename_i v ws hs
        rw [hs] at ih
        rw [joinSp_cons, ih]
theorem okEv_ne {vs : List Int} {e : Ev} (h : (okEv vs e).kind ≠ 0) : (∀ v ∈ vs, 0 ≤ v) ∧ checkEv e = 0 ∧ okEv vs e = e := by
  unfold okEv at h ⊢
  split at h
  · exact absurd rfl h
  · rename_i hn
    rw [if_neg hn]
    exact ⟨fun v hv => Int.not_lt.1 fun hlt => hn (.inl ⟨v, hv, hlt⟩), Classical.not_not.1 fun hc => hn (.inr hc), rfl⟩
theorem lineEvR_none {w : List UInt8} {ar : List (List UInt8)} (n1 : [111, 112, 101, 110] ≠ w) (n2 : [100, 97, 116, 97] ≠ w) (n3 : [99, 108, 111, 115, 101] ≠ w) (n4 : [97, 110, 115, 119, 101, 114] ≠ w) (n5 : [106, 111, 105, 110] ≠ w) (n6 : [114, 101, 116, 105, 114, 101] ≠ w) (n7 : [116, 105, 99, 107] ≠ w) : lineEvR (w :: ar) = zeroEv := by
  simp [lineEvR, wordL, Ne.symm n1, Ne.symm n2, Ne.symm n3, Ne.symm n4, Ne.symm n5, Ne.symm n6, Ne.symm n7]
theorem line_reads (v : List UInt8) (ar : List (List UInt8)) (h : (lineEvR (v :: ar)).kind ≠ 0) :
    eventWs (v :: ar) = lineEvR (v :: ar) ∧ checkEv (lineEvR (v :: ar)) = 0 ∧ lineL (lineEvR (v :: ar)) = joinSp (v :: ar) := by
  by_cases n1 : [111, 112, 101, 110] = v
  · subst n1
    match ar, h with
    | [a], h =>
      rw [lineEvR_1] at h ⊢
      obtain ⟨h1, h2, h3⟩ := okEv_ne h
      have ha := whole_in (h1 (wholeR a) (by simp))
      rw [h3]
      exact ⟨by simp [eventWs, wordL, argV, ha.2], h2, by simp [lineL, fieldVals, wordL, joinSp, ha.1]⟩
    | [], h => exact absurd (by rw [lineEvR_w1 _ (by simp)]; rfl) h
    | _ :: _ :: _, h => exact absurd (by rw [lineEvR_w1 _ (by simp)]; rfl) h
  by_cases n2 : [100, 97, 116, 97] = v
  · subst n2
    match ar, h with
    | [a, b], h =>
      rw [lineEvR_2] at h ⊢
      obtain ⟨h1, h2, h3⟩ := okEv_ne h
      have ha := whole_in (h1 (wholeR a) (by simp))
      have hb := whole_in (h1 (wholeR b) (by simp))
      rw [h3]
      exact ⟨by simp [eventWs, wordL, argV, ha.2, hb.2], h2, by simp [lineL, fieldVals, wordL, joinSp, ha.1, hb.1]⟩
    | [], h => exact absurd (by rw [lineEvR_w2 _ (by simp)]; rfl) h
    | [_], h => exact absurd (by rw [lineEvR_w2 _ (by simp)]; rfl) h
    | _ :: _ :: _ :: _, h => exact absurd (by rw [lineEvR_w2 _ (by simp)]; rfl) h
  by_cases n3 : [99, 108, 111, 115, 101] = v
  · subst n3
    match ar, h with
    | [a, b], h =>
      rw [lineEvR_3] at h ⊢
      obtain ⟨h1, h2, h3⟩ := okEv_ne h
      have ha := whole_in (h1 (wholeR a) (by simp))
      have hb := whole_in (h1 (wholeR b) (by simp))
      rw [h3]
      exact ⟨by simp [eventWs, wordL, argV, ha.2, hb.2], h2, by simp [lineL, fieldVals, wordL, joinSp, ha.1, hb.1]⟩
    | [], h => exact absurd (by rw [lineEvR_w3 _ (by simp)]; rfl) h
    | [_], h => exact absurd (by rw [lineEvR_w3 _ (by simp)]; rfl) h
    | _ :: _ :: _ :: _, h => exact absurd (by rw [lineEvR_w3 _ (by simp)]; rfl) h
  by_cases n4 : [97, 110, 115, 119, 101, 114] = v
  · subst n4
    match ar, h with
    | [a, b, c], h =>
      by_cases cg : c = [103, 111, 111, 100]
      · subst cg
        rw [lineEvR_4g] at h ⊢
        obtain ⟨h1, h2, h3⟩ := okEv_ne h
        have ha := whole_in (h1 (wholeR a) (by simp))
        have hb := whole_in (h1 (wholeR b) (by simp))
        rw [h3]
        exact ⟨by simp [eventWs, wordL, argV, ha.2, hb.2], h2, by simp [lineL, fieldVals, wordL, joinSp, ha.1, hb.1]⟩
      by_cases cb : c = [98, 97, 100]
      · subst cb
        rw [lineEvR_4b] at h ⊢
        obtain ⟨h1, h2, h3⟩ := okEv_ne h
        have ha := whole_in (h1 (wholeR a) (by simp))
        have hb := whole_in (h1 (wholeR b) (by simp))
        rw [h3]
        exact ⟨by simp [eventWs, wordL, argV, ha.2, hb.2], h2, by simp [lineL, fieldVals, wordL, joinSp, ha.1, hb.1]⟩
      rw [lineEvR_4o a b c cg cb] at h
      have := (okEv_ne h).1 (-1) (by simp)
      omega
    | [], h => exact absurd (by rw [lineEvR_w4 _ (by simp)]; rfl) h
    | [_], h => exact absurd (by rw [lineEvR_w4 _ (by simp)]; rfl) h
    | [_, _], h => exact absurd (by rw [lineEvR_w4 _ (by simp)]; rfl) h
    | _ :: _ :: _ :: _ :: _, h => exact absurd (by rw [lineEvR_w4 _ (by simp)]; rfl) h
  by_cases n5 : [106, 111, 105, 110] = v
  · subst n5
    match ar, h with
    | [a, b, c], h =>
      rw [lineEvR_5] at h ⊢
      obtain ⟨h1, h2, h3⟩ := okEv_ne h
      have ha := whole_in (h1 (wholeR a) (by simp))
      have hb := whole_in (h1 (wholeR b) (by simp))
      have hc := whole_in (h1 (wholeR c) (by simp))
      rw [h3]
      exact ⟨by simp [eventWs, wordL, argV, ha.2, hb.2, hc.2], h2, by simp [lineL, fieldVals, wordL, joinSp, ha.1, hb.1, hc.1]⟩
    | [], h => exact absurd (by rw [lineEvR_w5 _ (by simp)]; rfl) h
    | [_], h => exact absurd (by rw [lineEvR_w5 _ (by simp)]; rfl) h
    | [_, _], h => exact absurd (by rw [lineEvR_w5 _ (by simp)]; rfl) h
    | _ :: _ :: _ :: _ :: _, h => exact absurd (by rw [lineEvR_w5 _ (by simp)]; rfl) h
  by_cases n6 : [114, 101, 116, 105, 114, 101] = v
  · subst n6
    match ar, h with
    | [a, b], h =>
      rw [lineEvR_6] at h ⊢
      obtain ⟨h1, h2, h3⟩ := okEv_ne h
      have ha := whole_in (h1 (wholeR a) (by simp))
      have hb := whole_in (h1 (wholeR b) (by simp))
      rw [h3]
      exact ⟨by simp [eventWs, wordL, argV, ha.2, hb.2], h2, by simp [lineL, fieldVals, wordL, joinSp, ha.1, hb.1]⟩
    | [], h => exact absurd (by rw [lineEvR_w6 _ (by simp)]; rfl) h
    | [_], h => exact absurd (by rw [lineEvR_w6 _ (by simp)]; rfl) h
    | _ :: _ :: _ :: _, h => exact absurd (by rw [lineEvR_w6 _ (by simp)]; rfl) h
  by_cases n7 : [116, 105, 99, 107] = v
  · subst n7
    match ar, h with
    | [], h =>
      rw [lineEvR_7] at h ⊢
      obtain ⟨_, h2, h3⟩ := okEv_ne h
      rw [h3]
      exact ⟨by simp [eventWs, wordL], h2, by simp [lineL, fieldVals, wordL, joinSp]⟩
    | _ :: _, h => exact absurd (by rw [lineEvR_w7 _ (by simp)]; rfl) h
  exact absurd (by rw [lineEvR_none n1 n2 n3 n4 n5 n6 n7]; rfl) h
theorem rest_0 {e : Ev} (h : checkEv e = 0) : restEv e = zeroEv := by
  unfold checkEv at h
  split at h
  · cases h
  split at h
  · cases h
  split at h
  · cases h
  · rename_i h3; exact Classical.not_not.1 h3
theorem okEv_ok {vs : List Int} {e : Ev} (h1 : ∀ v ∈ vs, 0 ≤ v) (h2 : checkEv e = 0) : okEv vs e = e := by
  rw [okEv, if_neg]
  rintro (⟨v, hv, hlt⟩ | h)
  · have := h1 v hv; omega
  · exact h h2
theorem reads_line (e : Ev) (h : checkEv e = 0) : lineEvR (splitSp (lineL e)) = e := by
  have hc := ev_cases e h
  have hr := rest_0 h
  obtain ⟨kind, key, slot, gen, good, request, backend, weight⟩ := e
  simp only at hc
  rcases hc with ⟨rfl, h1, h2⟩ | ⟨hk, h1, h2⟩ | ⟨rfl, h1, h2, h3⟩ | ⟨rfl, h1, h2⟩ | rfl
  · simp [restEv, zeroEv] at hr
    obtain ⟨rfl, rfl, rfl, rfl, rfl, rfl⟩ := hr
    have e : lineL ⟨1, key, 0, 0, false, 0, 0, 0⟩ = [111, 112, 101, 110] ++ 32 :: (decL key.toNat) := by simp [lineL, fieldVals, wordL]
    rw [e, splitSp_cut _ _ (by decide), splitSp_word _ (dec_ne _), lineEvR_1, whole_dec (n := key) (by omega) (by omega)]
    exact okEv_ok (by simp; omega) h
  · rcases hk with rfl | rfl | rfl
    · simp [restEv, zeroEv] at hr
      obtain ⟨rfl, rfl, rfl, rfl, rfl⟩ := hr
      have e : lineL ⟨2, 0, slot, gen, false, 0, 0, 0⟩ = [100, 97, 116, 97] ++ 32 :: (decL slot.toNat ++ 32 :: (decL gen.toNat)) := by simp [lineL, fieldVals, wordL]
      rw [e, splitSp_cut _ _ (by decide), splitSp_cut _ _ (dec_ne _), splitSp_word _ (dec_ne _), lineEvR_2, whole_dec (n := slot) (by omega) (by omega), whole_dec (n := gen) (by omega) (by omega)]
      exact okEv_ok (by simp; omega) h
    · simp [restEv, zeroEv] at hr
      obtain ⟨rfl, rfl, rfl, rfl, rfl⟩ := hr
      have e : lineL ⟨3, 0, slot, gen, false, 0, 0, 0⟩ = [99, 108, 111, 115, 101] ++ 32 :: (decL slot.toNat ++ 32 :: (decL gen.toNat)) := by simp [lineL, fieldVals, wordL]
      rw [e, splitSp_cut _ _ (by decide), splitSp_cut _ _ (dec_ne _), splitSp_word _ (dec_ne _), lineEvR_3, whole_dec (n := slot) (by omega) (by omega), whole_dec (n := gen) (by omega) (by omega)]
      exact okEv_ok (by simp; omega) h
    · cases good
      · simp [restEv, zeroEv] at hr
        obtain ⟨rfl, rfl, rfl, rfl⟩ := hr
        have e : lineL ⟨4, 0, slot, gen, false, 0, 0, 0⟩ = [97, 110, 115, 119, 101, 114] ++ 32 :: (decL slot.toNat ++ 32 :: (decL gen.toNat ++ 32 :: ([98, 97, 100]))) := by simp [lineL, fieldVals, wordL]
        rw [e, splitSp_cut _ _ (by decide), splitSp_cut _ _ (dec_ne _), splitSp_cut _ _ (dec_ne _), splitSp_word _ (by decide), lineEvR_4b, whole_dec (n := slot) (by omega) (by omega), whole_dec (n := gen) (by omega) (by omega)]
        exact okEv_ok (by simp; omega) h
      · simp [restEv, zeroEv] at hr
        obtain ⟨rfl, rfl, rfl, rfl⟩ := hr
        have e : lineL ⟨4, 0, slot, gen, true, 0, 0, 0⟩ = [97, 110, 115, 119, 101, 114] ++ 32 :: (decL slot.toNat ++ 32 :: (decL gen.toNat ++ 32 :: ([103, 111, 111, 100]))) := by simp [lineL, fieldVals, wordL]
        rw [e, splitSp_cut _ _ (by decide), splitSp_cut _ _ (dec_ne _), splitSp_cut _ _ (dec_ne _), splitSp_word _ (by decide), lineEvR_4g, whole_dec (n := slot) (by omega) (by omega), whole_dec (n := gen) (by omega) (by omega)]
        exact okEv_ok (by simp; omega) h
  · simp [restEv, zeroEv] at hr
    obtain ⟨rfl, rfl, rfl, rfl⟩ := hr
    have e : lineL ⟨5, 0, 0, 0, false, request, backend, weight⟩ = [106, 111, 105, 110] ++ 32 :: (decL request.toNat ++ 32 :: (decL backend.toNat ++ 32 :: (decL weight.toNat))) := by simp [lineL, fieldVals, wordL]
    rw [e, splitSp_cut _ _ (by decide), splitSp_cut _ _ (dec_ne _), splitSp_cut _ _ (dec_ne _), splitSp_word _ (dec_ne _), lineEvR_5, whole_dec (n := request) (by omega) (by omega), whole_dec (n := backend) (by omega) (by omega), whole_dec (n := weight) (by omega) (by omega)]
    exact okEv_ok (by simp; omega) h
  · simp [restEv, zeroEv] at hr
    obtain ⟨rfl, rfl, rfl, rfl, rfl⟩ := hr
    have e : lineL ⟨6, 0, 0, 0, false, request, backend, 0⟩ = [114, 101, 116, 105, 114, 101] ++ 32 :: (decL request.toNat ++ 32 :: (decL backend.toNat)) := by simp [lineL, fieldVals, wordL]
    rw [e, splitSp_cut _ _ (by decide), splitSp_cut _ _ (dec_ne _), splitSp_word _ (dec_ne _), lineEvR_6, whole_dec (n := request) (by omega) (by omega), whole_dec (n := backend) (by omega) (by omega)]
    exact okEv_ok (by simp; omega) h
  · simp [restEv, zeroEv] at hr
    obtain ⟨rfl, rfl, rfl, rfl, rfl, rfl, rfl⟩ := hr
    have e : lineL ⟨7, 0, 0, 0, false, 0, 0, 0⟩ = [116, 105, 99, 107] := by simp [lineL, fieldVals, wordL]
    rw [e, splitSp_word _ (by decide), lineEvR_7]
    exact okEv_ok (by simp) h
end Go.Uw.D
namespace Go.Uw.D
open Go Go.Uw Go.Proofs
def gd (ln : List UInt8) : Bool := decide (checkEv (eventP ln) = 0 ∧ lineL (eventP ln) ++ [10] = ln)
def lnOf (r : List UInt8) : List UInt8 := if 0 ≤ Lib.indexByte r 10 then r.take (Lib.indexByte r 10 + 1).toNat else r
def rsOf (r : List UInt8) : List UInt8 := if 0 ≤ Lib.indexByte r 10 then r.drop (Lib.indexByte r 10 + 1).toNat else []
theorem cut_cases (r : List UInt8) : (lnOf r = r ∧ rsOf r = [] ∧ linesOf r = ([], r) ∧ ∀ x ∈ r, x ≠ 10) ∨
    ∃ a r', r = a ++ 10 :: r' ∧ (∀ x ∈ a, x ≠ 10) ∧ lnOf r = a ++ [10] ∧ rsOf r = r' ∧ linesOf r = (a :: (linesOf r').1, (linesOf r').2) := by
  rcases ixb r 10 with ⟨h1, h2⟩ | ⟨a, r', h1, h2, h3⟩
  · left
    unfold lnOf rsOf
    rw [h1, if_neg (by decide), if_neg (by decide)]
    exact ⟨rfl, rfl, linesOf_word r h2, h2⟩
  · right
    refine ⟨a, r', h1, h2, ?_, ?_, by rw [h1, linesOf_cut a r' h2]⟩
    · unfold lnOf
      rw [h3, if_pos (by omega), h1, show ((a.length : Int) + 1).toNat = a.length + 1 by omega]
      simp [List.take_append]
      exact List.take_of_length_le (by omega)
    · unfold rsOf
      rw [h3, if_pos (by omega), h1, show ((a.length : Int) + 1).toNat = a.length + 1 by omega]
      simp [List.drop_append]
theorem trim_nl (a : List UInt8) : Lib.trimSuffix (a ++ [10]) [10] = a := by
  have : Lib.hasSuffix (a ++ [10]) [10] = true := by simp [Lib.hasSuffix]
  rw [Lib.trimSuffix, if_pos this]; simp
theorem eventP_nl (a : List UInt8) : eventP (a ++ [10]) = eventWs (splitSp a) := by rw [eventP, trim_nl]
theorem check_kind {e : Ev} (h : checkEv e = 0) : e.kind ≠ 0 := by
  intro hk
  unfold checkEv at h
  rw [if_pos (by omega)] at h
  cases h
theorem gd_of {a : List UInt8} (h : gd (a ++ [10]) = true) : lineEvR (splitSp a) = eventP (a ++ [10]) ∧ (lineEvR (splitSp a)).kind ≠ 0 := by
  obtain ⟨h1, h2⟩ := of_decide_eq_true h
  have h2 := List.append_cancel_right h2
  have := reads_line _ h1
  rw [h2] at this
  exact ⟨this, by rw [this]; exact check_kind h1⟩
theorem gd_to {a : List UInt8} (h : (lineEvR (splitSp a)).kind ≠ 0) : gd (a ++ [10]) = true := by
  obtain ⟨v, ar, hw⟩ : ∃ v ar, splitSp a = v :: ar := by
    cases h : splitSp a with
    | nil => exact absurd h (splitSp_ne _)
    | cons w ar => exact ⟨w, ar, rfl⟩
  rw [hw] at h
  obtain ⟨h1, h2, h3⟩ := line_reads v ar h
  have hj := join_split a
  rw [hw] at hj
  refine decide_eq_true ?_
  rw [eventP_nl, hw, h1]
  exact ⟨h2, by rw [h3, hj]⟩
/-- how far the program's reading has come: what of the text is left, and the events so far -/
def RQ (l0 : List UInt8) (x : List UInt8 × List Ev) : Prop :=
  x.2.length + x.1.length ≤ l0.length ∧ x.2.length ≤ 4000 ∧ readGo (linesOf x.1).1 (linesOf x.1).2 x.2 = readGo (linesOf l0).1 (linesOf l0).2 []
theorem rp_0 (l0 : List UInt8) : RQ l0 (l0, []) := ⟨by simp, by simp, rfl⟩
theorem rp_go {l0 : List UInt8} {x : List UInt8 × List Ev} (h : RQ l0 x) (hx : x.1 ≠ []) (hn : x.2.length ≠ 4000) (hg : gd (lnOf x.1) = true) :
    RQ l0 (rsOf x.1, x.2 ++ [eventP (lnOf x.1)]) ∧ (rsOf x.1).length < x.1.length := by
  obtain ⟨h1, h2, h3⟩ := h
  rcases cut_cases x.1 with ⟨c1, c2, c3, c4⟩ | ⟨a, r', c1, c2, c3, c4, c5⟩
  · rw [c1] at hg
    obtain ⟨_, g2⟩ := of_decide_eq_true hg
    exact absurd rfl (c4 10 (by rw [← g2]; simp))
  · rw [c3] at hg
    obtain ⟨g1, g2⟩ := gd_of hg
    rw [c5] at h3
    simp only [readGo] at h3
    rw [if_neg hn, if_neg g2, g1] at h3
    have hl : x.1.length = a.length + (r'.length + 1) := by rw [c1]; simp
    rw [c3, c4]
    refine ⟨⟨by simp; omega, by simp; omega, h3⟩, by omega⟩
theorem rp_full {l0 : List UInt8} {x : List UInt8 × List Ev} (h : RQ l0 x) (hl : l0.length ≤ 200000) (hx : x.1 ≠ []) (hn : x.2.length = 4000) : readR l0 = ([], 4000, 9) := by
  obtain ⟨h1, h2, h3⟩ := h
  rw [readR, if_neg (by omega), ← h3]
  rcases cut_cases x.1 with ⟨c1, c2, c3, c4⟩ | ⟨a, r', c1, c2, c3, c4, c5⟩
  · rw [c3]
    cases hd : x.1 with
    | nil => exact absurd hd hx
    | cons c r => simp only [readGo]; rw [if_pos hn]
  · rw [c5]
    simp only [readGo]; rw [if_pos hn]
theorem rp_bad {l0 : List UInt8} {x : List UInt8 × List Ev} (h : RQ l0 x) (hl : l0.length ≤ 200000) (hx : x.1 ≠ []) (hn : x.2.length ≠ 4000) (hg : gd (lnOf x.1) = false) : readR l0 = ([], (x.2.length : Int), 3) := by
  obtain ⟨h1, h2, h3⟩ := h
  rw [readR, if_neg (by omega), ← h3]
  rcases cut_cases x.1 with ⟨c1, c2, c3, c4⟩ | ⟨a, r', c1, c2, c3, c4, c5⟩
  · rw [c3]
    cases hd : x.1 with
    | nil => exact absurd hd hx
    | cons c r => simp only [readGo]; rw [if_neg hn]
  · rw [c5]
    simp only [readGo]
    rw [if_neg hn, if_pos]
    refine Classical.byContradiction fun hk => ?_
    rw [c3, gd_to hk] at hg
    cases hg
theorem rp_done {l0 : List UInt8} {x : List UInt8 × List Ev} (h : RQ l0 x) (hl : l0.length ≤ 200000) (hx : x.1 = []) : readR l0 = (x.2, 0, 0) := by
  obtain ⟨h1, h2, h3⟩ := h
  rw [readR, if_neg (by omega), ← h3, hx]
  rfl
theorem ln_len (r : List UInt8) : (lnOf r).length ≤ r.length := by
  unfold lnOf; split
  · simp; omega
  · exact Nat.le_refl _
end Go.Uw.D
