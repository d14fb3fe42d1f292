/- A helper text of this claim: lemmas of an abstract machine over the model, or walks in it. Own work of an AI agent. -/
import Derived.Test.YtkcjomglcjhkgaaDoorD21
import Derived.Test.YtkcjomglcjhkgaaDoorUwTo
set_option linter.unusedVariables false
set_option linter.unusedSimpArgs false
namespace Go.Uw.D
open Go Go.Uw Go.Proofs
def splitSp : List UInt8 → List (List UInt8)
  | [] => [[]]
  | c :: r => if c = 32 then [] :: splitSp r else match splitSp r with
    | [] => [[c]]
    | w :: ws => (c :: w) :: ws
theorem splitSp_word : ∀ (a : List UInt8), (∀ c ∈ a, c ≠ 32) → splitSp a = [a]
  | [], _ => rfl
  | c :: a, h => by rw [splitSp, if_neg (h c (by simp)), splitSp_word a fun c' hc => h c' (by simp [hc])]
theorem splitSp_cut : ∀ (a r : List UInt8), (∀ c ∈ a, c ≠ 32) → splitSp (a ++ 32 :: r) = a :: splitSp r
  | [], r, _ => by simp [splitSp]
  | c :: a, r, h => by rw [List.cons_append, splitSp, if_neg (h c (by simp)), splitSp_cut a r fun c' hc => h c' (by simp [hc])]
def strF (ws : List (List UInt8)) : List (List FV) := ws.map fun w => [FV.lit (.string ⟨w.toArray⟩)]
def goodR (c : List UInt8) : Int := if c = [98, 97, 100] then 0 else if c = [103, 111, 111, 100] then 1 else -1
def okEv (vs : List Int) (e : Ev) : Ev := if (∃ v ∈ vs, v < 0) ∨ checkEv e ≠ 0 then zeroEv else e
def lineEvR (ws : List (List UInt8)) : Ev :=
  match ws with
  | [] => zeroEv
  | w :: ar =>
    if w = wordL 1 then (match ar with | [a] => okEv [wholeR a] ⟨1, wholeR a, 0, 0, false, 0, 0, 0⟩ | _ => zeroEv)
    else if w = wordL 2 then (match ar with | [a, b] => okEv [wholeR a, wholeR b] ⟨2, 0, wholeR a, wholeR b, false, 0, 0, 0⟩ | _ => zeroEv)
    else if w = wordL 3 then (match ar with | [a, b] => okEv [wholeR a, wholeR b] ⟨3, 0, wholeR a, wholeR b, false, 0, 0, 0⟩ | _ => zeroEv)
    else if w = wordL 4 then (match ar with | [a, b, c] => okEv [wholeR a, wholeR b, goodR c] ⟨4, 0, wholeR a, wholeR b, decide (goodR c = 1), 0, 0, 0⟩ | _ => zeroEv)
    else if w = wordL 5 then (match ar with | [a, b, c] => okEv [wholeR a, wholeR b, wholeR c] ⟨5, 0, 0, 0, false, wholeR a, wholeR b, wholeR c⟩ | _ => zeroEv)
    else if w = wordL 6 then (match ar with | [a, b] => okEv [wholeR a, wholeR b] ⟨6, 0, 0, 0, false, wholeR a, wholeR b, 0⟩ | _ => zeroEv)
    else if w = wordL 7 then (match ar with | [] => okEv [] ⟨7, 0, 0, 0, false, 0, 0, 0⟩ | _ => zeroEv)
    else zeroEv

/-- how far the splitting has come -/
def SpQ (l : List UInt8) (x : Nat × Nat × List (List UInt8)) : Prop :=
  x.1 ≤ l.length + 1 ∧ x.2.1 ≤ x.1 ∧ x.2.2.length ≤ x.1 ∧ (x.1 ≤ l.length → (∀ c ∈ (l.drop x.2.1).take (x.1 - x.2.1), c ≠ 32) ∧ x.2.2 ++ splitSp (l.drop x.2.1) = splitSp l) ∧ (x.1 = l.length + 1 → x.2.2 = splitSp l)
theorem spQ_0 (l : List UInt8) : SpQ l (0, 0, []) := ⟨by simp, Nat.le_refl _, by simp, fun _ => ⟨by simp, by simp⟩, fun h => by simp at h⟩
theorem spQ_end {l : List UInt8} {x : Nat × Nat × List (List UInt8)} (h : SpQ l x) (hi : x.1 = l.length) : SpQ l (x.1 + 1, x.1 + 1, x.2.2 ++ [(l.drop x.2.1).take (x.1 - x.2.1)]) := by
  obtain ⟨h1, h2, h3, h4, h5⟩ := h
  refine ⟨by simp; omega, Nat.le_refl _, by simp; omega, fun h => by simp at h; omega, fun _ => ?_⟩
  obtain ⟨h6, h7⟩ := h4 (by omega)
  have e : (l.drop x.2.1).take (x.1 - x.2.1) = l.drop x.2.1 := List.take_of_length_le (by simp; omega)
  simp only
  rw [e] at h6 ⊢
  rw [← h7, splitSp_word _ h6]
theorem drop_split {l : List UInt8} {f i : Nat} (hf : f ≤ i) (hi : i < l.length) : l.drop f = (l.drop f).take (i - f) ++ l[i] :: l.drop (i + 1) := by
  have e1 : (l.drop f).drop (i - f) = l[i] :: l.drop (i + 1) := by
    rw [List.drop_drop, show f + (i - f) = i by omega, List.drop_eq_getElem_cons hi]
  rw [← e1, List.take_append_drop]
theorem spQ_sp {l : List UInt8} {x : Nat × Nat × List (List UInt8)} (h : SpQ l x) (hi : x.1 < l.length) (hc : l[x.1] = 32) : SpQ l (x.1 + 1, x.1 + 1, x.2.2 ++ [(l.drop x.2.1).take (x.1 - x.2.1)]) := by
  obtain ⟨h1, h2, h3, h4, h5⟩ := h
  refine ⟨by simp; omega, Nat.le_refl _, by simp; omega, fun _ => ⟨by simp, ?_⟩, fun h => by simp at h; omega⟩
  obtain ⟨h6, h7⟩ := h4 (by omega)
  have e := splitSp_cut _ (l.drop (x.1 + 1)) h6
  rw [← hc, ← drop_split h2 hi] at e
  simp only
  rw [← h7, e]
  simp
theorem spQ_go {l : List UInt8} {x : Nat × Nat × List (List UInt8)} (h : SpQ l x) (hi : x.1 < l.length) (hc : l[x.1] ≠ 32) : SpQ l (x.1 + 1, x.2.1, x.2.2) := by
  obtain ⟨h1, h2, h3, h4, h5⟩ := h
  refine ⟨by simp; omega, by simp; omega, by simp; omega, fun _ => ?_, fun h => by simp at h; omega⟩
  obtain ⟨h6, h7⟩ := h4 (by omega)
  refine ⟨fun c hc' => ?_, h7⟩
  simp only at hc'
  have e : (l.drop x.2.1).take (x.1 + 1 - x.2.1) = (l.drop x.2.1).take (x.1 - x.2.1) ++ [l[x.1]] := by
    rw [show x.1 + 1 - x.2.1 = (x.1 - x.2.1) + 1 by omega, take_snoc (by simp; omega)]
    simp [show x.2.1 + (x.1 - x.2.1) = x.1 by omega]
  rw [e] at hc'
  rcases List.mem_append.1 hc' with hc' | hc'
  · exact h6 c hc'
  · have : c = l[x.1] := by simpa using hc'
    rw [this]; exact hc
theorem spQ_done {l : List UInt8} {x : Nat × Nat × List (List UInt8)} (h : SpQ l x) (hi : ¬ (x.1 : Int) ≤ (l.length : Int)) : x.2.2 = splitSp l := by
  obtain ⟨h1, h2, h3, h4, h5⟩ := h
  exact h5 (by omega)
theorem u8_eq' {c d : UInt8} (h : (c.toNat : Int) = (d.toNat : Int)) : c = d := UInt8.toNat_inj.1 (by omega)
theorem ne32 {c : UInt8} (h : ¬ (c.toNat : Int) = 32) : c ≠ 32 := by rintro rfl; exact h rfl
theorem strF_snoc (ws : List (List UInt8)) (w : List UInt8) : strF (ws ++ [w]) = strF ws ++ [[FV.lit (.string ⟨w.toArray⟩)]] := by simp [strF]
theorem strF_len (ws : List (List UInt8)) : (strF ws).length = ws.length := by simp [strF]
theorem splitSp_ne : ∀ l : List UInt8, splitSp l ≠ []
  | [] => by simp [splitSp]
  | c :: r => by
    rw [splitSp]
    split
    · simp
    · split <;> simp
def LQ (w : List UInt8) (k : Int) : Prop := 1 ≤ k ∧ k ≤ 8 ∧ ∀ j, 1 ≤ j → j < k → wordL j ≠ w
theorem lq_1 (w : List UInt8) : LQ w 1 := ⟨by decide, by decide, fun j h1 h2 => absurd h1 (by omega)⟩
theorem lq_step {w : List UInt8} {k : Int} (h : LQ w k) (h1 : k ≤ 7) (h2 : wordL k ≠ w) : LQ w (k + 1) :=
  ⟨by have := h.1; omega, by omega, fun j g1 g2 => by
    by_cases hj : j = k
    · rw [hj]; exact h2
    · exact h.2.2 j g1 (by omega)⟩
theorem lq_none {w : List UInt8} {ar : List (List UInt8)} {k : Int} (h : LQ w k) (h1 : ¬ k ≤ 7) : lineEvR (w :: ar) = zeroEv := by
  have h2 := h.2.1
  have n1 := h.2.2 1 (by omega) (by omega)
  have n2 := h.2.2 2 (by omega) (by omega)
  have n3 := h.2.2 3 (by omega) (by omega)
  have n4 := h.2.2 4 (by omega) (by omega)
  have n5 := h.2.2 5 (by omega) (by omega)
  have n6 := h.2.2 6 (by omega) (by omega)
  have n7 := h.2.2 7 (by omega) (by omega)
  simp [lineEvR, Ne.symm n1, Ne.symm n2, Ne.symm n3, Ne.symm n4, Ne.symm n5, Ne.symm n6, Ne.symm n7]

theorem lineEvR_w1 (ar : List (List UInt8)) (h : ar.length ≠ 1) : lineEvR ([111, 112, 101, 110] :: ar) = zeroEv := by
  match ar, h with
  | [], h => first | exact absurd rfl h | rfl
  | [_], h => first | exact absurd rfl h | rfl
  | [_, _], h => first | exact absurd rfl h | rfl
  | [_, _, _], h => first | exact absurd rfl h | rfl
  | _ :: _ :: _ :: _ :: _, h => rfl
theorem lineEvR_1 (a : List UInt8) : lineEvR [[111, 112, 101, 110], a] = okEv [wholeR a] ⟨1, wholeR a, 0, 0, false, 0, 0, 0⟩ := by
  simp [lineEvR, wordL]
theorem lineEvR_w2 (ar : List (List UInt8)) (h : ar.length ≠ 2) : lineEvR ([100, 97, 116, 97] :: ar) = zeroEv := by
  match ar, h with
  | [], h => first | exact absurd rfl h | rfl
  | [_], h => first | exact absurd rfl h | rfl
  | [_, _], h => first | exact absurd rfl h | rfl
  | [_, _, _], h => first | exact absurd rfl h | rfl
  | _ :: _ :: _ :: _ :: _, h => rfl
theorem lineEvR_2 (a b : List UInt8) : lineEvR [[100, 97, 116, 97], a, b] = okEv [wholeR a, wholeR b] ⟨2, 0, wholeR a, wholeR b, false, 0, 0, 0⟩ := by
  simp [lineEvR, wordL]
theorem lineEvR_w3 (ar : List (List UInt8)) (h : ar.length ≠ 2) : lineEvR ([99, 108, 111, 115, 101] :: ar) = zeroEv := by
  match ar, h with
  | [], h => first | exact absurd rfl h | rfl
  | [_], h => first | exact absurd rfl h | rfl
  | [_, _], h => first | exact absurd rfl h | rfl
  | [_, _, _], h => first | exact absurd rfl h | rfl
  | _ :: _ :: _ :: _ :: _, h => rfl
theorem lineEvR_3 (a b : List UInt8) : lineEvR [[99, 108, 111, 115, 101], a, b] = okEv [wholeR a, wholeR b] ⟨3, 0, wholeR a, wholeR b, false, 0, 0, 0⟩ := by
  simp [lineEvR, wordL]
theorem lineEvR_w4 (ar : List (List UInt8)) (h : ar.length ≠ 3) : lineEvR ([97, 110, 115, 119, 101, 114] :: ar) = zeroEv := by
  match ar, h with
  | [], h => first | exact absurd rfl h | rfl
  | [_], h => first | exact absurd rfl h | rfl
  | [_, _], h => first | exact absurd rfl h | rfl
  | [_, _, _], h => first | exact absurd rfl h | rfl
  | _ :: _ :: _ :: _ :: _, h => rfl
theorem lineEvR_4g (a b : List UInt8) : lineEvR [[97, 110, 115, 119, 101, 114], a, b, [103, 111, 111, 100]] = okEv [wholeR a, wholeR b, 1] ⟨4, 0, wholeR a, wholeR b, true, 0, 0, 0⟩ := by
  simp [lineEvR, wordL, goodR]
theorem lineEvR_4b (a b : List UInt8) : lineEvR [[97, 110, 115, 119, 101, 114], a, b, [98, 97, 100]] = okEv [wholeR a, wholeR b, 0] ⟨4, 0, wholeR a, wholeR b, false, 0, 0, 0⟩ := by
  simp [lineEvR, wordL, goodR]
theorem lineEvR_4o (a b c : List UInt8) (hc1 : c ≠ [103, 111, 111, 100]) (hc2 : c ≠ [98, 97, 100]) : lineEvR [[97, 110, 115, 119, 101, 114], a, b, c] = okEv [wholeR a, wholeR b, (-1)] ⟨4, 0, wholeR a, wholeR b, false, 0, 0, 0⟩ := by
  simp [lineEvR, wordL, goodR, hc1, hc2]
theorem lineEvR_w5 (ar : List (List UInt8)) (h : ar.length ≠ 3) : lineEvR ([106, 111, 105, 110] :: ar) = zeroEv := by
  match ar, h with
  | [], h => first | exact absurd rfl h | rfl
  | [_], h => first | exact absurd rfl h | rfl
  | [_, _], h => first | exact absurd rfl h | rfl
  | [_, _, _], h => first | exact absurd rfl h | rfl
  | _ :: _ :: _ :: _ :: _, h => rfl
theorem lineEvR_5 (a b c : List UInt8) : lineEvR [[106, 111, 105, 110], a, b, c] = okEv [wholeR a, wholeR b, wholeR c] ⟨5, 0, 0, 0, false, wholeR a, wholeR b, wholeR c⟩ := by
  simp [lineEvR, wordL]
theorem lineEvR_w6 (ar : List (List UInt8)) (h : ar.length ≠ 2) : lineEvR ([114, 101, 116, 105, 114, 101] :: ar) = zeroEv := by
  match ar, h with
  | [], h => first | exact absurd rfl h | rfl
  | [_], h => first | exact absurd rfl h | rfl
  | [_, _], h => first | exact absurd rfl h | rfl
  | [_, _, _], h => first | exact absurd rfl h | rfl
  | _ :: _ :: _ :: _ :: _, h => rfl
theorem lineEvR_6 (a b : List UInt8) : lineEvR [[114, 101, 116, 105, 114, 101], a, b] = okEv [wholeR a, wholeR b] ⟨6, 0, 0, 0, false, wholeR a, wholeR b, 0⟩ := by
  simp [lineEvR, wordL]
theorem lineEvR_w7 (ar : List (List UInt8)) (h : ar.length ≠ 0) : lineEvR ([116, 105, 99, 107] :: ar) = zeroEv := by
  match ar, h with
  | [], h => first | exact absurd rfl h | rfl
  | [_], h => first | exact absurd rfl h | rfl
  | [_, _], h => first | exact absurd rfl h | rfl
  | [_, _, _], h => first | exact absurd rfl h | rfl
  | _ :: _ :: _ :: _ :: _, h => rfl
theorem lineEvR_7 : lineEvR [[116, 105, 99, 107]] = okEv [] ⟨7, 0, 0, 0, false, 0, 0, 0⟩ := by
  simp [lineEvR, wordL]
theorem le_shape (w : List UInt8) (ar : List (List UInt8)) (x : Int) (h1 : 1 ≤ x) (h2 : x ≤ 7) (e : wordL x = w) : (x = 1 ∧ w = [111, 112, 101, 110] ∧ ar.length ≠ 1) ∨ (∃ (a : List UInt8), x = 1 ∧ w = [111, 112, 101, 110] ∧ ar = [a]) ∨ (x = 2 ∧ w = [100, 97, 116, 97] ∧ ar.length ≠ 2) ∨ (∃ (a : List UInt8) (b : List UInt8), x = 2 ∧ w = [100, 97, 116, 97] ∧ ar = [a, b]) ∨ (x = 3 ∧ w = [99, 108, 111, 115, 101] ∧ ar.length ≠ 2) ∨ (∃ (a : List UInt8) (b : List UInt8), x = 3 ∧ w = [99, 108, 111, 115, 101] ∧ ar = [a, b]) ∨ (x = 4 ∧ w = [97, 110, 115, 119, 101, 114] ∧ ar.length ≠ 3) ∨ (∃ (a : List UInt8) (b : List UInt8), x = 4 ∧ w = [97, 110, 115, 119, 101, 114] ∧ ar = [a, b, [103, 111, 111, 100]]) ∨ (∃ (a : List UInt8) (b : List UInt8), x = 4 ∧ w = [97, 110, 115, 119, 101, 114] ∧ ar = [a, b, [98, 97, 100]]) ∨ (∃ (a : List UInt8) (b : List UInt8) (c : List UInt8), x = 4 ∧ w = [97, 110, 115, 119, 101, 114] ∧ ar = [a, b, c] ∧ c ≠ [103, 111, 111, 100] ∧ c ≠ [98, 97, 100]) ∨ (x = 5 ∧ w = [106, 111, 105, 110] ∧ ar.length ≠ 3) ∨ (∃ (a : List UInt8) (b : List UInt8) (c : List UInt8), x = 5 ∧ w = [106, 111, 105, 110] ∧ ar = [a, b, c]) ∨ (x = 6 ∧ w = [114, 101, 116, 105, 114, 101] ∧ ar.length ≠ 2) ∨ (∃ (a : List UInt8) (b : List UInt8), x = 6 ∧ w = [114, 101, 116, 105, 114, 101] ∧ ar = [a, b]) ∨ (x = 7 ∧ w = [116, 105, 99, 107] ∧ ar.length ≠ 0) ∨ (x = 7 ∧ w = [116, 105, 99, 107] ∧ ar = []) := by
  have hx : x = 1 ∨ x = 2 ∨ x = 3 ∨ x = 4 ∨ x = 5 ∨ x = 6 ∨ x = 7 := by omega
  rcases hx with rfl | rfl | rfl | rfl | rfl | rfl | rfl
  · have e : w = [111, 112, 101, 110] := e.symm
    subst e
    match ar with
    | [a] =>
      exact .inr (.inl ⟨a, rfl, rfl, rfl⟩)
    | [] => exact .inl ⟨rfl, rfl, by simp⟩
    | _ :: _ :: _ => exact .inl ⟨rfl, rfl, by simp⟩
  · have e : w = [100, 97, 116, 97] := e.symm
    subst e
    match ar with
    | [a, b] =>
      exact .inr (.inr (.inr (.inl ⟨a, b, rfl, rfl, rfl⟩)))
    | [] => exact .inr (.inr (.inl ⟨rfl, rfl, by simp⟩))
    | [_] => exact .inr (.inr (.inl ⟨rfl, rfl, by simp⟩))
    | _ :: _ :: _ :: _ => exact .inr (.inr (.inl ⟨rfl, rfl, by simp⟩))
  · have e : w = [99, 108, 111, 115, 101] := e.symm
    subst e
    match ar with
    | [a, b] =>
      exact .inr (.inr (.inr (.inr (.inr (.inl ⟨a, b, rfl, rfl, rfl⟩)))))
    | [] => exact .inr (.inr (.inr (.inr (.inl ⟨rfl, rfl, by simp⟩))))
    | [_] => exact .inr (.inr (.inr (.inr (.inl ⟨rfl, rfl, by simp⟩))))
    | _ :: _ :: _ :: _ => exact .inr (.inr (.inr (.inr (.inl ⟨rfl, rfl, by simp⟩))))
  · have e : w = [97, 110, 115, 119, 101, 114] := e.symm
    subst e
    match ar with
    | [a, b, c] =>
      by_cases cg : c = [103, 111, 111, 100]
      · subst cg; exact .inr (.inr (.inr (.inr (.inr (.inr (.inr (.inl ⟨a, b, rfl, rfl, rfl⟩)))))))
      by_cases cb : c = [98, 97, 100]
      · subst cb; exact .inr (.inr (.inr (.inr (.inr (.inr (.inr (.inr (.inl ⟨a, b, rfl, rfl, rfl⟩))))))))
      exact .inr (.inr (.inr (.inr (.inr (.inr (.inr (.inr (.inr (.inl ⟨a, b, c, rfl, rfl, rfl, cg, cb⟩)))))))))
    | [] => exact .inr (.inr (.inr (.inr (.inr (.inr (.inl ⟨rfl, rfl, by simp⟩))))))
    | [_] => exact .inr (.inr (.inr (.inr (.inr (.inr (.inl ⟨rfl, rfl, by simp⟩))))))
    | [_, _] => exact .inr (.inr (.inr (.inr (.inr (.inr (.inl ⟨rfl, rfl, by simp⟩))))))
    | _ :: _ :: _ :: _ :: _ => exact .inr (.inr (.inr (.inr (.inr (.inr (.inl ⟨rfl, rfl, by simp⟩))))))
  · have e : w = [106, 111, 105, 110] := e.symm
    subst e
    match ar with
    | [a, b, c] =>
      exact .inr (.inr (.inr (.inr (.inr (.inr (.inr (.inr (.inr (.inr (.inr (.inl ⟨a, b, c, rfl, rfl, rfl⟩)))))))))))
    | [] => exact .inr (.inr (.inr (.inr (.inr (.inr (.inr (.inr (.inr (.inr (.inl ⟨rfl, rfl, by simp⟩))))))))))
    | [_] => exact .inr (.inr (.inr (.inr (.inr (.inr (.inr (.inr (.inr (.inr (.inl ⟨rfl, rfl, by simp⟩))))))))))
    | [_, _] => exact .inr (.inr (.inr (.inr (.inr (.inr (.inr (.inr (.inr (.inr (.inl ⟨rfl, rfl, by simp⟩))))))))))
    | _ :: _ :: _ :: _ :: _ => exact .inr (.inr (.inr (.inr (.inr (.inr (.inr (.inr (.inr (.inr (.inl ⟨rfl, rfl, by simp⟩))))))))))
  · have e : w = [114, 101, 116, 105, 114, 101] := e.symm
    subst e
    match ar with
    | [a, b] =>
      exact .inr (.inr (.inr (.inr (.inr (.inr (.inr (.inr (.inr (.inr (.inr (.inr (.inr (.inl ⟨a, b, rfl, rfl, rfl⟩)))))))))))))
    | [] => exact .inr (.inr (.inr (.inr (.inr (.inr (.inr (.inr (.inr (.inr (.inr (.inr (.inl ⟨rfl, rfl, by simp⟩))))))))))))
    | [_] => exact .inr (.inr (.inr (.inr (.inr (.inr (.inr (.inr (.inr (.inr (.inr (.inr (.inl ⟨rfl, rfl, by simp⟩))))))))))))
    | _ :: _ :: _ :: _ => exact .inr (.inr (.inr (.inr (.inr (.inr (.inr (.inr (.inr (.inr (.inr (.inr (.inl ⟨rfl, rfl, by simp⟩))))))))))))
  · have e : w = [116, 105, 99, 107] := e.symm
    subst e
    match ar with
    | [] =>
      exact .inr (.inr (.inr (.inr (.inr (.inr (.inr (.inr (.inr (.inr (.inr (.inr (.inr (.inr (.inr (⟨rfl, rfl, rfl⟩)))))))))))))))
    | _ :: _ => exact .inr (.inr (.inr (.inr (.inr (.inr (.inr (.inr (.inr (.inr (.inr (.inr (.inr (.inr (.inl ⟨rfl, rfl, by simp⟩))))))))))))))
set_option maxRecDepth 100000 in
theorem lineEvent_ok (l : List UInt8) (hl : l.length ≤ 200000) : Fun Tryd.prog 19 [sA l] [] [] (.agg (fvs (encEv (lineEvR (splitSp l))))) [] := by
  refine fun_of_awp (rl := [.cell 2 37]) Tryd.func19 rfl Tryd.results19 Tryd.ntmps19 0 rfl (by simp) ?_
  intro w0 own0 ρ0 F hz
  obtain ⟨w, ar, hw⟩ : ∃ w ar, splitSp l = w :: ar := by
    cases h : splitSp l with
    | nil => exact absurd h (splitSp_ne l)
    | cons w ar => exact ⟨w, ar, rfl⟩
  refine awp_seq ?_
  refine awp_region ?_
  refine r_alloc z_37 rfl trivial rfl ?_
  refine reg_nil ?_
  refine awp_seq ?_
  refine awp_region ?_
  refine r_as rfl trivial rfl ?_
  refine reg_nil ?_
  refine awp_seq ?_
  refine awp_region ?_
  refine r_as rfl trivial rfl ?_
  refine reg_nil ?_
  refine awp_seq ?_
  refine awp_seq ?_
  refine awp_region ?_
  refine r_as rfl trivial rfl ?_
  refine reg_nil ?_
  refine awp_block ?_
  refine awp_le (le_virt (d := 3) 9 1 rfl) ?_
  refine awp_loopQ (X := Nat × Nat × List (List UInt8)) (SpQ l) (fun x => ⟨[(0, sA l), (2, .ptr 0 0 0 0), (3, .rw 1 1 0 x.2.2.length), (4, iA x.2.1), (5, iA x.1)], [(1, some (.rows 9 1 (strF x.2.2))), (0, some (.cells 37 (fvs (encEv zeroEv))))], 2⟩) (fun x => l.length + 1 - x.1) (0, 0, []) ?_ ?_ ?_
  · exact spQ_0 l
  · exact le_mk [(0, 0), (1, 1)] rfl hz (Nat.zero_le _) ⟨⟨_, rfl, .fv⟩, ⟨_, rfl, .ren rfl⟩, ⟨_, rfl, .ren rfl⟩, ⟨_, rfl, .fv⟩, ⟨_, rfl, .fv⟩, trivial⟩ ⟨⟨_, rfl, .ren rfl⟩, ⟨_, rfl, .ren rfl⟩, trivial⟩
  · intro x hx
    have hx1 := hx.1
    have hx2 := hx.2.1
    have hx3 := hx.2.2.1
    have hget : ∀ h : x.1 < l.length, l[((x.1 : Nat) : Int).toNat]? = some l[x.1] := fun h => by simp [h]
    refine awp_seq ?_
    refine awp_seq ?_
    refine awp_region ?_
    refine r_mv rfl trivial rfl ?_
    refine r_mv rfl trivial rfl ?_
    refine r_lens us_9 rfl trivial rfl ?_
    refine r_leq rfl rfl trivial rfl ?_
    refine reg_nil ?_
    first | refine awp_cond_dec rfl (fun h1 => ?_) (fun h1 => ?_) | refine awp_cond rfl (fun h1 => ?_) (fun h1 => ?_)
    · refine awp_skip ?_
      refine awp_seq ?_
      refine awp_block ?_
      refine awp_seq ?_
      refine awp_region ?_
      refine r_mv rfl trivial rfl ?_
      refine r_mv rfl trivial rfl ?_
      refine r_lens us_9 rfl trivial rfl ?_
      refine r_eqi rfl rfl trivial rfl ?_
      refine r_mv rfl trivial rfl ?_
      first | refine reg_split_dec 24 rfl (fun h2 => ?_) (fun h2 => ?_) | refine reg_split 24 rfl (fun h2 => ?_) (fun h2 => ?_)
      · refine r_skip ⟨_, rfl, .inl rfl⟩ rfl ?_
        refine r_skip ⟨_, rfl, .inl rfl⟩ rfl ?_
        refine r_skip ⟨_, rfl, .inl rfl⟩ rfl ?_
        refine r_skip ⟨_, rfl, .inl rfl⟩ rfl ?_
        refine r_pkt rfl rfl trivial rfl ?_
        refine reg_nil ?_
        refine awp_cond_t rfl ?_
        refine awp_seq ?_
        refine awp_region ?_
        refine r_mv rfl trivial rfl ?_
        refine r_mv rfl trivial rfl ?_
        refine r_mv rfl trivial rfl ?_
        refine r_mv rfl trivial rfl ?_
        refine r_cutslh us_9 rfl rfl rfl (by omega) (by omega) (by omega) trivial rfl ?_
        refine r_bslice (rs := [[_]]) sl_69 ty_9 rfl z_9 rfl rfl rfl rfl rfl rfl rfl trivial rfl ?_
        first | refine r_appr sl_69 ty_9 rfl z_9 rfl rfl rfl (strF_len _).symm (by simp [strF_len, maxLen_eq]; omega) (by simp [strF_len]; omega) trivial rfl ?_ | refine r_appw sl_69 ty_9 rfl z_9 rfl rfl rfl rfl (strF_len _).symm rfl rfl (by simp [strF_len, maxLen_eq]; omega) (by simp [strF_len]; omega) trivial rfl ?_
        refine r_as rfl trivial rfl ?_
        refine reg_nil ?_
        refine awp_region ?_
        refine r_mv rfl trivial rfl ?_
        refine r_add rfl rfl (rng64 (by first | omega | simp [intsF])) trivial rfl ?_
        refine r_as rfl trivial rfl ?_
        refine reg_nil ?_
        refine awp_region ?_
        refine r_mv rfl trivial rfl ?_
        refine r_add rfl rfl (rng64 (by first | omega | simp [intsF])) trivial rfl ?_
        refine r_as rfl trivial rfl ?_
        refine reg_nil ?_
        first | exact ⟨_, spQ_end hx (by omega), le_mk [(0, 0), (1, 3)] rfl hz (Nat.zero_le _) ⟨⟨_, rfl, .fv⟩, ⟨_, rfl, .ren rfl⟩, ⟨_, rfl, .ren (by simp [AV.ren, ren, strF_len] <;> rfl)⟩, ⟨_, rfl, .fv⟩, ⟨_, rfl, .fv⟩, trivial⟩ ⟨⟨_, rfl, .ren (by simp [Blk.ren, strF_snoc] <;> rfl)⟩, ⟨_, rfl, .ren rfl⟩, trivial⟩, (show l.length + 1 - (x.1 + 1) < l.length + 1 - x.1 by have := hx.1; omega)⟩ | exact ⟨_, spQ_sp hx (by omega) (u8_eq' (by assumption)), le_mk [(0, 0), (1, 3)] rfl hz (Nat.zero_le _) ⟨⟨_, rfl, .fv⟩, ⟨_, rfl, .ren rfl⟩, ⟨_, rfl, .ren (by simp [AV.ren, ren, strF_len] <;> rfl)⟩, ⟨_, rfl, .fv⟩, ⟨_, rfl, .fv⟩, trivial⟩ ⟨⟨_, rfl, .ren (by simp [Blk.ren, strF_snoc] <;> rfl)⟩, ⟨_, rfl, .ren rfl⟩, trivial⟩, (show l.length + 1 - (x.1 + 1) < l.length + 1 - x.1 by have := hx.1; omega)⟩ | exact ⟨_, spQ_go hx (by omega) (ne32 (by assumption)), le_mk [(0, 0), (1, 1)] rfl hz (Nat.zero_le _) ⟨⟨_, rfl, .fv⟩, ⟨_, rfl, .ren rfl⟩, ⟨_, rfl, .ren rfl⟩, ⟨_, rfl, .fv⟩, ⟨_, rfl, .fv⟩, trivial⟩ ⟨⟨_, rfl, .ren rfl⟩, ⟨_, rfl, .ren rfl⟩, trivial⟩, (show l.length + 1 - (x.1 + 1) < l.length + 1 - x.1 by have := hx.1; omega)⟩
      · refine r_mv rfl ⟨_, rfl, rfl⟩ rfl ?_
        refine r_mv rfl ⟨_, rfl, rfl⟩ rfl ?_
        refine r_ixs us_9 rfl rfl (by omega) (hget (by omega)) ⟨_, rfl, rfl⟩ rfl ?_
        refine r_eqi rfl rfl ⟨_, rfl, rfl⟩ rfl ?_
        refine r_pkf rfl rfl trivial rfl ?_
        refine reg_nil ?_
        first | refine awp_cond_dec rfl (fun h3 => ?_) (fun h3 => ?_) | refine awp_cond rfl (fun h3 => ?_) (fun h3 => ?_)
        · refine awp_seq ?_
          refine awp_region ?_
          refine r_mv rfl trivial rfl ?_
          refine r_mv rfl trivial rfl ?_
          refine r_mv rfl trivial rfl ?_
          refine r_mv rfl trivial rfl ?_
          refine r_cutslh us_9 rfl rfl rfl (by omega) (by omega) (by omega) trivial rfl ?_
          refine r_bslice (rs := [[_]]) sl_69 ty_9 rfl z_9 rfl rfl rfl rfl rfl rfl rfl trivial rfl ?_
          first | refine r_appr sl_69 ty_9 rfl z_9 rfl rfl rfl (strF_len _).symm (by simp [strF_len, maxLen_eq]; omega) (by simp [strF_len]; omega) trivial rfl ?_ | refine r_appw sl_69 ty_9 rfl z_9 rfl rfl rfl rfl (strF_len _).symm rfl rfl (by simp [strF_len, maxLen_eq]; omega) (by simp [strF_len]; omega) trivial rfl ?_
          refine r_as rfl trivial rfl ?_
          refine reg_nil ?_
          refine awp_region ?_
          refine r_mv rfl trivial rfl ?_
          refine r_add rfl rfl (rng64 (by first | omega | simp [intsF])) trivial rfl ?_
          refine r_as rfl trivial rfl ?_
          refine reg_nil ?_
          refine awp_region ?_
          refine r_mv rfl trivial rfl ?_
          refine r_add rfl rfl (rng64 (by first | omega | simp [intsF])) trivial rfl ?_
          refine r_as rfl trivial rfl ?_
          refine reg_nil ?_
          first | exact ⟨_, spQ_end hx (by omega), le_mk [(0, 0), (1, 3)] rfl hz (Nat.zero_le _) ⟨⟨_, rfl, .fv⟩, ⟨_, rfl, .ren rfl⟩, ⟨_, rfl, .ren (by simp [AV.ren, ren, strF_len] <;> rfl)⟩, ⟨_, rfl, .fv⟩, ⟨_, rfl, .fv⟩, trivial⟩ ⟨⟨_, rfl, .ren (by simp [Blk.ren, strF_snoc] <;> rfl)⟩, ⟨_, rfl, .ren rfl⟩, trivial⟩, (show l.length + 1 - (x.1 + 1) < l.length + 1 - x.1 by have := hx.1; omega)⟩ | exact ⟨_, spQ_sp hx (by omega) (u8_eq' (by assumption)), le_mk [(0, 0), (1, 3)] rfl hz (Nat.zero_le _) ⟨⟨_, rfl, .fv⟩, ⟨_, rfl, .ren rfl⟩, ⟨_, rfl, .ren (by simp [AV.ren, ren, strF_len] <;> rfl)⟩, ⟨_, rfl, .fv⟩, ⟨_, rfl, .fv⟩, trivial⟩ ⟨⟨_, rfl, .ren (by simp [Blk.ren, strF_snoc] <;> rfl)⟩, ⟨_, rfl, .ren rfl⟩, trivial⟩, (show l.length + 1 - (x.1 + 1) < l.length + 1 - x.1 by have := hx.1; omega)⟩ | exact ⟨_, spQ_go hx (by omega) (ne32 (by assumption)), le_mk [(0, 0), (1, 1)] rfl hz (Nat.zero_le _) ⟨⟨_, rfl, .fv⟩, ⟨_, rfl, .ren rfl⟩, ⟨_, rfl, .ren rfl⟩, ⟨_, rfl, .fv⟩, ⟨_, rfl, .fv⟩, trivial⟩ ⟨⟨_, rfl, .ren rfl⟩, ⟨_, rfl, .ren rfl⟩, trivial⟩, (show l.length + 1 - (x.1 + 1) < l.length + 1 - x.1 by have := hx.1; omega)⟩
        · refine awp_skip ?_
          refine awp_region ?_
          refine r_mv rfl trivial rfl ?_
          refine r_add rfl rfl (rng64 (by first | omega | simp [intsF])) trivial rfl ?_
          refine r_as rfl trivial rfl ?_
          refine reg_nil ?_
          first | exact ⟨_, spQ_end hx (by omega), le_mk [(0, 0), (1, 3)] rfl hz (Nat.zero_le _) ⟨⟨_, rfl, .fv⟩, ⟨_, rfl, .ren rfl⟩, ⟨_, rfl, .ren (by simp [AV.ren, ren, strF_len] <;> rfl)⟩, ⟨_, rfl, .fv⟩, ⟨_, rfl, .fv⟩, trivial⟩ ⟨⟨_, rfl, .ren (by simp [Blk.ren, strF_snoc] <;> rfl)⟩, ⟨_, rfl, .ren rfl⟩, trivial⟩, (show l.length + 1 - (x.1 + 1) < l.length + 1 - x.1 by have := hx.1; omega)⟩ | exact ⟨_, spQ_sp hx (by omega) (u8_eq' (by assumption)), le_mk [(0, 0), (1, 3)] rfl hz (Nat.zero_le _) ⟨⟨_, rfl, .fv⟩, ⟨_, rfl, .ren rfl⟩, ⟨_, rfl, .ren (by simp [AV.ren, ren, strF_len] <;> rfl)⟩, ⟨_, rfl, .fv⟩, ⟨_, rfl, .fv⟩, trivial⟩ ⟨⟨_, rfl, .ren (by simp [Blk.ren, strF_snoc] <;> rfl)⟩, ⟨_, rfl, .ren rfl⟩, trivial⟩, (show l.length + 1 - (x.1 + 1) < l.length + 1 - x.1 by have := hx.1; omega)⟩ | exact ⟨_, spQ_go hx (by omega) (ne32 (by assumption)), le_mk [(0, 0), (1, 1)] rfl hz (Nat.zero_le _) ⟨⟨_, rfl, .fv⟩, ⟨_, rfl, .ren rfl⟩, ⟨_, rfl, .ren rfl⟩, ⟨_, rfl, .fv⟩, ⟨_, rfl, .fv⟩, trivial⟩ ⟨⟨_, rfl, .ren rfl⟩, ⟨_, rfl, .ren rfl⟩, trivial⟩, (show l.length + 1 - (x.1 + 1) < l.length + 1 - x.1 by have := hx.1; omega)⟩
    · refine awp_exit ?_
      refine awp_seq ?_
      refine awp_seq ?_
      (have e := (spQ_done hx (by assumption)).trans hw
       obtain ⟨x1, x2, x3⟩ := x
       simp only at e
       subst e)
      refine awp_region ?_
      refine r_as rfl trivial rfl ?_
      refine reg_nil ?_
      refine awp_block ?_
      refine awp_loopQ (X := Int) (LQ w) (fun k => ⟨[(0, sA l), (2, .ptr 0 0 0 0), (3, .rw 1 1 0 (w :: ar).length), (6, iA k)], [(1, some (.rows 9 1 (strF (w :: ar)))), (0, some (.cells 37 (fvs (encEv zeroEv))))], 2⟩) (fun k => (8 - k).toNat) 1 ?_ ?_ ?_
      · exact lq_1 w
      · exact le_mk [(0, 0), (1, 1)] rfl hz (Nat.zero_le _) ⟨⟨_, rfl, .fv⟩, ⟨_, rfl, .ren rfl⟩, ⟨_, rfl, .ren rfl⟩, ⟨_, rfl, .fv⟩, trivial⟩ ⟨⟨_, rfl, .ren rfl⟩, ⟨_, rfl, .ren rfl⟩, trivial⟩
      · intro k hk
        have hk1 := hk.1
        have hk2 := hk.2.1
        refine awp_seq ?_
        refine awp_seq ?_
        refine awp_region ?_
        refine r_mv rfl trivial rfl ?_
        refine r_leq rfl rfl trivial rfl ?_
        refine reg_nil ?_
        first | refine awp_cond_dec rfl (fun h4 => ?_) (fun h4 => ?_) | refine awp_cond rfl (fun h4 => ?_) (fun h4 => ?_)
        · refine awp_skip ?_
          refine awp_seq ?_
          refine awp_block ?_
          refine awp_seq ?_
          refine awp_seq ?_
          refine awp_draw mix rfl ?_
          refine r_mv rfl trivial rfl ?_
          refine r_call (word_ok k) cb_29 rfl rfl rfl ?_ trivial rfl ?_
          · (repeat (first | exact .nil | refine .cons .fv ?_ | refine .cons (.aggf' rfl) ?_ | refine .cons .nil ?_ | refine .cons (.ren rfl) ?_))
          refine r_mv rfl trivial rfl ?_
          first | refine r_ixr sl_69 ty_9 rfl rfl (by omega) (by first | exact map_get (by omega) | exact map_geti (by omega)) trivial rfl ?_ | refine r_ixw sl_69 ty_9 rfl rfl (by omega) (by first | omega | (simp; done) | (simp; omega)) trivial rfl ?_
          first | refine r_ld ty_9 rfl rfl rfl trivial rfl ?_ | refine r_ldr ty_9 rfl rfl trivial rfl ?_ | refine r_ldo ty_9 rfl rfl (by first | rfl | assumption) rfl trivial rfl ?_
          refine r_nestr rfl rfl trivial rfl ?_
          refine reg_nil ⟨rfl, ?_⟩
          first | refine awp_cond_dec rfl (fun h5 => ?_) (fun h5 => ?_) | refine awp_cond rfl (fun h5 => ?_) (fun h5 => ?_)
          · refine awp_exit ?_
            refine awp_region ?_
            refine r_mv rfl trivial rfl ?_
            refine r_add rfl rfl (rng64 (by first | omega | simp [intsF])) trivial rfl ?_
            refine r_as rfl trivial rfl ?_
            refine reg_nil ?_
            exact ⟨_, lq_step hk (by omega) (by assumption), le_mk [(0, 0), (1, 1)] rfl hz (Nat.zero_le _) ⟨⟨_, rfl, .fv⟩, ⟨_, rfl, .ren rfl⟩, ⟨_, rfl, .ren rfl⟩, ⟨_, rfl, .fv⟩, trivial⟩ ⟨⟨_, rfl, .ren rfl⟩, ⟨_, rfl, .ren rfl⟩, trivial⟩, (show (8 - (k + 1)).toNat < (8 - k).toNat by omega)⟩
          · refine awp_skip ?_
            refine awp_seq ?_
            have hke : wordL k = w := Classical.not_not.1 (by assumption)
            rcases le_shape w ar k hk1 (by omega) hke with ⟨rfl, rfl, hn⟩ | ⟨a, rfl, rfl, rfl⟩ | ⟨rfl, rfl, hn⟩ | ⟨a, b, rfl, rfl, rfl⟩ | ⟨rfl, rfl, hn⟩ | ⟨a, b, rfl, rfl, rfl⟩ | ⟨rfl, rfl, hn⟩ | ⟨a, b, rfl, rfl, rfl⟩ | ⟨a, b, rfl, rfl, rfl⟩ | ⟨a, b, c, rfl, rfl, rfl, hc1, hc2⟩ | ⟨rfl, rfl, hn⟩ | ⟨a, b, c, rfl, rfl, rfl⟩ | ⟨rfl, rfl, hn⟩ | ⟨a, b, rfl, rfl, rfl⟩ | ⟨rfl, rfl, hn⟩ | ⟨rfl, rfl, rfl⟩
            · refine awp_region ?_
              refine r_mv rfl trivial rfl ?_
              refine r_build pl_37 z_37 rfl rfl trivial rfl ?_
              refine r_callh [(0, 2)] 3 1 (numbersw_1) cb_26 rfl rfl rfl ?_ .nil rfl rfl rfl rfl trivial rfl ?_
              · (repeat (first | exact .nil | refine .cons .fv ?_ | refine .cons (.aggf' rfl) ?_ | refine .cons .nil ?_ | refine .cons (.ren rfl) ?_))
              refine r_mv rfl trivial rfl ?_
              refine r_ext rfl rfl trivial rfl ?_
              refine r_ext rfl rfl trivial rfl ?_
              refine r_ext rfl rfl trivial rfl ?_
              refine r_ext rfl rfl trivial rfl ?_
              refine r_as rfl trivial rfl ?_
              refine r_as rfl trivial rfl ?_
              refine r_as rfl trivial rfl ?_
              refine r_as rfl trivial rfl ?_
              refine reg_nil ?_
              refine awp_seq ?_
              refine awp_seq ?_
              refine awp_region ?_
              refine r_mv rfl trivial rfl ?_
              first | refine r_lenr sl_69 rfl trivial rfl ?_ | refine r_lenw sl_69 rfl trivial rfl ?_ | refine r_len0 sl_69 rfl trivial rfl ?_
              refine r_mv rfl trivial rfl ?_
              first | refine r_lenr sl_63 rfl trivial rfl ?_ | refine r_lenw sl_63 rfl trivial rfl ?_ | refine r_len0 sl_63 rfl trivial rfl ?_
              refine r_add rfl rfl (rng64 (by first | omega | simp [intsF])) trivial rfl ?_
              refine r_nei rfl rfl trivial rfl ?_
              refine reg_nil ?_
              refine awp_cond_yes rfl (by first | (simp; omega) | (simp [intsF]; omega) | (have := hn; simp [intsF]; omega)) ?_
              refine awp_seq ?_
              refine awp_region ?_
              refine r_build pl_37 z_37 rfl rfl trivial rfl ?_
              first | refine r_st ty_37 rfl rfl rfl rfl rfl rfl rfl trivial ?_ | refine r_sto ty_37 rfl rfl rfl rfl (by first | rfl | assumption) rfl rfl trivial ?_
              refine reg_nil ?_
              refine awp_ret ?_
              refine fin0 (.cons (.agg rfl rfl ty_37 (Nat.le_of_ble_eq_true rfl)) .nil) (.aggf' (l := encEv zeroEv) rfl) ?_
              (rw [hw, lineEvR_w1 _ hn])
            · refine awp_region ?_
              refine r_mv rfl trivial rfl ?_
              refine r_build pl_37 z_37 rfl rfl trivial rfl ?_
              refine r_callh [(0, 2)] 3 1 (numbersw_1) cb_26 rfl rfl rfl ?_ .nil rfl rfl rfl rfl trivial rfl ?_
              · (repeat (first | exact .nil | refine .cons .fv ?_ | refine .cons (.aggf' rfl) ?_ | refine .cons .nil ?_ | refine .cons (.ren rfl) ?_))
              refine r_mv rfl trivial rfl ?_
              refine r_ext rfl rfl trivial rfl ?_
              refine r_ext rfl rfl trivial rfl ?_
              refine r_ext rfl rfl trivial rfl ?_
              refine r_ext rfl rfl trivial rfl ?_
              refine r_as rfl trivial rfl ?_
              refine r_as rfl trivial rfl ?_
              refine r_as rfl trivial rfl ?_
              refine r_as rfl trivial rfl ?_
              refine reg_nil ?_
              refine awp_seq ?_
              refine awp_seq ?_
              refine awp_region ?_
              refine r_mv rfl trivial rfl ?_
              first | refine r_lenr sl_69 rfl trivial rfl ?_ | refine r_lenw sl_69 rfl trivial rfl ?_ | refine r_len0 sl_69 rfl trivial rfl ?_
              refine r_mv rfl trivial rfl ?_
              first | refine r_lenr sl_63 rfl trivial rfl ?_ | refine r_lenw sl_63 rfl trivial rfl ?_ | refine r_len0 sl_63 rfl trivial rfl ?_
              refine r_add rfl rfl (rng64 (by first | omega | simp [intsF])) trivial rfl ?_
              refine r_nei rfl rfl trivial rfl ?_
              refine reg_nil ?_
              refine awp_cond_f rfl ?_
              refine awp_skip ?_
              refine awp_seq ?_
              refine awp_seq ?_
              refine awp_region ?_
              refine r_as rfl trivial rfl ?_
              refine reg_nil ?_
              refine awp_block ?_
              refine awp_unroll 2 ?_
              refine unr_succ ?_
              refine awp_seq ?_
              refine awp_seq ?_
              refine awp_region ?_
              refine r_mv rfl trivial rfl ?_
              refine r_mv rfl trivial rfl ?_
              first | refine r_lenr sl_63 rfl trivial rfl ?_ | refine r_lenw sl_63 rfl trivial rfl ?_ | refine r_len0 sl_63 rfl trivial rfl ?_
              refine r_lss rfl rfl trivial rfl ?_
              refine reg_nil ?_
              refine awp_cond_t rfl ?_
              refine awp_skip ?_
              refine awp_seq ?_
              refine awp_block ?_
              refine awp_seq ?_
              refine awp_region ?_
              refine r_mv rfl trivial rfl ?_
              refine r_mv rfl trivial rfl ?_
              refine r_add rfl rfl (rng64 (by first | omega | simp [intsF])) trivial rfl ?_
              first | refine r_ixr sl_69 ty_9 rfl rfl (by omega) (by first | exact map_get (by omega) | exact map_geti (by omega)) trivial rfl ?_ | refine r_ixw sl_69 ty_9 rfl rfl (by omega) (by first | omega | (simp; done) | (simp; omega)) trivial rfl ?_
              first | refine r_ld ty_9 rfl rfl rfl trivial rfl ?_ | refine r_ldr ty_9 rfl rfl trivial rfl ?_ | refine r_ldo ty_9 rfl rfl (by first | rfl | assumption) rfl trivial rfl ?_
              refine r_as rfl trivial rfl ?_
              refine reg_nil ?_
              refine awp_seq ?_
              refine awp_region ?_
              refine r_mv rfl trivial rfl ?_
              refine r_mv rfl trivial rfl ?_
              refine r_mv rfl trivial rfl ?_
              refine r_call (whole_ok a) cb_36 rfl rfl rfl ?_ trivial rfl ?_
              · (repeat (first | exact .nil | refine .cons .fv ?_ | refine .cons (.aggf' rfl) ?_ | refine .cons .nil ?_ | refine .cons (.ren rfl) ?_))
              first | refine r_ixr sl_63 ty_3 rfl rfl (by omega) (by first | exact map_get (by omega) | exact map_geti (by omega)) trivial rfl ?_ | refine r_ixw sl_63 ty_3 rfl rfl (by omega) (by first | omega | (simp; done) | (simp; omega)) trivial rfl ?_
              first | refine r_st ty_3 rfl rfl rfl rfl rfl rfl rfl trivial ?_ | refine r_sto ty_3 rfl rfl rfl rfl (by first | rfl | assumption) rfl rfl trivial ?_
              refine reg_nil ?_
              refine awp_seq ?_
              refine awp_seq ?_
              refine awp_region ?_
              refine r_mv rfl trivial rfl ?_
              refine r_eqi rfl rfl trivial rfl ?_
              refine r_mv rfl trivial rfl ?_
              refine r_skip ⟨_, rfl, .inl rfl⟩ rfl ?_
              refine r_skip ⟨_, rfl, .inl rfl⟩ rfl ?_
              refine r_pkf rfl rfl trivial rfl ?_
              refine reg_nil ?_
              refine awp_cond_f rfl ?_
              refine awp_skip ?_
              refine awp_seq ?_
              refine awp_region ?_
              refine r_mv rfl trivial rfl ?_
              refine r_mv rfl trivial rfl ?_
              first | refine r_ixr sl_63 ty_3 rfl rfl (by omega) (by first | exact map_get (by omega) | exact map_geti (by omega)) trivial rfl ?_ | refine r_ixw sl_63 ty_3 rfl rfl (by omega) (by first | omega | (simp; done) | (simp; omega)) trivial rfl ?_
              first | refine r_ld ty_3 rfl rfl rfl trivial rfl ?_ | refine r_ldr ty_3 rfl rfl trivial rfl ?_ | refine r_ldo ty_3 rfl rfl (by first | rfl | assumption) rfl trivial rfl ?_
              refine r_lss rfl rfl trivial rfl ?_
              refine reg_nil ?_
              first | refine awp_cond_dec rfl (fun h6 => ?_) (fun h6 => ?_) | refine awp_cond rfl (fun h6 => ?_) (fun h6 => ?_)
              · refine awp_seq ?_
                refine awp_region ?_
                refine r_build pl_37 z_37 rfl rfl trivial rfl ?_
                first | refine r_st ty_37 rfl rfl rfl rfl rfl rfl rfl trivial ?_ | refine r_sto ty_37 rfl rfl rfl rfl (by first | rfl | assumption) rfl rfl trivial ?_
                refine reg_nil ?_
                refine awp_ret ?_
                refine fin0 (.cons (.agg rfl rfl ty_37 (Nat.le_of_ble_eq_true rfl)) .nil) (.aggf' (l := encEv zeroEv) rfl) ?_
                (rw [hw, lineEvR_1 a, okEv, if_pos (by first | (simp; omega) | simp_all)])
              · refine awp_skip ?_
                refine awp_region ?_
                refine r_mv rfl trivial rfl ?_
                refine r_add rfl rfl (rng64 (by first | omega | simp [intsF])) trivial rfl ?_
                refine r_as rfl trivial rfl ?_
                refine reg_nil ?_
                refine unr_succ ?_
                refine awp_seq ?_
                refine awp_seq ?_
                refine awp_region ?_
                refine r_mv rfl trivial rfl ?_
                refine r_mv rfl trivial rfl ?_
                first | refine r_lenr sl_63 rfl trivial rfl ?_ | refine r_lenw sl_63 rfl trivial rfl ?_ | refine r_len0 sl_63 rfl trivial rfl ?_
                refine r_lss rfl rfl trivial rfl ?_
                refine reg_nil ?_
                refine awp_cond_f rfl ?_
                refine awp_exit ?_
                refine awp_seq ?_
                refine awp_region ?_
                refine r_mv rfl trivial rfl ?_
                refine r_mv rfl trivial rfl ?_
                refine r_callh [(0, 2)] 3 1 (eventOfw_1 (wholeR a)) cb_28 rfl rfl rfl ?_ (.cons rfl .nil) rfl rfl rfl rfl trivial rfl ?_
                · (repeat (first | exact .nil | refine .cons .fv ?_ | refine .cons (.aggf' rfl) ?_ | refine .cons .nil ?_ | refine .cons (.ren rfl) ?_))
                refine r_alloc z_37 rfl trivial rfl ?_
                first | refine r_st ty_37 rfl rfl rfl rfl rfl rfl rfl trivial ?_ | refine r_sto ty_37 rfl rfl rfl rfl (by first | rfl | assumption) rfl rfl trivial ?_
                refine reg_nil ?_
                refine awp_seq ?_
                refine awp_seq ?_
                refine awp_region ?_
                first | refine r_lda ty_37 rfl rfl rfl rfl trivial rfl ?_ | refine r_ldra ty_37 rfl rfl rfl trivial rfl ?_ | refine r_ldoa ty_37 rfl rfl (by first | rfl | assumption) rfl rfl trivial rfl ?_
                refine r_call (fault_ok ⟨1, wholeR a, 0, 0, false, 0, 0, 0⟩) cb_15 rfl rfl rfl ?_ trivial rfl ?_
                · (repeat (first | exact .nil | refine .cons .fv ?_ | refine .cons (.aggf' rfl) ?_ | refine .cons .nil ?_ | refine .cons (.ren rfl) ?_))
                refine r_nei rfl rfl trivial rfl ?_
                refine reg_nil ?_
                first | refine awp_cond_dec rfl (fun h7 => ?_) (fun h7 => ?_) | refine awp_cond rfl (fun h7 => ?_) (fun h7 => ?_)
                · refine awp_seq ?_
                  refine awp_region ?_
                  refine r_build pl_37 z_37 rfl rfl trivial rfl ?_
                  first | refine r_st ty_37 rfl rfl rfl rfl rfl rfl rfl trivial ?_ | refine r_sto ty_37 rfl rfl rfl rfl (by first | rfl | assumption) rfl rfl trivial ?_
                  refine reg_nil ?_
                  refine awp_ret ?_
                  refine fin0 (.cons (.agg rfl rfl ty_37 (Nat.le_of_ble_eq_true rfl)) .nil) (.aggf' (l := encEv zeroEv) rfl) ?_
                  (rw [hw, lineEvR_1 a, okEv, if_pos (by first | (simp; omega) | simp_all)])
                · refine awp_skip ?_
                  refine awp_seq ?_
                  refine awp_region ?_
                  first | refine r_lda ty_37 rfl rfl rfl rfl trivial rfl ?_ | refine r_ldra ty_37 rfl rfl rfl trivial rfl ?_ | refine r_ldoa ty_37 rfl rfl (by first | rfl | assumption) rfl rfl trivial rfl ?_
                  first | refine r_st ty_37 rfl rfl rfl rfl rfl rfl rfl trivial ?_ | refine r_sto ty_37 rfl rfl rfl rfl (by first | rfl | assumption) rfl rfl trivial ?_
                  refine reg_nil ?_
                  refine awp_ret ?_
                  refine fin0 (.cons (.agg rfl rfl ty_37 (Nat.le_of_ble_eq_true rfl)) .nil) (.aggf' (l := encEv ⟨1, wholeR a, 0, 0, false, 0, 0, 0⟩) rfl) ?_
                  (rw [hw, lineEvR_1 a, okEv, if_neg (by first | (simp; omega) | (simp_all; done) | (simp_all; omega))])
            · refine awp_region ?_
              refine r_mv rfl trivial rfl ?_
              refine r_build pl_37 z_37 rfl rfl trivial rfl ?_
              refine r_callh [(0, 2)] 3 1 (numbersw_2) cb_26 rfl rfl rfl ?_ .nil rfl rfl rfl rfl trivial rfl ?_
              · (repeat (first | exact .nil | refine .cons .fv ?_ | refine .cons (.aggf' rfl) ?_ | refine .cons .nil ?_ | refine .cons (.ren rfl) ?_))
              refine r_mv rfl trivial rfl ?_
              refine r_ext rfl rfl trivial rfl ?_
              refine r_ext rfl rfl trivial rfl ?_
              refine r_ext rfl rfl trivial rfl ?_
              refine r_ext rfl rfl trivial rfl ?_
              refine r_as rfl trivial rfl ?_
              refine r_as rfl trivial rfl ?_
              refine r_as rfl trivial rfl ?_
              refine r_as rfl trivial rfl ?_
              refine reg_nil ?_
              refine awp_seq ?_
              refine awp_seq ?_
              refine awp_region ?_
              refine r_mv rfl trivial rfl ?_
              first | refine r_lenr sl_69 rfl trivial rfl ?_ | refine r_lenw sl_69 rfl trivial rfl ?_ | refine r_len0 sl_69 rfl trivial rfl ?_
              refine r_mv rfl trivial rfl ?_
              first | refine r_lenr sl_63 rfl trivial rfl ?_ | refine r_lenw sl_63 rfl trivial rfl ?_ | refine r_len0 sl_63 rfl trivial rfl ?_
              refine r_add rfl rfl (rng64 (by first | omega | simp [intsF])) trivial rfl ?_
              refine r_nei rfl rfl trivial rfl ?_
              refine reg_nil ?_
              refine awp_cond_yes rfl (by first | (simp; omega) | (simp [intsF]; omega) | (have := hn; simp [intsF]; omega)) ?_
              refine awp_seq ?_
              refine awp_region ?_
              refine r_build pl_37 z_37 rfl rfl trivial rfl ?_
              first | refine r_st ty_37 rfl rfl rfl rfl rfl rfl rfl trivial ?_ | refine r_sto ty_37 rfl rfl rfl rfl (by first | rfl | assumption) rfl rfl trivial ?_
              refine reg_nil ?_
              refine awp_ret ?_
              refine fin0 (.cons (.agg rfl rfl ty_37 (Nat.le_of_ble_eq_true rfl)) .nil) (.aggf' (l := encEv zeroEv) rfl) ?_
              (rw [hw, lineEvR_w2 _ hn])
            · refine awp_region ?_
              refine r_mv rfl trivial rfl ?_
              refine r_build pl_37 z_37 rfl rfl trivial rfl ?_
              refine r_callh [(0, 2)] 3 1 (numbersw_2) cb_26 rfl rfl rfl ?_ .nil rfl rfl rfl rfl trivial rfl ?_
              · (repeat (first | exact .nil | refine .cons .fv ?_ | refine .cons (.aggf' rfl) ?_ | refine .cons .nil ?_ | refine .cons (.ren rfl) ?_))
              refine r_mv rfl trivial rfl ?_
              refine r_ext rfl rfl trivial rfl ?_
              refine r_ext rfl rfl trivial rfl ?_
              refine r_ext rfl rfl trivial rfl ?_
              refine r_ext rfl rfl trivial rfl ?_
              refine r_as rfl trivial rfl ?_
              refine r_as rfl trivial rfl ?_
              refine r_as rfl trivial rfl ?_
              refine r_as rfl trivial rfl ?_
              refine reg_nil ?_
              refine awp_seq ?_
              refine awp_seq ?_
              refine awp_region ?_
              refine r_mv rfl trivial rfl ?_
              first | refine r_lenr sl_69 rfl trivial rfl ?_ | refine r_lenw sl_69 rfl trivial rfl ?_ | refine r_len0 sl_69 rfl trivial rfl ?_
              refine r_mv rfl trivial rfl ?_
              first | refine r_lenr sl_63 rfl trivial rfl ?_ | refine r_lenw sl_63 rfl trivial rfl ?_ | refine r_len0 sl_63 rfl trivial rfl ?_
              refine r_add rfl rfl (rng64 (by first | omega | simp [intsF])) trivial rfl ?_
              refine r_nei rfl rfl trivial rfl ?_
              refine reg_nil ?_
              refine awp_cond_f rfl ?_
              refine awp_skip ?_
              refine awp_seq ?_
              refine awp_seq ?_
              refine awp_region ?_
              refine r_as rfl trivial rfl ?_
              refine reg_nil ?_
              refine awp_block ?_
              refine awp_unroll 3 ?_
              refine unr_succ ?_
              refine awp_seq ?_
              refine awp_seq ?_
              refine awp_region ?_
              refine r_mv rfl trivial rfl ?_
              refine r_mv rfl trivial rfl ?_
              first | refine r_lenr sl_63 rfl trivial rfl ?_ | refine r_lenw sl_63 rfl trivial rfl ?_ | refine r_len0 sl_63 rfl trivial rfl ?_
              refine r_lss rfl rfl trivial rfl ?_
              refine reg_nil ?_
              refine awp_cond_t rfl ?_
              refine awp_skip ?_
              refine awp_seq ?_
              refine awp_block ?_
              refine awp_seq ?_
              refine awp_region ?_
              refine r_mv rfl trivial rfl ?_
              refine r_mv rfl trivial rfl ?_
              refine r_add rfl rfl (rng64 (by first | omega | simp [intsF])) trivial rfl ?_
              first | refine r_ixr sl_69 ty_9 rfl rfl (by omega) (by first | exact map_get (by omega) | exact map_geti (by omega)) trivial rfl ?_ | refine r_ixw sl_69 ty_9 rfl rfl (by omega) (by first | omega | (simp; done) | (simp; omega)) trivial rfl ?_
              first | refine r_ld ty_9 rfl rfl rfl trivial rfl ?_ | refine r_ldr ty_9 rfl rfl trivial rfl ?_ | refine r_ldo ty_9 rfl rfl (by first | rfl | assumption) rfl trivial rfl ?_
              refine r_as rfl trivial rfl ?_
              refine reg_nil ?_
              refine awp_seq ?_
              refine awp_region ?_
              refine r_mv rfl trivial rfl ?_
              refine r_mv rfl trivial rfl ?_
              refine r_mv rfl trivial rfl ?_
              refine r_call (whole_ok a) cb_36 rfl rfl rfl ?_ trivial rfl ?_
              · (repeat (first | exact .nil | refine .cons .fv ?_ | refine .cons (.aggf' rfl) ?_ | refine .cons .nil ?_ | refine .cons (.ren rfl) ?_))
              first | refine r_ixr sl_63 ty_3 rfl rfl (by omega) (by first | exact map_get (by omega) | exact map_geti (by omega)) trivial rfl ?_ | refine r_ixw sl_63 ty_3 rfl rfl (by omega) (by first | omega | (simp; done) | (simp; omega)) trivial rfl ?_
              first | refine r_st ty_3 rfl rfl rfl rfl rfl rfl rfl trivial ?_ | refine r_sto ty_3 rfl rfl rfl rfl (by first | rfl | assumption) rfl rfl trivial ?_
              refine reg_nil ?_
              refine awp_seq ?_
              refine awp_seq ?_
              refine awp_region ?_
              refine r_mv rfl trivial rfl ?_
              refine r_eqi rfl rfl trivial rfl ?_
              refine r_mv rfl trivial rfl ?_
              refine r_skip ⟨_, rfl, .inl rfl⟩ rfl ?_
              refine r_skip ⟨_, rfl, .inl rfl⟩ rfl ?_
              refine r_pkf rfl rfl trivial rfl ?_
              refine reg_nil ?_
              refine awp_cond_f rfl ?_
              refine awp_skip ?_
              refine awp_seq ?_
              refine awp_region ?_
              refine r_mv rfl trivial rfl ?_
              refine r_mv rfl trivial rfl ?_
              first | refine r_ixr sl_63 ty_3 rfl rfl (by omega) (by first | exact map_get (by omega) | exact map_geti (by omega)) trivial rfl ?_ | refine r_ixw sl_63 ty_3 rfl rfl (by omega) (by first | omega | (simp; done) | (simp; omega)) trivial rfl ?_
              first | refine r_ld ty_3 rfl rfl rfl trivial rfl ?_ | refine r_ldr ty_3 rfl rfl trivial rfl ?_ | refine r_ldo ty_3 rfl rfl (by first | rfl | assumption) rfl trivial rfl ?_
              refine r_lss rfl rfl trivial rfl ?_
              refine reg_nil ?_
              first | refine awp_cond_dec rfl (fun h8 => ?_) (fun h8 => ?_) | refine awp_cond rfl (fun h8 => ?_) (fun h8 => ?_)
              · refine awp_seq ?_
                refine awp_region ?_
                refine r_build pl_37 z_37 rfl rfl trivial rfl ?_
                first | refine r_st ty_37 rfl rfl rfl rfl rfl rfl rfl trivial ?_ | refine r_sto ty_37 rfl rfl rfl rfl (by first | rfl | assumption) rfl rfl trivial ?_
                refine reg_nil ?_
                refine awp_ret ?_
                refine fin0 (.cons (.agg rfl rfl ty_37 (Nat.le_of_ble_eq_true rfl)) .nil) (.aggf' (l := encEv zeroEv) rfl) ?_
                (rw [hw, lineEvR_2 a b, okEv, if_pos (by first | (simp; omega) | simp_all)])
              · refine awp_skip ?_
                refine awp_region ?_
                refine r_mv rfl trivial rfl ?_
                refine r_add rfl rfl (rng64 (by first | omega | simp [intsF])) trivial rfl ?_
                refine r_as rfl trivial rfl ?_
                refine reg_nil ?_
                refine unr_succ ?_
                refine awp_seq ?_
                refine awp_seq ?_
                refine awp_region ?_
                refine r_mv rfl trivial rfl ?_
                refine r_mv rfl trivial rfl ?_
                first | refine r_lenr sl_63 rfl trivial rfl ?_ | refine r_lenw sl_63 rfl trivial rfl ?_ | refine r_len0 sl_63 rfl trivial rfl ?_
                refine r_lss rfl rfl trivial rfl ?_
                refine reg_nil ?_
                refine awp_cond_t rfl ?_
                refine awp_skip ?_
                refine awp_seq ?_
                refine awp_block ?_
                refine awp_seq ?_
                refine awp_region ?_
                refine r_mv rfl trivial rfl ?_
                refine r_mv rfl trivial rfl ?_
                refine r_add rfl rfl (rng64 (by first | omega | simp [intsF])) trivial rfl ?_
                first | refine r_ixr sl_69 ty_9 rfl rfl (by omega) (by first | exact map_get (by omega) | exact map_geti (by omega)) trivial rfl ?_ | refine r_ixw sl_69 ty_9 rfl rfl (by omega) (by first | omega | (simp; done) | (simp; omega)) trivial rfl ?_
                first | refine r_ld ty_9 rfl rfl rfl trivial rfl ?_ | refine r_ldr ty_9 rfl rfl trivial rfl ?_ | refine r_ldo ty_9 rfl rfl (by first | rfl | assumption) rfl trivial rfl ?_
                refine r_as rfl trivial rfl ?_
                refine reg_nil ?_
                refine awp_seq ?_
                refine awp_region ?_
                refine r_mv rfl trivial rfl ?_
                refine r_mv rfl trivial rfl ?_
                refine r_mv rfl trivial rfl ?_
                refine r_call (whole_ok b) cb_36 rfl rfl rfl ?_ trivial rfl ?_
                · (repeat (first | exact .nil | refine .cons .fv ?_ | refine .cons (.aggf' rfl) ?_ | refine .cons .nil ?_ | refine .cons (.ren rfl) ?_))
                first | refine r_ixr sl_63 ty_3 rfl rfl (by omega) (by first | exact map_get (by omega) | exact map_geti (by omega)) trivial rfl ?_ | refine r_ixw sl_63 ty_3 rfl rfl (by omega) (by first | omega | (simp; done) | (simp; omega)) trivial rfl ?_
                first | refine r_st ty_3 rfl rfl rfl rfl rfl rfl rfl trivial ?_ | refine r_sto ty_3 rfl rfl rfl rfl (by first | rfl | assumption) rfl rfl trivial ?_
                refine reg_nil ?_
                refine awp_seq ?_
                refine awp_seq ?_
                refine awp_region ?_
                refine r_mv rfl trivial rfl ?_
                refine r_eqi rfl rfl trivial rfl ?_
                refine r_mv rfl trivial rfl ?_
                refine r_skip ⟨_, rfl, .inl rfl⟩ rfl ?_
                refine r_skip ⟨_, rfl, .inl rfl⟩ rfl ?_
                refine r_pkf rfl rfl trivial rfl ?_
                refine reg_nil ?_
                refine awp_cond_f rfl ?_
                refine awp_skip ?_
                refine awp_seq ?_
                refine awp_region ?_
                refine r_mv rfl trivial rfl ?_
                refine r_mv rfl trivial rfl ?_
                first | refine r_ixr sl_63 ty_3 rfl rfl (by omega) (by first | exact map_get (by omega) | exact map_geti (by omega)) trivial rfl ?_ | refine r_ixw sl_63 ty_3 rfl rfl (by omega) (by first | omega | (simp; done) | (simp; omega)) trivial rfl ?_
                first | refine r_ld ty_3 rfl rfl rfl trivial rfl ?_ | refine r_ldr ty_3 rfl rfl trivial rfl ?_ | refine r_ldo ty_3 rfl rfl (by first | rfl | assumption) rfl trivial rfl ?_
                refine r_lss rfl rfl trivial rfl ?_
                refine reg_nil ?_
                first | refine awp_cond_dec rfl (fun h9 => ?_) (fun h9 => ?_) | refine awp_cond rfl (fun h9 => ?_) (fun h9 => ?_)
                · refine awp_seq ?_
                  refine awp_region ?_
                  refine r_build pl_37 z_37 rfl rfl trivial rfl ?_
                  first | refine r_st ty_37 rfl rfl rfl rfl rfl rfl rfl trivial ?_ | refine r_sto ty_37 rfl rfl rfl rfl (by first | rfl | assumption) rfl rfl trivial ?_
                  refine reg_nil ?_
                  refine awp_ret ?_
                  refine fin0 (.cons (.agg rfl rfl ty_37 (Nat.le_of_ble_eq_true rfl)) .nil) (.aggf' (l := encEv zeroEv) rfl) ?_
                  (rw [hw, lineEvR_2 a b, okEv, if_pos (by first | (simp; omega) | simp_all)])
                · refine awp_skip ?_
                  refine awp_region ?_
                  refine r_mv rfl trivial rfl ?_
                  refine r_add rfl rfl (rng64 (by first | omega | simp [intsF])) trivial rfl ?_
                  refine r_as rfl trivial rfl ?_
                  refine reg_nil ?_
                  refine unr_succ ?_
                  refine awp_seq ?_
                  refine awp_seq ?_
                  refine awp_region ?_
                  refine r_mv rfl trivial rfl ?_
                  refine r_mv rfl trivial rfl ?_
                  first | refine r_lenr sl_63 rfl trivial rfl ?_ | refine r_lenw sl_63 rfl trivial rfl ?_ | refine r_len0 sl_63 rfl trivial rfl ?_
                  refine r_lss rfl rfl trivial rfl ?_
                  refine reg_nil ?_
                  refine awp_cond_f rfl ?_
                  refine awp_exit ?_
                  refine awp_seq ?_
                  refine awp_region ?_
                  refine r_mv rfl trivial rfl ?_
                  refine r_mv rfl trivial rfl ?_
                  refine r_callh [(0, 2)] 3 1 (eventOfw_2 (wholeR a) (wholeR b)) cb_28 rfl rfl rfl ?_ (.cons rfl .nil) rfl rfl rfl rfl trivial rfl ?_
                  · (repeat (first | exact .nil | refine .cons .fv ?_ | refine .cons (.aggf' rfl) ?_ | refine .cons .nil ?_ | refine .cons (.ren rfl) ?_))
                  refine r_alloc z_37 rfl trivial rfl ?_
                  first | refine r_st ty_37 rfl rfl rfl rfl rfl rfl rfl trivial ?_ | refine r_sto ty_37 rfl rfl rfl rfl (by first | rfl | assumption) rfl rfl trivial ?_
                  refine reg_nil ?_
                  refine awp_seq ?_
                  refine awp_seq ?_
                  refine awp_region ?_
                  first | refine r_lda ty_37 rfl rfl rfl rfl trivial rfl ?_ | refine r_ldra ty_37 rfl rfl rfl trivial rfl ?_ | refine r_ldoa ty_37 rfl rfl (by first | rfl | assumption) rfl rfl trivial rfl ?_
                  refine r_call (fault_ok ⟨2, 0, wholeR a, wholeR b, false, 0, 0, 0⟩) cb_15 rfl rfl rfl ?_ trivial rfl ?_
                  · (repeat (first | exact .nil | refine .cons .fv ?_ | refine .cons (.aggf' rfl) ?_ | refine .cons .nil ?_ | refine .cons (.ren rfl) ?_))
                  refine r_nei rfl rfl trivial rfl ?_
                  refine reg_nil ?_
                  first | refine awp_cond_dec rfl (fun h10 => ?_) (fun h10 => ?_) | refine awp_cond rfl (fun h10 => ?_) (fun h10 => ?_)
                  · refine awp_seq ?_
                    refine awp_region ?_
                    refine r_build pl_37 z_37 rfl rfl trivial rfl ?_
                    first | refine r_st ty_37 rfl rfl rfl rfl rfl rfl rfl trivial ?_ | refine r_sto ty_37 rfl rfl rfl rfl (by first | rfl | assumption) rfl rfl trivial ?_
                    refine reg_nil ?_
                    refine awp_ret ?_
                    refine fin0 (.cons (.agg rfl rfl ty_37 (Nat.le_of_ble_eq_true rfl)) .nil) (.aggf' (l := encEv zeroEv) rfl) ?_
                    (rw [hw, lineEvR_2 a b, okEv, if_pos (by first | (simp; omega) | simp_all)])
                  · refine awp_skip ?_
                    refine awp_seq ?_
                    refine awp_region ?_
                    first | refine r_lda ty_37 rfl rfl rfl rfl trivial rfl ?_ | refine r_ldra ty_37 rfl rfl rfl trivial rfl ?_ | refine r_ldoa ty_37 rfl rfl (by first | rfl | assumption) rfl rfl trivial rfl ?_
                    first | refine r_st ty_37 rfl rfl rfl rfl rfl rfl rfl trivial ?_ | refine r_sto ty_37 rfl rfl rfl rfl (by first | rfl | assumption) rfl rfl trivial ?_
                    refine reg_nil ?_
                    refine awp_ret ?_
                    refine fin0 (.cons (.agg rfl rfl ty_37 (Nat.le_of_ble_eq_true rfl)) .nil) (.aggf' (l := encEv ⟨2, 0, wholeR a, wholeR b, false, 0, 0, 0⟩) rfl) ?_
                    (rw [hw, lineEvR_2 a b, okEv, if_neg (by first | (simp; omega) | (simp_all; done) | (simp_all; omega))])
            · refine awp_region ?_
              refine r_mv rfl trivial rfl ?_
              refine r_build pl_37 z_37 rfl rfl trivial rfl ?_
              refine r_callh [(0, 2)] 3 1 (numbersw_3) cb_26 rfl rfl rfl ?_ .nil rfl rfl rfl rfl trivial rfl ?_
              · (repeat (first | exact .nil | refine .cons .fv ?_ | refine .cons (.aggf' rfl) ?_ | refine .cons .nil ?_ | refine .cons (.ren rfl) ?_))
              refine r_mv rfl trivial rfl ?_
              refine r_ext rfl rfl trivial rfl ?_
              refine r_ext rfl rfl trivial rfl ?_
              refine r_ext rfl rfl trivial rfl ?_
              refine r_ext rfl rfl trivial rfl ?_
              refine r_as rfl trivial rfl ?_
              refine r_as rfl trivial rfl ?_
              refine r_as rfl trivial rfl ?_
              refine r_as rfl trivial rfl ?_
              refine reg_nil ?_
              refine awp_seq ?_
              refine awp_seq ?_
              refine awp_region ?_
              refine r_mv rfl trivial rfl ?_
              first | refine r_lenr sl_69 rfl trivial rfl ?_ | refine r_lenw sl_69 rfl trivial rfl ?_ | refine r_len0 sl_69 rfl trivial rfl ?_
              refine r_mv rfl trivial rfl ?_
              first | refine r_lenr sl_63 rfl trivial rfl ?_ | refine r_lenw sl_63 rfl trivial rfl ?_ | refine r_len0 sl_63 rfl trivial rfl ?_
              refine r_add rfl rfl (rng64 (by first | omega | simp [intsF])) trivial rfl ?_
              refine r_nei rfl rfl trivial rfl ?_
              refine reg_nil ?_
              refine awp_cond_yes rfl (by first | (simp; omega) | (simp [intsF]; omega) | (have := hn; simp [intsF]; omega)) ?_
              refine awp_seq ?_
              refine awp_region ?_
              refine r_build pl_37 z_37 rfl rfl trivial rfl ?_
              first | refine r_st ty_37 rfl rfl rfl rfl rfl rfl rfl trivial ?_ | refine r_sto ty_37 rfl rfl rfl rfl (by first | rfl | assumption) rfl rfl trivial ?_
              refine reg_nil ?_
              refine awp_ret ?_
              refine fin0 (.cons (.agg rfl rfl ty_37 (Nat.le_of_ble_eq_true rfl)) .nil) (.aggf' (l := encEv zeroEv) rfl) ?_
              (rw [hw, lineEvR_w3 _ hn])
            · refine awp_region ?_
              refine r_mv rfl trivial rfl ?_
              refine r_build pl_37 z_37 rfl rfl trivial rfl ?_
              refine r_callh [(0, 2)] 3 1 (numbersw_3) cb_26 rfl rfl rfl ?_ .nil rfl rfl rfl rfl trivial rfl ?_
              · (repeat (first | exact .nil | refine .cons .fv ?_ | refine .cons (.aggf' rfl) ?_ | refine .cons .nil ?_ | refine .cons (.ren rfl) ?_))
              refine r_mv rfl trivial rfl ?_
              refine r_ext rfl rfl trivial rfl ?_
              refine r_ext rfl rfl trivial rfl ?_
              refine r_ext rfl rfl trivial rfl ?_
              refine r_ext rfl rfl trivial rfl ?_
              refine r_as rfl trivial rfl ?_
              refine r_as rfl trivial rfl ?_
              refine r_as rfl trivial rfl ?_
              refine r_as rfl trivial rfl ?_
              refine reg_nil ?_
              refine awp_seq ?_
              refine awp_seq ?_
              refine awp_region ?_
              refine r_mv rfl trivial rfl ?_
              first | refine r_lenr sl_69 rfl trivial rfl ?_ | refine r_lenw sl_69 rfl trivial rfl ?_ | refine r_len0 sl_69 rfl trivial rfl ?_
              refine r_mv rfl trivial rfl ?_
              first | refine r_lenr sl_63 rfl trivial rfl ?_ | refine r_lenw sl_63 rfl trivial rfl ?_ | refine r_len0 sl_63 rfl trivial rfl ?_
              refine r_add rfl rfl (rng64 (by first | omega | simp [intsF])) trivial rfl ?_
              refine r_nei rfl rfl trivial rfl ?_
              refine reg_nil ?_
              refine awp_cond_f rfl ?_
              refine awp_skip ?_
              refine awp_seq ?_
              refine awp_seq ?_
              refine awp_region ?_
              refine r_as rfl trivial rfl ?_
              refine reg_nil ?_
              refine awp_block ?_
              refine awp_unroll 3 ?_
              refine unr_succ ?_
              refine awp_seq ?_
              refine awp_seq ?_
              refine awp_region ?_
              refine r_mv rfl trivial rfl ?_
              refine r_mv rfl trivial rfl ?_
              first | refine r_lenr sl_63 rfl trivial rfl ?_ | refine r_lenw sl_63 rfl trivial rfl ?_ | refine r_len0 sl_63 rfl trivial rfl ?_
              refine r_lss rfl rfl trivial rfl ?_
              refine reg_nil ?_
              refine awp_cond_t rfl ?_
              refine awp_skip ?_
              refine awp_seq ?_
              refine awp_block ?_
              refine awp_seq ?_
              refine awp_region ?_
              refine r_mv rfl trivial rfl ?_
              refine r_mv rfl trivial rfl ?_
              refine r_add rfl rfl (rng64 (by first | omega | simp [intsF])) trivial rfl ?_
              first | refine r_ixr sl_69 ty_9 rfl rfl (by omega) (by first | exact map_get (by omega) | exact map_geti (by omega)) trivial rfl ?_ | refine r_ixw sl_69 ty_9 rfl rfl (by omega) (by first | omega | (simp; done) | (simp; omega)) trivial rfl ?_
              first | refine r_ld ty_9 rfl rfl rfl trivial rfl ?_ | refine r_ldr ty_9 rfl rfl trivial rfl ?_ | refine r_ldo ty_9 rfl rfl (by first | rfl | assumption) rfl trivial rfl ?_
              refine r_as rfl trivial rfl ?_
              refine reg_nil ?_
              refine awp_seq ?_
              refine awp_region ?_
              refine r_mv rfl trivial rfl ?_
              refine r_mv rfl trivial rfl ?_
              refine r_mv rfl trivial rfl ?_
              refine r_call (whole_ok a) cb_36 rfl rfl rfl ?_ trivial rfl ?_
              · (repeat (first | exact .nil | refine .cons .fv ?_ | refine .cons (.aggf' rfl) ?_ | refine .cons .nil ?_ | refine .cons (.ren rfl) ?_))
              first | refine r_ixr sl_63 ty_3 rfl rfl (by omega) (by first | exact map_get (by omega) | exact map_geti (by omega)) trivial rfl ?_ | refine r_ixw sl_63 ty_3 rfl rfl (by omega) (by first | omega | (simp; done) | (simp; omega)) trivial rfl ?_
              first | refine r_st ty_3 rfl rfl rfl rfl rfl rfl rfl trivial ?_ | refine r_sto ty_3 rfl rfl rfl rfl (by first | rfl | assumption) rfl rfl trivial ?_
              refine reg_nil ?_
              refine awp_seq ?_
              refine awp_seq ?_
              refine awp_region ?_
              refine r_mv rfl trivial rfl ?_
              refine r_eqi rfl rfl trivial rfl ?_
              refine r_mv rfl trivial rfl ?_
              refine r_skip ⟨_, rfl, .inl rfl⟩ rfl ?_
              refine r_skip ⟨_, rfl, .inl rfl⟩ rfl ?_
              refine r_pkf rfl rfl trivial rfl ?_
              refine reg_nil ?_
              refine awp_cond_f rfl ?_
              refine awp_skip ?_
              refine awp_seq ?_
              refine awp_region ?_
              refine r_mv rfl trivial rfl ?_
              refine r_mv rfl trivial rfl ?_
              first | refine r_ixr sl_63 ty_3 rfl rfl (by omega) (by first | exact map_get (by omega) | exact map_geti (by omega)) trivial rfl ?_ | refine r_ixw sl_63 ty_3 rfl rfl (by omega) (by first | omega | (simp; done) | (simp; omega)) trivial rfl ?_
              first | refine r_ld ty_3 rfl rfl rfl trivial rfl ?_ | refine r_ldr ty_3 rfl rfl trivial rfl ?_ | refine r_ldo ty_3 rfl rfl (by first | rfl | assumption) rfl trivial rfl ?_
              refine r_lss rfl rfl trivial rfl ?_
              refine reg_nil ?_
              first | refine awp_cond_dec rfl (fun h11 => ?_) (fun h11 => ?_) | refine awp_cond rfl (fun h11 => ?_) (fun h11 => ?_)
              · refine awp_seq ?_
                refine awp_region ?_
                refine r_build pl_37 z_37 rfl rfl trivial rfl ?_
                first | refine r_st ty_37 rfl rfl rfl rfl rfl rfl rfl trivial ?_ | refine r_sto ty_37 rfl rfl rfl rfl (by first | rfl | assumption) rfl rfl trivial ?_
                refine reg_nil ?_
                refine awp_ret ?_
                refine fin0 (.cons (.agg rfl rfl ty_37 (Nat.le_of_ble_eq_true rfl)) .nil) (.aggf' (l := encEv zeroEv) rfl) ?_
                (rw [hw, lineEvR_3 a b, okEv, if_pos (by first | (simp; omega) | simp_all)])
              · refine awp_skip ?_
                refine awp_region ?_
                refine r_mv rfl trivial rfl ?_
                refine r_add rfl rfl (rng64 (by first | omega | simp [intsF])) trivial rfl ?_
                refine r_as rfl trivial rfl ?_
                refine reg_nil ?_
                refine unr_succ ?_
                refine awp_seq ?_
                refine awp_seq ?_
                refine awp_region ?_
                refine r_mv rfl trivial rfl ?_
                refine r_mv rfl trivial rfl ?_
                first | refine r_lenr sl_63 rfl trivial rfl ?_ | refine r_lenw sl_63 rfl trivial rfl ?_ | refine r_len0 sl_63 rfl trivial rfl ?_
                refine r_lss rfl rfl trivial rfl ?_
                refine reg_nil ?_
                refine awp_cond_t rfl ?_
                refine awp_skip ?_
                refine awp_seq ?_
                refine awp_block ?_
                refine awp_seq ?_
                refine awp_region ?_
                refine r_mv rfl trivial rfl ?_
                refine r_mv rfl trivial rfl ?_
                refine r_add rfl rfl (rng64 (by first | omega | simp [intsF])) trivial rfl ?_
                first | refine r_ixr sl_69 ty_9 rfl rfl (by omega) (by first | exact map_get (by omega) | exact map_geti (by omega)) trivial rfl ?_ | refine r_ixw sl_69 ty_9 rfl rfl (by omega) (by first | omega | (simp; done) | (simp; omega)) trivial rfl ?_
                first | refine r_ld ty_9 rfl rfl rfl trivial rfl ?_ | refine r_ldr ty_9 rfl rfl trivial rfl ?_ | refine r_ldo ty_9 rfl rfl (by first | rfl | assumption) rfl trivial rfl ?_
                refine r_as rfl trivial rfl ?_
                refine reg_nil ?_
                refine awp_seq ?_
                refine awp_region ?_
                refine r_mv rfl trivial rfl ?_
                refine r_mv rfl trivial rfl ?_
                refine r_mv rfl trivial rfl ?_
                refine r_call (whole_ok b) cb_36 rfl rfl rfl ?_ trivial rfl ?_
                · (repeat (first | exact .nil | refine .cons .fv ?_ | refine .cons (.aggf' rfl) ?_ | refine .cons .nil ?_ | refine .cons (.ren rfl) ?_))
                first | refine r_ixr sl_63 ty_3 rfl rfl (by omega) (by first | exact map_get (by omega) | exact map_geti (by omega)) trivial rfl ?_ | refine r_ixw sl_63 ty_3 rfl rfl (by omega) (by first | omega | (simp; done) | (simp; omega)) trivial rfl ?_
                first | refine r_st ty_3 rfl rfl rfl rfl rfl rfl rfl trivial ?_ | refine r_sto ty_3 rfl rfl rfl rfl (by first | rfl | assumption) rfl rfl trivial ?_
                refine reg_nil ?_
                refine awp_seq ?_
                refine awp_seq ?_
                refine awp_region ?_
                refine r_mv rfl trivial rfl ?_
                refine r_eqi rfl rfl trivial rfl ?_
                refine r_mv rfl trivial rfl ?_
                refine r_skip ⟨_, rfl, .inl rfl⟩ rfl ?_
                refine r_skip ⟨_, rfl, .inl rfl⟩ rfl ?_
                refine r_pkf rfl rfl trivial rfl ?_
                refine reg_nil ?_
                refine awp_cond_f rfl ?_
                refine awp_skip ?_
                refine awp_seq ?_
                refine awp_region ?_
                refine r_mv rfl trivial rfl ?_
                refine r_mv rfl trivial rfl ?_
                first | refine r_ixr sl_63 ty_3 rfl rfl (by omega) (by first | exact map_get (by omega) | exact map_geti (by omega)) trivial rfl ?_ | refine r_ixw sl_63 ty_3 rfl rfl (by omega) (by first | omega | (simp; done) | (simp; omega)) trivial rfl ?_
                first | refine r_ld ty_3 rfl rfl rfl trivial rfl ?_ | refine r_ldr ty_3 rfl rfl trivial rfl ?_ | refine r_ldo ty_3 rfl rfl (by first | rfl | assumption) rfl trivial rfl ?_
                refine r_lss rfl rfl trivial rfl ?_
                refine reg_nil ?_
                first | refine awp_cond_dec rfl (fun h12 => ?_) (fun h12 => ?_) | refine awp_cond rfl (fun h12 => ?_) (fun h12 => ?_)
                · refine awp_seq ?_
                  refine awp_region ?_
                  refine r_build pl_37 z_37 rfl rfl trivial rfl ?_
                  first | refine r_st ty_37 rfl rfl rfl rfl rfl rfl rfl trivial ?_ | refine r_sto ty_37 rfl rfl rfl rfl (by first | rfl | assumption) rfl rfl trivial ?_
                  refine reg_nil ?_
                  refine awp_ret ?_
                  refine fin0 (.cons (.agg rfl rfl ty_37 (Nat.le_of_ble_eq_true rfl)) .nil) (.aggf' (l := encEv zeroEv) rfl) ?_
                  (rw [hw, lineEvR_3 a b, okEv, if_pos (by first | (simp; omega) | simp_all)])
                · refine awp_skip ?_
                  refine awp_region ?_
                  refine r_mv rfl trivial rfl ?_
                  refine r_add rfl rfl (rng64 (by first | omega | simp [intsF])) trivial rfl ?_
                  refine r_as rfl trivial rfl ?_
                  refine reg_nil ?_
                  refine unr_succ ?_
                  refine awp_seq ?_
                  refine awp_seq ?_
                  refine awp_region ?_
                  refine r_mv rfl trivial rfl ?_
                  refine r_mv rfl trivial rfl ?_
                  first | refine r_lenr sl_63 rfl trivial rfl ?_ | refine r_lenw sl_63 rfl trivial rfl ?_ | refine r_len0 sl_63 rfl trivial rfl ?_
                  refine r_lss rfl rfl trivial rfl ?_
                  refine reg_nil ?_
                  refine awp_cond_f rfl ?_
                  refine awp_exit ?_
                  refine awp_seq ?_
                  refine awp_region ?_
                  refine r_mv rfl trivial rfl ?_
                  refine r_mv rfl trivial rfl ?_
                  refine r_callh [(0, 2)] 3 1 (eventOfw_3 (wholeR a) (wholeR b)) cb_28 rfl rfl rfl ?_ (.cons rfl .nil) rfl rfl rfl rfl trivial rfl ?_
                  · (repeat (first | exact .nil | refine .cons .fv ?_ | refine .cons (.aggf' rfl) ?_ | refine .cons .nil ?_ | refine .cons (.ren rfl) ?_))
                  refine r_alloc z_37 rfl trivial rfl ?_
                  first | refine r_st ty_37 rfl rfl rfl rfl rfl rfl rfl trivial ?_ | refine r_sto ty_37 rfl rfl rfl rfl (by first | rfl | assumption) rfl rfl trivial ?_
                  refine reg_nil ?_
                  refine awp_seq ?_
                  refine awp_seq ?_
                  refine awp_region ?_
                  first | refine r_lda ty_37 rfl rfl rfl rfl trivial rfl ?_ | refine r_ldra ty_37 rfl rfl rfl trivial rfl ?_ | refine r_ldoa ty_37 rfl rfl (by first | rfl | assumption) rfl rfl trivial rfl ?_
                  refine r_call (fault_ok ⟨3, 0, wholeR a, wholeR b, false, 0, 0, 0⟩) cb_15 rfl rfl rfl ?_ trivial rfl ?_
                  · (repeat (first | exact .nil | refine .cons .fv ?_ | refine .cons (.aggf' rfl) ?_ | refine .cons .nil ?_ | refine .cons (.ren rfl) ?_))
                  refine r_nei rfl rfl trivial rfl ?_
                  refine reg_nil ?_
                  first | refine awp_cond_dec rfl (fun h13 => ?_) (fun h13 => ?_) | refine awp_cond rfl (fun h13 => ?_) (fun h13 => ?_)
                  · refine awp_seq ?_
                    refine awp_region ?_
                    refine r_build pl_37 z_37 rfl rfl trivial rfl ?_
                    first | refine r_st ty_37 rfl rfl rfl rfl rfl rfl rfl trivial ?_ | refine r_sto ty_37 rfl rfl rfl rfl (by first | rfl | assumption) rfl rfl trivial ?_
                    refine reg_nil ?_
                    refine awp_ret ?_
                    refine fin0 (.cons (.agg rfl rfl ty_37 (Nat.le_of_ble_eq_true rfl)) .nil) (.aggf' (l := encEv zeroEv) rfl) ?_
                    (rw [hw, lineEvR_3 a b, okEv, if_pos (by first | (simp; omega) | simp_all)])
                  · refine awp_skip ?_
                    refine awp_seq ?_
                    refine awp_region ?_
                    first | refine r_lda ty_37 rfl rfl rfl rfl trivial rfl ?_ | refine r_ldra ty_37 rfl rfl rfl trivial rfl ?_ | refine r_ldoa ty_37 rfl rfl (by first | rfl | assumption) rfl rfl trivial rfl ?_
                    first | refine r_st ty_37 rfl rfl rfl rfl rfl rfl rfl trivial ?_ | refine r_sto ty_37 rfl rfl rfl rfl (by first | rfl | assumption) rfl rfl trivial ?_
                    refine reg_nil ?_
                    refine awp_ret ?_
                    refine fin0 (.cons (.agg rfl rfl ty_37 (Nat.le_of_ble_eq_true rfl)) .nil) (.aggf' (l := encEv ⟨3, 0, wholeR a, wholeR b, false, 0, 0, 0⟩) rfl) ?_
                    (rw [hw, lineEvR_3 a b, okEv, if_neg (by first | (simp; omega) | (simp_all; done) | (simp_all; omega))])
            · refine awp_region ?_
              refine r_mv rfl trivial rfl ?_
              refine r_build pl_37 z_37 rfl rfl trivial rfl ?_
              refine r_callh [(0, 2)] 3 1 (numbersw_4) cb_26 rfl rfl rfl ?_ .nil rfl rfl rfl rfl trivial rfl ?_
              · (repeat (first | exact .nil | refine .cons .fv ?_ | refine .cons (.aggf' rfl) ?_ | refine .cons .nil ?_ | refine .cons (.ren rfl) ?_))
              refine r_mv rfl trivial rfl ?_
              refine r_ext rfl rfl trivial rfl ?_
              refine r_ext rfl rfl trivial rfl ?_
              refine r_ext rfl rfl trivial rfl ?_
              refine r_ext rfl rfl trivial rfl ?_
              refine r_as rfl trivial rfl ?_
              refine r_as rfl trivial rfl ?_
              refine r_as rfl trivial rfl ?_
              refine r_as rfl trivial rfl ?_
              refine reg_nil ?_
              refine awp_seq ?_
              refine awp_seq ?_
              refine awp_region ?_
              refine r_mv rfl trivial rfl ?_
              first | refine r_lenr sl_69 rfl trivial rfl ?_ | refine r_lenw sl_69 rfl trivial rfl ?_ | refine r_len0 sl_69 rfl trivial rfl ?_
              refine r_mv rfl trivial rfl ?_
              first | refine r_lenr sl_63 rfl trivial rfl ?_ | refine r_lenw sl_63 rfl trivial rfl ?_ | refine r_len0 sl_63 rfl trivial rfl ?_
              refine r_add rfl rfl (rng64 (by first | omega | simp [intsF])) trivial rfl ?_
              refine r_nei rfl rfl trivial rfl ?_
              refine reg_nil ?_
              refine awp_cond_yes rfl (by first | (simp; omega) | (simp [intsF]; omega) | (have := hn; simp [intsF]; omega)) ?_
              refine awp_seq ?_
              refine awp_region ?_
              refine r_build pl_37 z_37 rfl rfl trivial rfl ?_
              first | refine r_st ty_37 rfl rfl rfl rfl rfl rfl rfl trivial ?_ | refine r_sto ty_37 rfl rfl rfl rfl (by first | rfl | assumption) rfl rfl trivial ?_
              refine reg_nil ?_
              refine awp_ret ?_
              refine fin0 (.cons (.agg rfl rfl ty_37 (Nat.le_of_ble_eq_true rfl)) .nil) (.aggf' (l := encEv zeroEv) rfl) ?_
              (rw [hw, lineEvR_w4 _ hn])
            · refine awp_region ?_
              refine r_mv rfl trivial rfl ?_
              refine r_build pl_37 z_37 rfl rfl trivial rfl ?_
              refine r_callh [(0, 2)] 3 1 (numbersw_4) cb_26 rfl rfl rfl ?_ .nil rfl rfl rfl rfl trivial rfl ?_
              · (repeat (first | exact .nil | refine .cons .fv ?_ | refine .cons (.aggf' rfl) ?_ | refine .cons .nil ?_ | refine .cons (.ren rfl) ?_))
              refine r_mv rfl trivial rfl ?_
              refine r_ext rfl rfl trivial rfl ?_
              refine r_ext rfl rfl trivial rfl ?_
              refine r_ext rfl rfl trivial rfl ?_
              refine r_ext rfl rfl trivial rfl ?_
              refine r_as rfl trivial rfl ?_
              refine r_as rfl trivial rfl ?_
              refine r_as rfl trivial rfl ?_
              refine r_as rfl trivial rfl ?_
              refine reg_nil ?_
              refine awp_seq ?_
              refine awp_seq ?_
              refine awp_region ?_
              refine r_mv rfl trivial rfl ?_
              first | refine r_lenr sl_69 rfl trivial rfl ?_ | refine r_lenw sl_69 rfl trivial rfl ?_ | refine r_len0 sl_69 rfl trivial rfl ?_
              refine r_mv rfl trivial rfl ?_
              first | refine r_lenr sl_63 rfl trivial rfl ?_ | refine r_lenw sl_63 rfl trivial rfl ?_ | refine r_len0 sl_63 rfl trivial rfl ?_
              refine r_add rfl rfl (rng64 (by first | omega | simp [intsF])) trivial rfl ?_
              refine r_nei rfl rfl trivial rfl ?_
              refine reg_nil ?_
              refine awp_cond_f rfl ?_
              refine awp_skip ?_
              refine awp_seq ?_
              refine awp_seq ?_
              refine awp_region ?_
              refine r_as rfl trivial rfl ?_
              refine reg_nil ?_
              refine awp_block ?_
              refine awp_unroll 4 ?_
              refine unr_succ ?_
              refine awp_seq ?_
              refine awp_seq ?_
              refine awp_region ?_
              refine r_mv rfl trivial rfl ?_
              refine r_mv rfl trivial rfl ?_
              first | refine r_lenr sl_63 rfl trivial rfl ?_ | refine r_lenw sl_63 rfl trivial rfl ?_ | refine r_len0 sl_63 rfl trivial rfl ?_
              refine r_lss rfl rfl trivial rfl ?_
              refine reg_nil ?_
              refine awp_cond_t rfl ?_
              refine awp_skip ?_
              refine awp_seq ?_
              refine awp_block ?_
              refine awp_seq ?_
              refine awp_region ?_
              refine r_mv rfl trivial rfl ?_
              refine r_mv rfl trivial rfl ?_
              refine r_add rfl rfl (rng64 (by first | omega | simp [intsF])) trivial rfl ?_
              first | refine r_ixr sl_69 ty_9 rfl rfl (by omega) (by first | exact map_get (by omega) | exact map_geti (by omega)) trivial rfl ?_ | refine r_ixw sl_69 ty_9 rfl rfl (by omega) (by first | omega | (simp; done) | (simp; omega)) trivial rfl ?_
              first | refine r_ld ty_9 rfl rfl rfl trivial rfl ?_ | refine r_ldr ty_9 rfl rfl trivial rfl ?_ | refine r_ldo ty_9 rfl rfl (by first | rfl | assumption) rfl trivial rfl ?_
              refine r_as rfl trivial rfl ?_
              refine reg_nil ?_
              refine awp_seq ?_
              refine awp_region ?_
              refine r_mv rfl trivial rfl ?_
              refine r_mv rfl trivial rfl ?_
              refine r_mv rfl trivial rfl ?_
              refine r_call (whole_ok a) cb_36 rfl rfl rfl ?_ trivial rfl ?_
              · (repeat (first | exact .nil | refine .cons .fv ?_ | refine .cons (.aggf' rfl) ?_ | refine .cons .nil ?_ | refine .cons (.ren rfl) ?_))
              first | refine r_ixr sl_63 ty_3 rfl rfl (by omega) (by first | exact map_get (by omega) | exact map_geti (by omega)) trivial rfl ?_ | refine r_ixw sl_63 ty_3 rfl rfl (by omega) (by first | omega | (simp; done) | (simp; omega)) trivial rfl ?_
              first | refine r_st ty_3 rfl rfl rfl rfl rfl rfl rfl trivial ?_ | refine r_sto ty_3 rfl rfl rfl rfl (by first | rfl | assumption) rfl rfl trivial ?_
              refine reg_nil ?_
              refine awp_seq ?_
              refine awp_seq ?_
              refine awp_region ?_
              refine r_mv rfl trivial rfl ?_
              refine r_eqi rfl rfl trivial rfl ?_
              refine r_mv rfl trivial rfl ?_
              refine r_mv rfl ⟨_, rfl, rfl⟩ rfl ?_
              refine r_eqi rfl rfl ⟨_, rfl, rfl⟩ rfl ?_
              refine r_pkt rfl rfl trivial rfl ?_
              refine reg_nil ?_
              refine awp_cond_f rfl ?_
              refine awp_skip ?_
              refine awp_seq ?_
              refine awp_region ?_
              refine r_mv rfl trivial rfl ?_
              refine r_mv rfl trivial rfl ?_
              first | refine r_ixr sl_63 ty_3 rfl rfl (by omega) (by first | exact map_get (by omega) | exact map_geti (by omega)) trivial rfl ?_ | refine r_ixw sl_63 ty_3 rfl rfl (by omega) (by first | omega | (simp; done) | (simp; omega)) trivial rfl ?_
              first | refine r_ld ty_3 rfl rfl rfl trivial rfl ?_ | refine r_ldr ty_3 rfl rfl trivial rfl ?_ | refine r_ldo ty_3 rfl rfl (by first | rfl | assumption) rfl trivial rfl ?_
              refine r_lss rfl rfl trivial rfl ?_
              refine reg_nil ?_
              first | refine awp_cond_dec rfl (fun h14 => ?_) (fun h14 => ?_) | refine awp_cond rfl (fun h14 => ?_) (fun h14 => ?_)
              · refine awp_seq ?_
                refine awp_region ?_
                refine r_build pl_37 z_37 rfl rfl trivial rfl ?_
                first | refine r_st ty_37 rfl rfl rfl rfl rfl rfl rfl trivial ?_ | refine r_sto ty_37 rfl rfl rfl rfl (by first | rfl | assumption) rfl rfl trivial ?_
                refine reg_nil ?_
                refine awp_ret ?_
                refine fin0 (.cons (.agg rfl rfl ty_37 (Nat.le_of_ble_eq_true rfl)) .nil) (.aggf' (l := encEv zeroEv) rfl) ?_
                (rw [hw, lineEvR_4g a b, okEv, if_pos (by first | (simp; omega) | simp_all)])
              · refine awp_skip ?_
                refine awp_region ?_
                refine r_mv rfl trivial rfl ?_
                refine r_add rfl rfl (rng64 (by first | omega | simp [intsF])) trivial rfl ?_
                refine r_as rfl trivial rfl ?_
                refine reg_nil ?_
                refine unr_succ ?_
                refine awp_seq ?_
                refine awp_seq ?_
                refine awp_region ?_
                refine r_mv rfl trivial rfl ?_
                refine r_mv rfl trivial rfl ?_
                first | refine r_lenr sl_63 rfl trivial rfl ?_ | refine r_lenw sl_63 rfl trivial rfl ?_ | refine r_len0 sl_63 rfl trivial rfl ?_
                refine r_lss rfl rfl trivial rfl ?_
                refine reg_nil ?_
                refine awp_cond_t rfl ?_
                refine awp_skip ?_
                refine awp_seq ?_
                refine awp_block ?_
                refine awp_seq ?_
                refine awp_region ?_
                refine r_mv rfl trivial rfl ?_
                refine r_mv rfl trivial rfl ?_
                refine r_add rfl rfl (rng64 (by first | omega | simp [intsF])) trivial rfl ?_
                first | refine r_ixr sl_69 ty_9 rfl rfl (by omega) (by first | exact map_get (by omega) | exact map_geti (by omega)) trivial rfl ?_ | refine r_ixw sl_69 ty_9 rfl rfl (by omega) (by first | omega | (simp; done) | (simp; omega)) trivial rfl ?_
                first | refine r_ld ty_9 rfl rfl rfl trivial rfl ?_ | refine r_ldr ty_9 rfl rfl trivial rfl ?_ | refine r_ldo ty_9 rfl rfl (by first | rfl | assumption) rfl trivial rfl ?_
                refine r_as rfl trivial rfl ?_
                refine reg_nil ?_
                refine awp_seq ?_
                refine awp_region ?_
                refine r_mv rfl trivial rfl ?_
                refine r_mv rfl trivial rfl ?_
                refine r_mv rfl trivial rfl ?_
                refine r_call (whole_ok b) cb_36 rfl rfl rfl ?_ trivial rfl ?_
                · (repeat (first | exact .nil | refine .cons .fv ?_ | refine .cons (.aggf' rfl) ?_ | refine .cons .nil ?_ | refine .cons (.ren rfl) ?_))
                first | refine r_ixr sl_63 ty_3 rfl rfl (by omega) (by first | exact map_get (by omega) | exact map_geti (by omega)) trivial rfl ?_ | refine r_ixw sl_63 ty_3 rfl rfl (by omega) (by first | omega | (simp; done) | (simp; omega)) trivial rfl ?_
                first | refine r_st ty_3 rfl rfl rfl rfl rfl rfl rfl trivial ?_ | refine r_sto ty_3 rfl rfl rfl rfl (by first | rfl | assumption) rfl rfl trivial ?_
                refine reg_nil ?_
                refine awp_seq ?_
                refine awp_seq ?_
                refine awp_region ?_
                refine r_mv rfl trivial rfl ?_
                refine r_eqi rfl rfl trivial rfl ?_
                refine r_mv rfl trivial rfl ?_
                refine r_mv rfl ⟨_, rfl, rfl⟩ rfl ?_
                refine r_eqi rfl rfl ⟨_, rfl, rfl⟩ rfl ?_
                refine r_pkt rfl rfl trivial rfl ?_
                refine reg_nil ?_
                refine awp_cond_f rfl ?_
                refine awp_skip ?_
                refine awp_seq ?_
                refine awp_region ?_
                refine r_mv rfl trivial rfl ?_
                refine r_mv rfl trivial rfl ?_
                first | refine r_ixr sl_63 ty_3 rfl rfl (by omega) (by first | exact map_get (by omega) | exact map_geti (by omega)) trivial rfl ?_ | refine r_ixw sl_63 ty_3 rfl rfl (by omega) (by first | omega | (simp; done) | (simp; omega)) trivial rfl ?_
                first | refine r_ld ty_3 rfl rfl rfl trivial rfl ?_ | refine r_ldr ty_3 rfl rfl trivial rfl ?_ | refine r_ldo ty_3 rfl rfl (by first | rfl | assumption) rfl trivial rfl ?_
                refine r_lss rfl rfl trivial rfl ?_
                refine reg_nil ?_
                first | refine awp_cond_dec rfl (fun h15 => ?_) (fun h15 => ?_) | refine awp_cond rfl (fun h15 => ?_) (fun h15 => ?_)
                · refine awp_seq ?_
                  refine awp_region ?_
                  refine r_build pl_37 z_37 rfl rfl trivial rfl ?_
                  first | refine r_st ty_37 rfl rfl rfl rfl rfl rfl rfl trivial ?_ | refine r_sto ty_37 rfl rfl rfl rfl (by first | rfl | assumption) rfl rfl trivial ?_
                  refine reg_nil ?_
                  refine awp_ret ?_
                  refine fin0 (.cons (.agg rfl rfl ty_37 (Nat.le_of_ble_eq_true rfl)) .nil) (.aggf' (l := encEv zeroEv) rfl) ?_
                  (rw [hw, lineEvR_4g a b, okEv, if_pos (by first | (simp; omega) | simp_all)])
                · refine awp_skip ?_
                  refine awp_region ?_
                  refine r_mv rfl trivial rfl ?_
                  refine r_add rfl rfl (rng64 (by first | omega | simp [intsF])) trivial rfl ?_
                  refine r_as rfl trivial rfl ?_
                  refine reg_nil ?_
                  refine unr_succ ?_
                  refine awp_seq ?_
                  refine awp_seq ?_
                  refine awp_region ?_
                  refine r_mv rfl trivial rfl ?_
                  refine r_mv rfl trivial rfl ?_
                  first | refine r_lenr sl_63 rfl trivial rfl ?_ | refine r_lenw sl_63 rfl trivial rfl ?_ | refine r_len0 sl_63 rfl trivial rfl ?_
                  refine r_lss rfl rfl trivial rfl ?_
                  refine reg_nil ?_
                  refine awp_cond_t rfl ?_
                  refine awp_skip ?_
                  refine awp_seq ?_
                  refine awp_block ?_
                  refine awp_seq ?_
                  refine awp_region ?_
                  refine r_mv rfl trivial rfl ?_
                  refine r_mv rfl trivial rfl ?_
                  refine r_add rfl rfl (rng64 (by first | omega | simp [intsF])) trivial rfl ?_
                  first | refine r_ixr sl_69 ty_9 rfl rfl (by omega) (by first | exact map_get (by omega) | exact map_geti (by omega)) trivial rfl ?_ | refine r_ixw sl_69 ty_9 rfl rfl (by omega) (by first | omega | (simp; done) | (simp; omega)) trivial rfl ?_
                  first | refine r_ld ty_9 rfl rfl rfl trivial rfl ?_ | refine r_ldr ty_9 rfl rfl trivial rfl ?_ | refine r_ldo ty_9 rfl rfl (by first | rfl | assumption) rfl trivial rfl ?_
                  refine r_as rfl trivial rfl ?_
                  refine reg_nil ?_
                  refine awp_seq ?_
                  refine awp_region ?_
                  refine r_mv rfl trivial rfl ?_
                  refine r_mv rfl trivial rfl ?_
                  refine r_mv rfl trivial rfl ?_
                  refine r_call (whole_ok [103, 111, 111, 100]) cb_36 rfl rfl rfl ?_ trivial rfl ?_
                  · (repeat (first | exact .nil | refine .cons .fv ?_ | refine .cons (.aggf' rfl) ?_ | refine .cons .nil ?_ | refine .cons (.ren rfl) ?_))
                  first | refine r_ixr sl_63 ty_3 rfl rfl (by omega) (by first | exact map_get (by omega) | exact map_geti (by omega)) trivial rfl ?_ | refine r_ixw sl_63 ty_3 rfl rfl (by omega) (by first | omega | (simp; done) | (simp; omega)) trivial rfl ?_
                  first | refine r_st ty_3 rfl rfl rfl rfl rfl rfl rfl trivial ?_ | refine r_sto ty_3 rfl rfl rfl rfl (by first | rfl | assumption) rfl rfl trivial ?_
                  refine reg_nil ?_
                  refine awp_seq ?_
                  refine awp_seq ?_
                  refine awp_region ?_
                  refine r_mv rfl trivial rfl ?_
                  refine r_eqi rfl rfl trivial rfl ?_
                  refine r_mv rfl trivial rfl ?_
                  refine r_mv rfl ⟨_, rfl, rfl⟩ rfl ?_
                  refine r_eqi rfl rfl ⟨_, rfl, rfl⟩ rfl ?_
                  refine r_pkt rfl rfl trivial rfl ?_
                  refine reg_nil ?_
                  refine awp_cond_t rfl ?_
                  refine awp_seq ?_
                  refine awp_region ?_
                  refine r_mv rfl trivial rfl ?_
                  refine r_mv rfl trivial rfl ?_
                  first | refine r_ixr sl_63 ty_3 rfl rfl (by omega) (by first | exact map_get (by omega) | exact map_geti (by omega)) trivial rfl ?_ | refine r_ixw sl_63 ty_3 rfl rfl (by omega) (by first | omega | (simp; done) | (simp; omega)) trivial rfl ?_
                  first | refine r_st ty_3 rfl rfl rfl rfl rfl rfl rfl trivial ?_ | refine r_sto ty_3 rfl rfl rfl rfl (by first | rfl | assumption) rfl rfl trivial ?_
                  refine reg_nil ?_
                  refine awp_seq ?_
                  refine awp_seq ?_
                  refine awp_region ?_
                  refine r_mv rfl trivial rfl ?_
                  refine r_eqstr rfl rfl trivial rfl ?_
                  refine reg_nil ?_
                  refine awp_cond_yes rfl rfl ?_
                  refine awp_region ?_
                  refine r_mv rfl trivial rfl ?_
                  refine r_mv rfl trivial rfl ?_
                  first | refine r_ixr sl_63 ty_3 rfl rfl (by omega) (by first | exact map_get (by omega) | exact map_geti (by omega)) trivial rfl ?_ | refine r_ixw sl_63 ty_3 rfl rfl (by omega) (by first | omega | (simp; done) | (simp; omega)) trivial rfl ?_
                  first | refine r_st ty_3 rfl rfl rfl rfl rfl rfl rfl trivial ?_ | refine r_sto ty_3 rfl rfl rfl rfl (by first | rfl | assumption) rfl rfl trivial ?_
                  refine reg_nil ?_
                  refine awp_seq ?_
                  refine awp_region ?_
                  refine r_mv rfl trivial rfl ?_
                  refine r_eqstr rfl rfl trivial rfl ?_
                  refine reg_nil ?_
                  refine awp_cond_no rfl (by decide) ?_
                  refine awp_skip ?_
                  refine awp_seq ?_
                  refine awp_region ?_
                  refine r_mv rfl trivial rfl ?_
                  refine r_mv rfl trivial rfl ?_
                  first | refine r_ixr sl_63 ty_3 rfl rfl (by omega) (by first | exact map_get (by omega) | exact map_geti (by omega)) trivial rfl ?_ | refine r_ixw sl_63 ty_3 rfl rfl (by omega) (by first | omega | (simp; done) | (simp; omega)) trivial rfl ?_
                  first | refine r_ld ty_3 rfl rfl rfl trivial rfl ?_ | refine r_ldr ty_3 rfl rfl trivial rfl ?_ | refine r_ldo ty_3 rfl rfl (by first | rfl | assumption) rfl trivial rfl ?_
                  refine r_lss rfl rfl trivial rfl ?_
                  refine reg_nil ?_
                  refine awp_cond_no rfl (by decide) ?_
                  refine awp_skip ?_
                  refine awp_region ?_
                  refine r_mv rfl trivial rfl ?_
                  refine r_add rfl rfl (rng64 (by first | omega | simp [intsF])) trivial rfl ?_
                  refine r_as rfl trivial rfl ?_
                  refine reg_nil ?_
                  refine unr_succ ?_
                  refine awp_seq ?_
                  refine awp_seq ?_
                  refine awp_region ?_
                  refine r_mv rfl trivial rfl ?_
                  refine r_mv rfl trivial rfl ?_
                  first | refine r_lenr sl_63 rfl trivial rfl ?_ | refine r_lenw sl_63 rfl trivial rfl ?_ | refine r_len0 sl_63 rfl trivial rfl ?_
                  refine r_lss rfl rfl trivial rfl ?_
                  refine reg_nil ?_
                  refine awp_cond_f rfl ?_
                  refine awp_exit ?_
                  refine awp_seq ?_
                  refine awp_region ?_
                  refine r_mv rfl trivial rfl ?_
                  refine r_mv rfl trivial rfl ?_
                  refine r_callh [(0, 2)] 3 1 (eventOfw_4t (wholeR a) (wholeR b)) cb_28 rfl rfl rfl ?_ (.cons rfl .nil) rfl rfl rfl rfl trivial rfl ?_
                  · (repeat (first | exact .nil | refine .cons .fv ?_ | refine .cons (.aggf' rfl) ?_ | refine .cons .nil ?_ | refine .cons (.ren rfl) ?_))
                  refine r_alloc z_37 rfl trivial rfl ?_
                  first | refine r_st ty_37 rfl rfl rfl rfl rfl rfl rfl trivial ?_ | refine r_sto ty_37 rfl rfl rfl rfl (by first | rfl | assumption) rfl rfl trivial ?_
                  refine reg_nil ?_
                  refine awp_seq ?_
                  refine awp_seq ?_
                  refine awp_region ?_
                  first | refine r_lda ty_37 rfl rfl rfl rfl trivial rfl ?_ | refine r_ldra ty_37 rfl rfl rfl trivial rfl ?_ | refine r_ldoa ty_37 rfl rfl (by first | rfl | assumption) rfl rfl trivial rfl ?_
                  refine r_call (fault_ok ⟨4, 0, wholeR a, wholeR b, true, 0, 0, 0⟩) cb_15 rfl rfl rfl ?_ trivial rfl ?_
                  · (repeat (first | exact .nil | refine .cons .fv ?_ | refine .cons (.aggf' rfl) ?_ | refine .cons .nil ?_ | refine .cons (.ren rfl) ?_))
                  refine r_nei rfl rfl trivial rfl ?_
                  refine reg_nil ?_
                  first | refine awp_cond_dec rfl (fun h16 => ?_) (fun h16 => ?_) | refine awp_cond rfl (fun h16 => ?_) (fun h16 => ?_)
                  · refine awp_seq ?_
                    refine awp_region ?_
                    refine r_build pl_37 z_37 rfl rfl trivial rfl ?_
                    first | refine r_st ty_37 rfl rfl rfl rfl rfl rfl rfl trivial ?_ | refine r_sto ty_37 rfl rfl rfl rfl (by first | rfl | assumption) rfl rfl trivial ?_
                    refine reg_nil ?_
                    refine awp_ret ?_
                    refine fin0 (.cons (.agg rfl rfl ty_37 (Nat.le_of_ble_eq_true rfl)) .nil) (.aggf' (l := encEv zeroEv) rfl) ?_
                    (rw [hw, lineEvR_4g a b, okEv, if_pos (by first | (simp; omega) | simp_all)])
                  · refine awp_skip ?_
                    refine awp_seq ?_
                    refine awp_region ?_
                    first | refine r_lda ty_37 rfl rfl rfl rfl trivial rfl ?_ | refine r_ldra ty_37 rfl rfl rfl trivial rfl ?_ | refine r_ldoa ty_37 rfl rfl (by first | rfl | assumption) rfl rfl trivial rfl ?_
                    first | refine r_st ty_37 rfl rfl rfl rfl rfl rfl rfl trivial ?_ | refine r_sto ty_37 rfl rfl rfl rfl (by first | rfl | assumption) rfl rfl trivial ?_
                    refine reg_nil ?_
                    refine awp_ret ?_
                    refine fin0 (.cons (.agg rfl rfl ty_37 (Nat.le_of_ble_eq_true rfl)) .nil) (.aggf' (l := encEv ⟨4, 0, wholeR a, wholeR b, true, 0, 0, 0⟩) rfl) ?_
                    (rw [hw, lineEvR_4g a b, okEv, if_neg (by first | (simp; omega) | (simp_all; done) | (simp_all; omega))])
            · refine awp_region ?_
              refine r_mv rfl trivial rfl ?_
              refine r_build pl_37 z_37 rfl rfl trivial rfl ?_
              refine r_callh [(0, 2)] 3 1 (numbersw_4) cb_26 rfl rfl rfl ?_ .nil rfl rfl rfl rfl trivial rfl ?_
              · (repeat (first | exact .nil | refine .cons .fv ?_ | refine .cons (.aggf' rfl) ?_ | refine .cons .nil ?_ | refine .cons (.ren rfl) ?_))
              refine r_mv rfl trivial rfl ?_
              refine r_ext rfl rfl trivial rfl ?_
              refine r_ext rfl rfl trivial rfl ?_
              refine r_ext rfl rfl trivial rfl ?_
              refine r_ext rfl rfl trivial rfl ?_
              refine r_as rfl trivial rfl ?_
              refine r_as rfl trivial rfl ?_
              refine r_as rfl trivial rfl ?_
              refine r_as rfl trivial rfl ?_
              refine reg_nil ?_
              refine awp_seq ?_
              refine awp_seq ?_
              refine awp_region ?_
              refine r_mv rfl trivial rfl ?_
              first | refine r_lenr sl_69 rfl trivial rfl ?_ | refine r_lenw sl_69 rfl trivial rfl ?_ | refine r_len0 sl_69 rfl trivial rfl ?_
              refine r_mv rfl trivial rfl ?_
              first | refine r_lenr sl_63 rfl trivial rfl ?_ | refine r_lenw sl_63 rfl trivial rfl ?_ | refine r_len0 sl_63 rfl trivial rfl ?_
              refine r_add rfl rfl (rng64 (by first | omega | simp [intsF])) trivial rfl ?_
              refine r_nei rfl rfl trivial rfl ?_
              refine reg_nil ?_
              refine awp_cond_f rfl ?_
              refine awp_skip ?_
              refine awp_seq ?_
              refine awp_seq ?_
              refine awp_region ?_
              refine r_as rfl trivial rfl ?_
              refine reg_nil ?_
              refine awp_block ?_
              refine awp_unroll 4 ?_
              refine unr_succ ?_
              refine awp_seq ?_
              refine awp_seq ?_
              refine awp_region ?_
              refine r_mv rfl trivial rfl ?_
              refine r_mv rfl trivial rfl ?_
              first | refine r_lenr sl_63 rfl trivial rfl ?_ | refine r_lenw sl_63 rfl trivial rfl ?_ | refine r_len0 sl_63 rfl trivial rfl ?_
              refine r_lss rfl rfl trivial rfl ?_
              refine reg_nil ?_
              refine awp_cond_t rfl ?_
              refine awp_skip ?_
              refine awp_seq ?_
              refine awp_block ?_
              refine awp_seq ?_
              refine awp_region ?_
              refine r_mv rfl trivial rfl ?_
              refine r_mv rfl trivial rfl ?_
              refine r_add rfl rfl (rng64 (by first | omega | simp [intsF])) trivial rfl ?_
              first | refine r_ixr sl_69 ty_9 rfl rfl (by omega) (by first | exact map_get (by omega) | exact map_geti (by omega)) trivial rfl ?_ | refine r_ixw sl_69 ty_9 rfl rfl (by omega) (by first | omega | (simp; done) | (simp; omega)) trivial rfl ?_
              first | refine r_ld ty_9 rfl rfl rfl trivial rfl ?_ | refine r_ldr ty_9 rfl rfl trivial rfl ?_ | refine r_ldo ty_9 rfl rfl (by first | rfl | assumption) rfl trivial rfl ?_
              refine r_as rfl trivial rfl ?_
              refine reg_nil ?_
              refine awp_seq ?_
              refine awp_region ?_
              refine r_mv rfl trivial rfl ?_
              refine r_mv rfl trivial rfl ?_
              refine r_mv rfl trivial rfl ?_
              refine r_call (whole_ok a) cb_36 rfl rfl rfl ?_ trivial rfl ?_
              · (repeat (first | exact .nil | refine .cons .fv ?_ | refine .cons (.aggf' rfl) ?_ | refine .cons .nil ?_ | refine .cons (.ren rfl) ?_))
              first | refine r_ixr sl_63 ty_3 rfl rfl (by omega) (by first | exact map_get (by omega) | exact map_geti (by omega)) trivial rfl ?_ | refine r_ixw sl_63 ty_3 rfl rfl (by omega) (by first | omega | (simp; done) | (simp; omega)) trivial rfl ?_
              first | refine r_st ty_3 rfl rfl rfl rfl rfl rfl rfl trivial ?_ | refine r_sto ty_3 rfl rfl rfl rfl (by first | rfl | assumption) rfl rfl trivial ?_
              refine reg_nil ?_
              refine awp_seq ?_
              refine awp_seq ?_
              refine awp_region ?_
              refine r_mv rfl trivial rfl ?_
              refine r_eqi rfl rfl trivial rfl ?_
              refine r_mv rfl trivial rfl ?_
              refine r_mv rfl ⟨_, rfl, rfl⟩ rfl ?_
              refine r_eqi rfl rfl ⟨_, rfl, rfl⟩ rfl ?_
              refine r_pkt rfl rfl trivial rfl ?_
              refine reg_nil ?_
              refine awp_cond_f rfl ?_
              refine awp_skip ?_
              refine awp_seq ?_
              refine awp_region ?_
              refine r_mv rfl trivial rfl ?_
              refine r_mv rfl trivial rfl ?_
              first | refine r_ixr sl_63 ty_3 rfl rfl (by omega) (by first | exact map_get (by omega) | exact map_geti (by omega)) trivial rfl ?_ | refine r_ixw sl_63 ty_3 rfl rfl (by omega) (by first | omega | (simp; done) | (simp; omega)) trivial rfl ?_
              first | refine r_ld ty_3 rfl rfl rfl trivial rfl ?_ | refine r_ldr ty_3 rfl rfl trivial rfl ?_ | refine r_ldo ty_3 rfl rfl (by first | rfl | assumption) rfl trivial rfl ?_
              refine r_lss rfl rfl trivial rfl ?_
              refine reg_nil ?_
              first | refine awp_cond_dec rfl (fun h17 => ?_) (fun h17 => ?_) | refine awp_cond rfl (fun h17 => ?_) (fun h17 => ?_)
              · refine awp_seq ?_
                refine awp_region ?_
                refine r_build pl_37 z_37 rfl rfl trivial rfl ?_
                first | refine r_st ty_37 rfl rfl rfl rfl rfl rfl rfl trivial ?_ | refine r_sto ty_37 rfl rfl rfl rfl (by first | rfl | assumption) rfl rfl trivial ?_
                refine reg_nil ?_
                refine awp_ret ?_
                refine fin0 (.cons (.agg rfl rfl ty_37 (Nat.le_of_ble_eq_true rfl)) .nil) (.aggf' (l := encEv zeroEv) rfl) ?_
                (rw [hw, lineEvR_4b a b, okEv, if_pos (by first | (simp; omega) | simp_all)])
              · refine awp_skip ?_
                refine awp_region ?_
                refine r_mv rfl trivial rfl ?_
                refine r_add rfl rfl (rng64 (by first | omega | simp [intsF])) trivial rfl ?_
                refine r_as rfl trivial rfl ?_
                refine reg_nil ?_
                refine unr_succ ?_
                refine awp_seq ?_
                refine awp_seq ?_
                refine awp_region ?_
                refine r_mv rfl trivial rfl ?_
                refine r_mv rfl trivial rfl ?_
                first | refine r_lenr sl_63 rfl trivial rfl ?_ | refine r_lenw sl_63 rfl trivial rfl ?_ | refine r_len0 sl_63 rfl trivial rfl ?_
                refine r_lss rfl rfl trivial rfl ?_
                refine reg_nil ?_
                refine awp_cond_t rfl ?_
                refine awp_skip ?_
                refine awp_seq ?_
                refine awp_block ?_
                refine awp_seq ?_
                refine awp_region ?_
                refine r_mv rfl trivial rfl ?_
                refine r_mv rfl trivial rfl ?_
                refine r_add rfl rfl (rng64 (by first | omega | simp [intsF])) trivial rfl ?_
                first | refine r_ixr sl_69 ty_9 rfl rfl (by omega) (by first | exact map_get (by omega) | exact map_geti (by omega)) trivial rfl ?_ | refine r_ixw sl_69 ty_9 rfl rfl (by omega) (by first | omega | (simp; done) | (simp; omega)) trivial rfl ?_
                first | refine r_ld ty_9 rfl rfl rfl trivial rfl ?_ | refine r_ldr ty_9 rfl rfl trivial rfl ?_ | refine r_ldo ty_9 rfl rfl (by first | rfl | assumption) rfl trivial rfl ?_
                refine r_as rfl trivial rfl ?_
                refine reg_nil ?_
                refine awp_seq ?_
                refine awp_region ?_
                refine r_mv rfl trivial rfl ?_
                refine r_mv rfl trivial rfl ?_
                refine r_mv rfl trivial rfl ?_
                refine r_call (whole_ok b) cb_36 rfl rfl rfl ?_ trivial rfl ?_
                · (repeat (first | exact .nil | refine .cons .fv ?_ | refine .cons (.aggf' rfl) ?_ | refine .cons .nil ?_ | refine .cons (.ren rfl) ?_))
                first | refine r_ixr sl_63 ty_3 rfl rfl (by omega) (by first | exact map_get (by omega) | exact map_geti (by omega)) trivial rfl ?_ | refine r_ixw sl_63 ty_3 rfl rfl (by omega) (by first | omega | (simp; done) | (simp; omega)) trivial rfl ?_
                first | refine r_st ty_3 rfl rfl rfl rfl rfl rfl rfl trivial ?_ | refine r_sto ty_3 rfl rfl rfl rfl (by first | rfl | assumption) rfl rfl trivial ?_
                refine reg_nil ?_
                refine awp_seq ?_
                refine awp_seq ?_
                refine awp_region ?_
                refine r_mv rfl trivial rfl ?_
                refine r_eqi rfl rfl trivial rfl ?_
                refine r_mv rfl trivial rfl ?_
                refine r_mv rfl ⟨_, rfl, rfl⟩ rfl ?_
                refine r_eqi rfl rfl ⟨_, rfl, rfl⟩ rfl ?_
                refine r_pkt rfl rfl trivial rfl ?_
                refine reg_nil ?_
                refine awp_cond_f rfl ?_
                refine awp_skip ?_
                refine awp_seq ?_
                refine awp_region ?_
                refine r_mv rfl trivial rfl ?_
                refine r_mv rfl trivial rfl ?_
                first | refine r_ixr sl_63 ty_3 rfl rfl (by omega) (by first | exact map_get (by omega) | exact map_geti (by omega)) trivial rfl ?_ | refine r_ixw sl_63 ty_3 rfl rfl (by omega) (by first | omega | (simp; done) | (simp; omega)) trivial rfl ?_
                first | refine r_ld ty_3 rfl rfl rfl trivial rfl ?_ | refine r_ldr ty_3 rfl rfl trivial rfl ?_ | refine r_ldo ty_3 rfl rfl (by first | rfl | assumption) rfl trivial rfl ?_
                refine r_lss rfl rfl trivial rfl ?_
                refine reg_nil ?_
                first | refine awp_cond_dec rfl (fun h18 => ?_) (fun h18 => ?_) | refine awp_cond rfl (fun h18 => ?_) (fun h18 => ?_)
                · refine awp_seq ?_
                  refine awp_region ?_
                  refine r_build pl_37 z_37 rfl rfl trivial rfl ?_
                  first | refine r_st ty_37 rfl rfl rfl rfl rfl rfl rfl trivial ?_ | refine r_sto ty_37 rfl rfl rfl rfl (by first | rfl | assumption) rfl rfl trivial ?_
                  refine reg_nil ?_
                  refine awp_ret ?_
                  refine fin0 (.cons (.agg rfl rfl ty_37 (Nat.le_of_ble_eq_true rfl)) .nil) (.aggf' (l := encEv zeroEv) rfl) ?_
                  (rw [hw, lineEvR_4b a b, okEv, if_pos (by first | (simp; omega) | simp_all)])
                · refine awp_skip ?_
                  refine awp_region ?_
                  refine r_mv rfl trivial rfl ?_
                  refine r_add rfl rfl (rng64 (by first | omega | simp [intsF])) trivial rfl ?_
                  refine r_as rfl trivial rfl ?_
                  refine reg_nil ?_
                  refine unr_succ ?_
                  refine awp_seq ?_
                  refine awp_seq ?_
                  refine awp_region ?_
                  refine r_mv rfl trivial rfl ?_
                  refine r_mv rfl trivial rfl ?_
                  first | refine r_lenr sl_63 rfl trivial rfl ?_ | refine r_lenw sl_63 rfl trivial rfl ?_ | refine r_len0 sl_63 rfl trivial rfl ?_
                  refine r_lss rfl rfl trivial rfl ?_
                  refine reg_nil ?_
                  refine awp_cond_t rfl ?_
                  refine awp_skip ?_
                  refine awp_seq ?_
                  refine awp_block ?_
                  refine awp_seq ?_
                  refine awp_region ?_
                  refine r_mv rfl trivial rfl ?_
                  refine r_mv rfl trivial rfl ?_
                  refine r_add rfl rfl (rng64 (by first | omega | simp [intsF])) trivial rfl ?_
                  first | refine r_ixr sl_69 ty_9 rfl rfl (by omega) (by first | exact map_get (by omega) | exact map_geti (by omega)) trivial rfl ?_ | refine r_ixw sl_69 ty_9 rfl rfl (by omega) (by first | omega | (simp; done) | (simp; omega)) trivial rfl ?_
                  first | refine r_ld ty_9 rfl rfl rfl trivial rfl ?_ | refine r_ldr ty_9 rfl rfl trivial rfl ?_ | refine r_ldo ty_9 rfl rfl (by first | rfl | assumption) rfl trivial rfl ?_
                  refine r_as rfl trivial rfl ?_
                  refine reg_nil ?_
                  refine awp_seq ?_
                  refine awp_region ?_
                  refine r_mv rfl trivial rfl ?_
                  refine r_mv rfl trivial rfl ?_
                  refine r_mv rfl trivial rfl ?_
                  refine r_call (whole_ok [98, 97, 100]) cb_36 rfl rfl rfl ?_ trivial rfl ?_
                  · (repeat (first | exact .nil | refine .cons .fv ?_ | refine .cons (.aggf' rfl) ?_ | refine .cons .nil ?_ | refine .cons (.ren rfl) ?_))
                  first | refine r_ixr sl_63 ty_3 rfl rfl (by omega) (by first | exact map_get (by omega) | exact map_geti (by omega)) trivial rfl ?_ | refine r_ixw sl_63 ty_3 rfl rfl (by omega) (by first | omega | (simp; done) | (simp; omega)) trivial rfl ?_
                  first | refine r_st ty_3 rfl rfl rfl rfl rfl rfl rfl trivial ?_ | refine r_sto ty_3 rfl rfl rfl rfl (by first | rfl | assumption) rfl rfl trivial ?_
                  refine reg_nil ?_
                  refine awp_seq ?_
                  refine awp_seq ?_
                  refine awp_region ?_
                  refine r_mv rfl trivial rfl ?_
                  refine r_eqi rfl rfl trivial rfl ?_
                  refine r_mv rfl trivial rfl ?_
                  refine r_mv rfl ⟨_, rfl, rfl⟩ rfl ?_
                  refine r_eqi rfl rfl ⟨_, rfl, rfl⟩ rfl ?_
                  refine r_pkt rfl rfl trivial rfl ?_
                  refine reg_nil ?_
                  refine awp_cond_t rfl ?_
                  refine awp_seq ?_
                  refine awp_region ?_
                  refine r_mv rfl trivial rfl ?_
                  refine r_mv rfl trivial rfl ?_
                  first | refine r_ixr sl_63 ty_3 rfl rfl (by omega) (by first | exact map_get (by omega) | exact map_geti (by omega)) trivial rfl ?_ | refine r_ixw sl_63 ty_3 rfl rfl (by omega) (by first | omega | (simp; done) | (simp; omega)) trivial rfl ?_
                  first | refine r_st ty_3 rfl rfl rfl rfl rfl rfl rfl trivial ?_ | refine r_sto ty_3 rfl rfl rfl rfl (by first | rfl | assumption) rfl rfl trivial ?_
                  refine reg_nil ?_
                  refine awp_seq ?_
                  refine awp_seq ?_
                  refine awp_region ?_
                  refine r_mv rfl trivial rfl ?_
                  refine r_eqstr rfl rfl trivial rfl ?_
                  refine reg_nil ?_
                  refine awp_cond_no rfl (by decide) ?_
                  refine awp_skip ?_
                  refine awp_seq ?_
                  refine awp_region ?_
                  refine r_mv rfl trivial rfl ?_
                  refine r_eqstr rfl rfl trivial rfl ?_
                  refine reg_nil ?_
                  refine awp_cond_yes rfl rfl ?_
                  refine awp_region ?_
                  refine r_mv rfl trivial rfl ?_
                  refine r_mv rfl trivial rfl ?_
                  first | refine r_ixr sl_63 ty_3 rfl rfl (by omega) (by first | exact map_get (by omega) | exact map_geti (by omega)) trivial rfl ?_ | refine r_ixw sl_63 ty_3 rfl rfl (by omega) (by first | omega | (simp; done) | (simp; omega)) trivial rfl ?_
                  first | refine r_st ty_3 rfl rfl rfl rfl rfl rfl rfl trivial ?_ | refine r_sto ty_3 rfl rfl rfl rfl (by first | rfl | assumption) rfl rfl trivial ?_
                  refine reg_nil ?_
                  refine awp_seq ?_
                  refine awp_region ?_
                  refine r_mv rfl trivial rfl ?_
                  refine r_mv rfl trivial rfl ?_
                  first | refine r_ixr sl_63 ty_3 rfl rfl (by omega) (by first | exact map_get (by omega) | exact map_geti (by omega)) trivial rfl ?_ | refine r_ixw sl_63 ty_3 rfl rfl (by omega) (by first | omega | (simp; done) | (simp; omega)) trivial rfl ?_
                  first | refine r_ld ty_3 rfl rfl rfl trivial rfl ?_ | refine r_ldr ty_3 rfl rfl trivial rfl ?_ | refine r_ldo ty_3 rfl rfl (by first | rfl | assumption) rfl trivial rfl ?_
                  refine r_lss rfl rfl trivial rfl ?_
                  refine reg_nil ?_
                  refine awp_cond_no rfl (by decide) ?_
                  refine awp_skip ?_
                  refine awp_region ?_
                  refine r_mv rfl trivial rfl ?_
                  refine r_add rfl rfl (rng64 (by first | omega | simp [intsF])) trivial rfl ?_
                  refine r_as rfl trivial rfl ?_
                  refine reg_nil ?_
                  refine unr_succ ?_
                  refine awp_seq ?_
                  refine awp_seq ?_
                  refine awp_region ?_
                  refine r_mv rfl trivial rfl ?_
                  refine r_mv rfl trivial rfl ?_
                  first | refine r_lenr sl_63 rfl trivial rfl ?_ | refine r_lenw sl_63 rfl trivial rfl ?_ | refine r_len0 sl_63 rfl trivial rfl ?_
                  refine r_lss rfl rfl trivial rfl ?_
                  refine reg_nil ?_
                  refine awp_cond_f rfl ?_
                  refine awp_exit ?_
                  refine awp_seq ?_
                  refine awp_region ?_
                  refine r_mv rfl trivial rfl ?_
                  refine r_mv rfl trivial rfl ?_
                  refine r_callh [(0, 2)] 3 1 (eventOfw_4f (wholeR a) (wholeR b)) cb_28 rfl rfl rfl ?_ (.cons rfl .nil) rfl rfl rfl rfl trivial rfl ?_
                  · (repeat (first | exact .nil | refine .cons .fv ?_ | refine .cons (.aggf' rfl) ?_ | refine .cons .nil ?_ | refine .cons (.ren rfl) ?_))
                  refine r_alloc z_37 rfl trivial rfl ?_
                  first | refine r_st ty_37 rfl rfl rfl rfl rfl rfl rfl trivial ?_ | refine r_sto ty_37 rfl rfl rfl rfl (by first | rfl | assumption) rfl rfl trivial ?_
                  refine reg_nil ?_
                  refine awp_seq ?_
                  refine awp_seq ?_
                  refine awp_region ?_
                  first | refine r_lda ty_37 rfl rfl rfl rfl trivial rfl ?_ | refine r_ldra ty_37 rfl rfl rfl trivial rfl ?_ | refine r_ldoa ty_37 rfl rfl (by first | rfl | assumption) rfl rfl trivial rfl ?_
                  refine r_call (fault_ok ⟨4, 0, wholeR a, wholeR b, false, 0, 0, 0⟩) cb_15 rfl rfl rfl ?_ trivial rfl ?_
                  · (repeat (first | exact .nil | refine .cons .fv ?_ | refine .cons (.aggf' rfl) ?_ | refine .cons .nil ?_ | refine .cons (.ren rfl) ?_))
                  refine r_nei rfl rfl trivial rfl ?_
                  refine reg_nil ?_
                  first | refine awp_cond_dec rfl (fun h19 => ?_) (fun h19 => ?_) | refine awp_cond rfl (fun h19 => ?_) (fun h19 => ?_)
                  · refine awp_seq ?_
                    refine awp_region ?_
                    refine r_build pl_37 z_37 rfl rfl trivial rfl ?_
                    first | refine r_st ty_37 rfl rfl rfl rfl rfl rfl rfl trivial ?_ | refine r_sto ty_37 rfl rfl rfl rfl (by first | rfl | assumption) rfl rfl trivial ?_
                    refine reg_nil ?_
                    refine awp_ret ?_
                    refine fin0 (.cons (.agg rfl rfl ty_37 (Nat.le_of_ble_eq_true rfl)) .nil) (.aggf' (l := encEv zeroEv) rfl) ?_
                    (rw [hw, lineEvR_4b a b, okEv, if_pos (by first | (simp; omega) | simp_all)])
                  · refine awp_skip ?_
                    refine awp_seq ?_
                    refine awp_region ?_
                    first | refine r_lda ty_37 rfl rfl rfl rfl trivial rfl ?_ | refine r_ldra ty_37 rfl rfl rfl trivial rfl ?_ | refine r_ldoa ty_37 rfl rfl (by first | rfl | assumption) rfl rfl trivial rfl ?_
                    first | refine r_st ty_37 rfl rfl rfl rfl rfl rfl rfl trivial ?_ | refine r_sto ty_37 rfl rfl rfl rfl (by first | rfl | assumption) rfl rfl trivial ?_
                    refine reg_nil ?_
                    refine awp_ret ?_
                    refine fin0 (.cons (.agg rfl rfl ty_37 (Nat.le_of_ble_eq_true rfl)) .nil) (.aggf' (l := encEv ⟨4, 0, wholeR a, wholeR b, false, 0, 0, 0⟩) rfl) ?_
                    (rw [hw, lineEvR_4b a b, okEv, if_neg (by first | (simp; omega) | (simp_all; done) | (simp_all; omega))])
            · refine awp_region ?_
              refine r_mv rfl trivial rfl ?_
              refine r_build pl_37 z_37 rfl rfl trivial rfl ?_
              refine r_callh [(0, 2)] 3 1 (numbersw_4) cb_26 rfl rfl rfl ?_ .nil rfl rfl rfl rfl trivial rfl ?_
              · (repeat (first | exact .nil | refine .cons .fv ?_ | refine .cons (.aggf' rfl) ?_ | refine .cons .nil ?_ | refine .cons (.ren rfl) ?_))
              refine r_mv rfl trivial rfl ?_
              refine r_ext rfl rfl trivial rfl ?_
              refine r_ext rfl rfl trivial rfl ?_
              refine r_ext rfl rfl trivial rfl ?_
              refine r_ext rfl rfl trivial rfl ?_
              refine r_as rfl trivial rfl ?_
              refine r_as rfl trivial rfl ?_
              refine r_as rfl trivial rfl ?_
              refine r_as rfl trivial rfl ?_
              refine reg_nil ?_
              refine awp_seq ?_
              refine awp_seq ?_
              refine awp_region ?_
              refine r_mv rfl trivial rfl ?_
              first | refine r_lenr sl_69 rfl trivial rfl ?_ | refine r_lenw sl_69 rfl trivial rfl ?_ | refine r_len0 sl_69 rfl trivial rfl ?_
              refine r_mv rfl trivial rfl ?_
              first | refine r_lenr sl_63 rfl trivial rfl ?_ | refine r_lenw sl_63 rfl trivial rfl ?_ | refine r_len0 sl_63 rfl trivial rfl ?_
              refine r_add rfl rfl (rng64 (by first | omega | simp [intsF])) trivial rfl ?_
              refine r_nei rfl rfl trivial rfl ?_
              refine reg_nil ?_
              refine awp_cond_f rfl ?_
              refine awp_skip ?_
              refine awp_seq ?_
              refine awp_seq ?_
              refine awp_region ?_
              refine r_as rfl trivial rfl ?_
              refine reg_nil ?_
              refine awp_block ?_
              refine awp_unroll 4 ?_
              refine unr_succ ?_
              refine awp_seq ?_
              refine awp_seq ?_
              refine awp_region ?_
              refine r_mv rfl trivial rfl ?_
              refine r_mv rfl trivial rfl ?_
              first | refine r_lenr sl_63 rfl trivial rfl ?_ | refine r_lenw sl_63 rfl trivial rfl ?_ | refine r_len0 sl_63 rfl trivial rfl ?_
              refine r_lss rfl rfl trivial rfl ?_
              refine reg_nil ?_
              refine awp_cond_t rfl ?_
              refine awp_skip ?_
              refine awp_seq ?_
              refine awp_block ?_
              refine awp_seq ?_
              refine awp_region ?_
              refine r_mv rfl trivial rfl ?_
              refine r_mv rfl trivial rfl ?_
              refine r_add rfl rfl (rng64 (by first | omega | simp [intsF])) trivial rfl ?_
              first | refine r_ixr sl_69 ty_9 rfl rfl (by omega) (by first | exact map_get (by omega) | exact map_geti (by omega)) trivial rfl ?_ | refine r_ixw sl_69 ty_9 rfl rfl (by omega) (by first | omega | (simp; done) | (simp; omega)) trivial rfl ?_
              first | refine r_ld ty_9 rfl rfl rfl trivial rfl ?_ | refine r_ldr ty_9 rfl rfl trivial rfl ?_ | refine r_ldo ty_9 rfl rfl (by first | rfl | assumption) rfl trivial rfl ?_
              refine r_as rfl trivial rfl ?_
              refine reg_nil ?_
              refine awp_seq ?_
              refine awp_region ?_
              refine r_mv rfl trivial rfl ?_
              refine r_mv rfl trivial rfl ?_
              refine r_mv rfl trivial rfl ?_
              refine r_call (whole_ok a) cb_36 rfl rfl rfl ?_ trivial rfl ?_
              · (repeat (first | exact .nil | refine .cons .fv ?_ | refine .cons (.aggf' rfl) ?_ | refine .cons .nil ?_ | refine .cons (.ren rfl) ?_))
              first | refine r_ixr sl_63 ty_3 rfl rfl (by omega) (by first | exact map_get (by omega) | exact map_geti (by omega)) trivial rfl ?_ | refine r_ixw sl_63 ty_3 rfl rfl (by omega) (by first | omega | (simp; done) | (simp; omega)) trivial rfl ?_
              first | refine r_st ty_3 rfl rfl rfl rfl rfl rfl rfl trivial ?_ | refine r_sto ty_3 rfl rfl rfl rfl (by first | rfl | assumption) rfl rfl trivial ?_
              refine reg_nil ?_
              refine awp_seq ?_
              refine awp_seq ?_
              refine awp_region ?_
              refine r_mv rfl trivial rfl ?_
              refine r_eqi rfl rfl trivial rfl ?_
              refine r_mv rfl trivial rfl ?_
              refine r_mv rfl ⟨_, rfl, rfl⟩ rfl ?_
              refine r_eqi rfl rfl ⟨_, rfl, rfl⟩ rfl ?_
              refine r_pkt rfl rfl trivial rfl ?_
              refine reg_nil ?_
              refine awp_cond_f rfl ?_
              refine awp_skip ?_
              refine awp_seq ?_
              refine awp_region ?_
              refine r_mv rfl trivial rfl ?_
              refine r_mv rfl trivial rfl ?_
              first | refine r_ixr sl_63 ty_3 rfl rfl (by omega) (by first | exact map_get (by omega) | exact map_geti (by omega)) trivial rfl ?_ | refine r_ixw sl_63 ty_3 rfl rfl (by omega) (by first | omega | (simp; done) | (simp; omega)) trivial rfl ?_
              first | refine r_ld ty_3 rfl rfl rfl trivial rfl ?_ | refine r_ldr ty_3 rfl rfl trivial rfl ?_ | refine r_ldo ty_3 rfl rfl (by first | rfl | assumption) rfl trivial rfl ?_
              refine r_lss rfl rfl trivial rfl ?_
              refine reg_nil ?_
              first | refine awp_cond_dec rfl (fun h20 => ?_) (fun h20 => ?_) | refine awp_cond rfl (fun h20 => ?_) (fun h20 => ?_)
              · refine awp_seq ?_
                refine awp_region ?_
                refine r_build pl_37 z_37 rfl rfl trivial rfl ?_
                first | refine r_st ty_37 rfl rfl rfl rfl rfl rfl rfl trivial ?_ | refine r_sto ty_37 rfl rfl rfl rfl (by first | rfl | assumption) rfl rfl trivial ?_
                refine reg_nil ?_
                refine awp_ret ?_
                refine fin0 (.cons (.agg rfl rfl ty_37 (Nat.le_of_ble_eq_true rfl)) .nil) (.aggf' (l := encEv zeroEv) rfl) ?_
                (rw [hw, lineEvR_4o a b c hc1 hc2, okEv, if_pos (by first | (simp; omega) | simp_all)])
              · refine awp_skip ?_
                refine awp_region ?_
                refine r_mv rfl trivial rfl ?_
                refine r_add rfl rfl (rng64 (by first | omega | simp [intsF])) trivial rfl ?_
                refine r_as rfl trivial rfl ?_
                refine reg_nil ?_
                refine unr_succ ?_
                refine awp_seq ?_
                refine awp_seq ?_
                refine awp_region ?_
                refine r_mv rfl trivial rfl ?_
                refine r_mv rfl trivial rfl ?_
                first | refine r_lenr sl_63 rfl trivial rfl ?_ | refine r_lenw sl_63 rfl trivial rfl ?_ | refine r_len0 sl_63 rfl trivial rfl ?_
                refine r_lss rfl rfl trivial rfl ?_
                refine reg_nil ?_
                refine awp_cond_t rfl ?_
                refine awp_skip ?_
                refine awp_seq ?_
                refine awp_block ?_
                refine awp_seq ?_
                refine awp_region ?_
                refine r_mv rfl trivial rfl ?_
                refine r_mv rfl trivial rfl ?_
                refine r_add rfl rfl (rng64 (by first | omega | simp [intsF])) trivial rfl ?_
                first | refine r_ixr sl_69 ty_9 rfl rfl (by omega) (by first | exact map_get (by omega) | exact map_geti (by omega)) trivial rfl ?_ | refine r_ixw sl_69 ty_9 rfl rfl (by omega) (by first | omega | (simp; done) | (simp; omega)) trivial rfl ?_
                first | refine r_ld ty_9 rfl rfl rfl trivial rfl ?_ | refine r_ldr ty_9 rfl rfl trivial rfl ?_ | refine r_ldo ty_9 rfl rfl (by first | rfl | assumption) rfl trivial rfl ?_
                refine r_as rfl trivial rfl ?_
                refine reg_nil ?_
                refine awp_seq ?_
                refine awp_region ?_
                refine r_mv rfl trivial rfl ?_
                refine r_mv rfl trivial rfl ?_
                refine r_mv rfl trivial rfl ?_
                refine r_call (whole_ok b) cb_36 rfl rfl rfl ?_ trivial rfl ?_
                · (repeat (first | exact .nil | refine .cons .fv ?_ | refine .cons (.aggf' rfl) ?_ | refine .cons .nil ?_ | refine .cons (.ren rfl) ?_))
                first | refine r_ixr sl_63 ty_3 rfl rfl (by omega) (by first | exact map_get (by omega) | exact map_geti (by omega)) trivial rfl ?_ | refine r_ixw sl_63 ty_3 rfl rfl (by omega) (by first | omega | (simp; done) | (simp; omega)) trivial rfl ?_
                first | refine r_st ty_3 rfl rfl rfl rfl rfl rfl rfl trivial ?_ | refine r_sto ty_3 rfl rfl rfl rfl (by first | rfl | assumption) rfl rfl trivial ?_
                refine reg_nil ?_
                refine awp_seq ?_
                refine awp_seq ?_
                refine awp_region ?_
                refine r_mv rfl trivial rfl ?_
                refine r_eqi rfl rfl trivial rfl ?_
                refine r_mv rfl trivial rfl ?_
                refine r_mv rfl ⟨_, rfl, rfl⟩ rfl ?_
                refine r_eqi rfl rfl ⟨_, rfl, rfl⟩ rfl ?_
                refine r_pkt rfl rfl trivial rfl ?_
                refine reg_nil ?_
                refine awp_cond_f rfl ?_
                refine awp_skip ?_
                refine awp_seq ?_
                refine awp_region ?_
                refine r_mv rfl trivial rfl ?_
                refine r_mv rfl trivial rfl ?_
                first | refine r_ixr sl_63 ty_3 rfl rfl (by omega) (by first | exact map_get (by omega) | exact map_geti (by omega)) trivial rfl ?_ | refine r_ixw sl_63 ty_3 rfl rfl (by omega) (by first | omega | (simp; done) | (simp; omega)) trivial rfl ?_
                first | refine r_ld ty_3 rfl rfl rfl trivial rfl ?_ | refine r_ldr ty_3 rfl rfl trivial rfl ?_ | refine r_ldo ty_3 rfl rfl (by first | rfl | assumption) rfl trivial rfl ?_
                refine r_lss rfl rfl trivial rfl ?_
                refine reg_nil ?_
                first | refine awp_cond_dec rfl (fun h21 => ?_) (fun h21 => ?_) | refine awp_cond rfl (fun h21 => ?_) (fun h21 => ?_)
                · refine awp_seq ?_
                  refine awp_region ?_
                  refine r_build pl_37 z_37 rfl rfl trivial rfl ?_
                  first | refine r_st ty_37 rfl rfl rfl rfl rfl rfl rfl trivial ?_ | refine r_sto ty_37 rfl rfl rfl rfl (by first | rfl | assumption) rfl rfl trivial ?_
                  refine reg_nil ?_
                  refine awp_ret ?_
                  refine fin0 (.cons (.agg rfl rfl ty_37 (Nat.le_of_ble_eq_true rfl)) .nil) (.aggf' (l := encEv zeroEv) rfl) ?_
                  (rw [hw, lineEvR_4o a b c hc1 hc2, okEv, if_pos (by first | (simp; omega) | simp_all)])
                · refine awp_skip ?_
                  refine awp_region ?_
                  refine r_mv rfl trivial rfl ?_
                  refine r_add rfl rfl (rng64 (by first | omega | simp [intsF])) trivial rfl ?_
                  refine r_as rfl trivial rfl ?_
                  refine reg_nil ?_
                  refine unr_succ ?_
                  refine awp_seq ?_
                  refine awp_seq ?_
                  refine awp_region ?_
                  refine r_mv rfl trivial rfl ?_
                  refine r_mv rfl trivial rfl ?_
                  first | refine r_lenr sl_63 rfl trivial rfl ?_ | refine r_lenw sl_63 rfl trivial rfl ?_ | refine r_len0 sl_63 rfl trivial rfl ?_
                  refine r_lss rfl rfl trivial rfl ?_
                  refine reg_nil ?_
                  refine awp_cond_t rfl ?_
                  refine awp_skip ?_
                  refine awp_seq ?_
                  refine awp_block ?_
                  refine awp_seq ?_
                  refine awp_region ?_
                  refine r_mv rfl trivial rfl ?_
                  refine r_mv rfl trivial rfl ?_
                  refine r_add rfl rfl (rng64 (by first | omega | simp [intsF])) trivial rfl ?_
                  first | refine r_ixr sl_69 ty_9 rfl rfl (by omega) (by first | exact map_get (by omega) | exact map_geti (by omega)) trivial rfl ?_ | refine r_ixw sl_69 ty_9 rfl rfl (by omega) (by first | omega | (simp; done) | (simp; omega)) trivial rfl ?_
                  first | refine r_ld ty_9 rfl rfl rfl trivial rfl ?_ | refine r_ldr ty_9 rfl rfl trivial rfl ?_ | refine r_ldo ty_9 rfl rfl (by first | rfl | assumption) rfl trivial rfl ?_
                  refine r_as rfl trivial rfl ?_
                  refine reg_nil ?_
                  refine awp_seq ?_
                  refine awp_region ?_
                  refine r_mv rfl trivial rfl ?_
                  refine r_mv rfl trivial rfl ?_
                  refine r_mv rfl trivial rfl ?_
                  refine r_call (whole_ok c) cb_36 rfl rfl rfl ?_ trivial rfl ?_
                  · (repeat (first | exact .nil | refine .cons .fv ?_ | refine .cons (.aggf' rfl) ?_ | refine .cons .nil ?_ | refine .cons (.ren rfl) ?_))
                  first | refine r_ixr sl_63 ty_3 rfl rfl (by omega) (by first | exact map_get (by omega) | exact map_geti (by omega)) trivial rfl ?_ | refine r_ixw sl_63 ty_3 rfl rfl (by omega) (by first | omega | (simp; done) | (simp; omega)) trivial rfl ?_
                  first | refine r_st ty_3 rfl rfl rfl rfl rfl rfl rfl trivial ?_ | refine r_sto ty_3 rfl rfl rfl rfl (by first | rfl | assumption) rfl rfl trivial ?_
                  refine reg_nil ?_
                  refine awp_seq ?_
                  refine awp_seq ?_
                  refine awp_region ?_
                  refine r_mv rfl trivial rfl ?_
                  refine r_eqi rfl rfl trivial rfl ?_
                  refine r_mv rfl trivial rfl ?_
                  refine r_mv rfl ⟨_, rfl, rfl⟩ rfl ?_
                  refine r_eqi rfl rfl ⟨_, rfl, rfl⟩ rfl ?_
                  refine r_pkt rfl rfl trivial rfl ?_
                  refine reg_nil ?_
                  refine awp_cond_t rfl ?_
                  refine awp_seq ?_
                  refine awp_region ?_
                  refine r_mv rfl trivial rfl ?_
                  refine r_mv rfl trivial rfl ?_
                  first | refine r_ixr sl_63 ty_3 rfl rfl (by omega) (by first | exact map_get (by omega) | exact map_geti (by omega)) trivial rfl ?_ | refine r_ixw sl_63 ty_3 rfl rfl (by omega) (by first | omega | (simp; done) | (simp; omega)) trivial rfl ?_
                  first | refine r_st ty_3 rfl rfl rfl rfl rfl rfl rfl trivial ?_ | refine r_sto ty_3 rfl rfl rfl rfl (by first | rfl | assumption) rfl rfl trivial ?_
                  refine reg_nil ?_
                  refine awp_seq ?_
                  refine awp_seq ?_
                  refine awp_region ?_
                  refine r_mv rfl trivial rfl ?_
                  refine r_eqstr rfl rfl trivial rfl ?_
                  refine reg_nil ?_
                  refine awp_cond_no rfl hc1 ?_
                  refine awp_skip ?_
                  refine awp_seq ?_
                  refine awp_region ?_
                  refine r_mv rfl trivial rfl ?_
                  refine r_eqstr rfl rfl trivial rfl ?_
                  refine reg_nil ?_
                  refine awp_cond_no rfl hc2 ?_
                  refine awp_skip ?_
                  refine awp_seq ?_
                  refine awp_region ?_
                  refine r_mv rfl trivial rfl ?_
                  refine r_mv rfl trivial rfl ?_
                  first | refine r_ixr sl_63 ty_3 rfl rfl (by omega) (by first | exact map_get (by omega) | exact map_geti (by omega)) trivial rfl ?_ | refine r_ixw sl_63 ty_3 rfl rfl (by omega) (by first | omega | (simp; done) | (simp; omega)) trivial rfl ?_
                  first | refine r_ld ty_3 rfl rfl rfl trivial rfl ?_ | refine r_ldr ty_3 rfl rfl trivial rfl ?_ | refine r_ldo ty_3 rfl rfl (by first | rfl | assumption) rfl trivial rfl ?_
                  refine r_lss rfl rfl trivial rfl ?_
                  refine reg_nil ?_
                  refine awp_cond_yes rfl (by decide) ?_
                  refine awp_seq ?_
                  refine awp_region ?_
                  refine r_build pl_37 z_37 rfl rfl trivial rfl ?_
                  first | refine r_st ty_37 rfl rfl rfl rfl rfl rfl rfl trivial ?_ | refine r_sto ty_37 rfl rfl rfl rfl (by first | rfl | assumption) rfl rfl trivial ?_
                  refine reg_nil ?_
                  refine awp_ret ?_
                  refine fin0 (.cons (.agg rfl rfl ty_37 (Nat.le_of_ble_eq_true rfl)) .nil) (.aggf' (l := encEv zeroEv) rfl) ?_
                  (rw [hw, lineEvR_4o a b c hc1 hc2, okEv, if_pos (by first | (simp; omega) | simp_all)])
            · refine awp_region ?_
              refine r_mv rfl trivial rfl ?_
              refine r_build pl_37 z_37 rfl rfl trivial rfl ?_
              refine r_callh [(0, 2)] 3 1 (numbersw_5) cb_26 rfl rfl rfl ?_ .nil rfl rfl rfl rfl trivial rfl ?_
              · (repeat (first | exact .nil | refine .cons .fv ?_ | refine .cons (.aggf' rfl) ?_ | refine .cons .nil ?_ | refine .cons (.ren rfl) ?_))
              refine r_mv rfl trivial rfl ?_
              refine r_ext rfl rfl trivial rfl ?_
              refine r_ext rfl rfl trivial rfl ?_
              refine r_ext rfl rfl trivial rfl ?_
              refine r_ext rfl rfl trivial rfl ?_
              refine r_as rfl trivial rfl ?_
              refine r_as rfl trivial rfl ?_
              refine r_as rfl trivial rfl ?_
              refine r_as rfl trivial rfl ?_
              refine reg_nil ?_
              refine awp_seq ?_
              refine awp_seq ?_
              refine awp_region ?_
              refine r_mv rfl trivial rfl ?_
              first | refine r_lenr sl_69 rfl trivial rfl ?_ | refine r_lenw sl_69 rfl trivial rfl ?_ | refine r_len0 sl_69 rfl trivial rfl ?_
              refine r_mv rfl trivial rfl ?_
              first | refine r_lenr sl_63 rfl trivial rfl ?_ | refine r_lenw sl_63 rfl trivial rfl ?_ | refine r_len0 sl_63 rfl trivial rfl ?_
              refine r_add rfl rfl (rng64 (by first | omega | simp [intsF])) trivial rfl ?_
              refine r_nei rfl rfl trivial rfl ?_
              refine reg_nil ?_
              refine awp_cond_yes rfl (by first | (simp; omega) | (simp [intsF]; omega) | (have := hn; simp [intsF]; omega)) ?_
              refine awp_seq ?_
              refine awp_region ?_
              refine r_build pl_37 z_37 rfl rfl trivial rfl ?_
              first | refine r_st ty_37 rfl rfl rfl rfl rfl rfl rfl trivial ?_ | refine r_sto ty_37 rfl rfl rfl rfl (by first | rfl | assumption) rfl rfl trivial ?_
              refine reg_nil ?_
              refine awp_ret ?_
              refine fin0 (.cons (.agg rfl rfl ty_37 (Nat.le_of_ble_eq_true rfl)) .nil) (.aggf' (l := encEv zeroEv) rfl) ?_
              (rw [hw, lineEvR_w5 _ hn])
            · refine awp_region ?_
              refine r_mv rfl trivial rfl ?_
              refine r_build pl_37 z_37 rfl rfl trivial rfl ?_
              refine r_callh [(0, 2)] 3 1 (numbersw_5) cb_26 rfl rfl rfl ?_ .nil rfl rfl rfl rfl trivial rfl ?_
              · (repeat (first | exact .nil | refine .cons .fv ?_ | refine .cons (.aggf' rfl) ?_ | refine .cons .nil ?_ | refine .cons (.ren rfl) ?_))
              refine r_mv rfl trivial rfl ?_
              refine r_ext rfl rfl trivial rfl ?_
              refine r_ext rfl rfl trivial rfl ?_
              refine r_ext rfl rfl trivial rfl ?_
              refine r_ext rfl rfl trivial rfl ?_
              refine r_as rfl trivial rfl ?_
              refine r_as rfl trivial rfl ?_
              refine r_as rfl trivial rfl ?_
              refine r_as rfl trivial rfl ?_
              refine reg_nil ?_
              refine awp_seq ?_
              refine awp_seq ?_
              refine awp_region ?_
              refine r_mv rfl trivial rfl ?_
              first | refine r_lenr sl_69 rfl trivial rfl ?_ | refine r_lenw sl_69 rfl trivial rfl ?_ | refine r_len0 sl_69 rfl trivial rfl ?_
              refine r_mv rfl trivial rfl ?_
              first | refine r_lenr sl_63 rfl trivial rfl ?_ | refine r_lenw sl_63 rfl trivial rfl ?_ | refine r_len0 sl_63 rfl trivial rfl ?_
              refine r_add rfl rfl (rng64 (by first | omega | simp [intsF])) trivial rfl ?_
              refine r_nei rfl rfl trivial rfl ?_
              refine reg_nil ?_
              refine awp_cond_f rfl ?_
              refine awp_skip ?_
              refine awp_seq ?_
              refine awp_seq ?_
              refine awp_region ?_
              refine r_as rfl trivial rfl ?_
              refine reg_nil ?_
              refine awp_block ?_
              refine awp_unroll 4 ?_
              refine unr_succ ?_
              refine awp_seq ?_
              refine awp_seq ?_
              refine awp_region ?_
              refine r_mv rfl trivial rfl ?_
              refine r_mv rfl trivial rfl ?_
              first | refine r_lenr sl_63 rfl trivial rfl ?_ | refine r_lenw sl_63 rfl trivial rfl ?_ | refine r_len0 sl_63 rfl trivial rfl ?_
              refine r_lss rfl rfl trivial rfl ?_
              refine reg_nil ?_
              refine awp_cond_t rfl ?_
              refine awp_skip ?_
              refine awp_seq ?_
              refine awp_block ?_
              refine awp_seq ?_
              refine awp_region ?_
              refine r_mv rfl trivial rfl ?_
              refine r_mv rfl trivial rfl ?_
              refine r_add rfl rfl (rng64 (by first | omega | simp [intsF])) trivial rfl ?_
              first | refine r_ixr sl_69 ty_9 rfl rfl (by omega) (by first | exact map_get (by omega) | exact map_geti (by omega)) trivial rfl ?_ | refine r_ixw sl_69 ty_9 rfl rfl (by omega) (by first | omega | (simp; done) | (simp; omega)) trivial rfl ?_
              first | refine r_ld ty_9 rfl rfl rfl trivial rfl ?_ | refine r_ldr ty_9 rfl rfl trivial rfl ?_ | refine r_ldo ty_9 rfl rfl (by first | rfl | assumption) rfl trivial rfl ?_
              refine r_as rfl trivial rfl ?_
              refine reg_nil ?_
              refine awp_seq ?_
              refine awp_region ?_
              refine r_mv rfl trivial rfl ?_
              refine r_mv rfl trivial rfl ?_
              refine r_mv rfl trivial rfl ?_
              refine r_call (whole_ok a) cb_36 rfl rfl rfl ?_ trivial rfl ?_
              · (repeat (first | exact .nil | refine .cons .fv ?_ | refine .cons (.aggf' rfl) ?_ | refine .cons .nil ?_ | refine .cons (.ren rfl) ?_))
              first | refine r_ixr sl_63 ty_3 rfl rfl (by omega) (by first | exact map_get (by omega) | exact map_geti (by omega)) trivial rfl ?_ | refine r_ixw sl_63 ty_3 rfl rfl (by omega) (by first | omega | (simp; done) | (simp; omega)) trivial rfl ?_
              first | refine r_st ty_3 rfl rfl rfl rfl rfl rfl rfl trivial ?_ | refine r_sto ty_3 rfl rfl rfl rfl (by first | rfl | assumption) rfl rfl trivial ?_
              refine reg_nil ?_
              refine awp_seq ?_
              refine awp_seq ?_
              refine awp_region ?_
              refine r_mv rfl trivial rfl ?_
              refine r_eqi rfl rfl trivial rfl ?_
              refine r_mv rfl trivial rfl ?_
              refine r_skip ⟨_, rfl, .inl rfl⟩ rfl ?_
              refine r_skip ⟨_, rfl, .inl rfl⟩ rfl ?_
              refine r_pkf rfl rfl trivial rfl ?_
              refine reg_nil ?_
              refine awp_cond_f rfl ?_
              refine awp_skip ?_
              refine awp_seq ?_
              refine awp_region ?_
              refine r_mv rfl trivial rfl ?_
              refine r_mv rfl trivial rfl ?_
              first | refine r_ixr sl_63 ty_3 rfl rfl (by omega) (by first | exact map_get (by omega) | exact map_geti (by omega)) trivial rfl ?_ | refine r_ixw sl_63 ty_3 rfl rfl (by omega) (by first | omega | (simp; done) | (simp; omega)) trivial rfl ?_
              first | refine r_ld ty_3 rfl rfl rfl trivial rfl ?_ | refine r_ldr ty_3 rfl rfl trivial rfl ?_ | refine r_ldo ty_3 rfl rfl (by first | rfl | assumption) rfl trivial rfl ?_
              refine r_lss rfl rfl trivial rfl ?_
              refine reg_nil ?_
              first | refine awp_cond_dec rfl (fun h22 => ?_) (fun h22 => ?_) | refine awp_cond rfl (fun h22 => ?_) (fun h22 => ?_)
              · refine awp_seq ?_
                refine awp_region ?_
                refine r_build pl_37 z_37 rfl rfl trivial rfl ?_
                first | refine r_st ty_37 rfl rfl rfl rfl rfl rfl rfl trivial ?_ | refine r_sto ty_37 rfl rfl rfl rfl (by first | rfl | assumption) rfl rfl trivial ?_
                refine reg_nil ?_
                refine awp_ret ?_
                refine fin0 (.cons (.agg rfl rfl ty_37 (Nat.le_of_ble_eq_true rfl)) .nil) (.aggf' (l := encEv zeroEv) rfl) ?_
                (rw [hw, lineEvR_5 a b c, okEv, if_pos (by first | (simp; omega) | simp_all)])
              · refine awp_skip ?_
                refine awp_region ?_
                refine r_mv rfl trivial rfl ?_
                refine r_add rfl rfl (rng64 (by first | omega | simp [intsF])) trivial rfl ?_
                refine r_as rfl trivial rfl ?_
                refine reg_nil ?_
                refine unr_succ ?_
                refine awp_seq ?_
                refine awp_seq ?_
                refine awp_region ?_
                refine r_mv rfl trivial rfl ?_
                refine r_mv rfl trivial rfl ?_
                first | refine r_lenr sl_63 rfl trivial rfl ?_ | refine r_lenw sl_63 rfl trivial rfl ?_ | refine r_len0 sl_63 rfl trivial rfl ?_
                refine r_lss rfl rfl trivial rfl ?_
                refine reg_nil ?_
                refine awp_cond_t rfl ?_
                refine awp_skip ?_
                refine awp_seq ?_
                refine awp_block ?_
                refine awp_seq ?_
                refine awp_region ?_
                refine r_mv rfl trivial rfl ?_
                refine r_mv rfl trivial rfl ?_
                refine r_add rfl rfl (rng64 (by first | omega | simp [intsF])) trivial rfl ?_
                first | refine r_ixr sl_69 ty_9 rfl rfl (by omega) (by first | exact map_get (by omega) | exact map_geti (by omega)) trivial rfl ?_ | refine r_ixw sl_69 ty_9 rfl rfl (by omega) (by first | omega | (simp; done) | (simp; omega)) trivial rfl ?_
                first | refine r_ld ty_9 rfl rfl rfl trivial rfl ?_ | refine r_ldr ty_9 rfl rfl trivial rfl ?_ | refine r_ldo ty_9 rfl rfl (by first | rfl | assumption) rfl trivial rfl ?_
                refine r_as rfl trivial rfl ?_
                refine reg_nil ?_
                refine awp_seq ?_
                refine awp_region ?_
                refine r_mv rfl trivial rfl ?_
                refine r_mv rfl trivial rfl ?_
                refine r_mv rfl trivial rfl ?_
                refine r_call (whole_ok b) cb_36 rfl rfl rfl ?_ trivial rfl ?_
                · (repeat (first | exact .nil | refine .cons .fv ?_ | refine .cons (.aggf' rfl) ?_ | refine .cons .nil ?_ | refine .cons (.ren rfl) ?_))
                first | refine r_ixr sl_63 ty_3 rfl rfl (by omega) (by first | exact map_get (by omega) | exact map_geti (by omega)) trivial rfl ?_ | refine r_ixw sl_63 ty_3 rfl rfl (by omega) (by first | omega | (simp; done) | (simp; omega)) trivial rfl ?_
                first | refine r_st ty_3 rfl rfl rfl rfl rfl rfl rfl trivial ?_ | refine r_sto ty_3 rfl rfl rfl rfl (by first | rfl | assumption) rfl rfl trivial ?_
                refine reg_nil ?_
                refine awp_seq ?_
                refine awp_seq ?_
                refine awp_region ?_
                refine r_mv rfl trivial rfl ?_
                refine r_eqi rfl rfl trivial rfl ?_
                refine r_mv rfl trivial rfl ?_
                refine r_skip ⟨_, rfl, .inl rfl⟩ rfl ?_
                refine r_skip ⟨_, rfl, .inl rfl⟩ rfl ?_
                refine r_pkf rfl rfl trivial rfl ?_
                refine reg_nil ?_
                refine awp_cond_f rfl ?_
                refine awp_skip ?_
                refine awp_seq ?_
                refine awp_region ?_
                refine r_mv rfl trivial rfl ?_
                refine r_mv rfl trivial rfl ?_
                first | refine r_ixr sl_63 ty_3 rfl rfl (by omega) (by first | exact map_get (by omega) | exact map_geti (by omega)) trivial rfl ?_ | refine r_ixw sl_63 ty_3 rfl rfl (by omega) (by first | omega | (simp; done) | (simp; omega)) trivial rfl ?_
                first | refine r_ld ty_3 rfl rfl rfl trivial rfl ?_ | refine r_ldr ty_3 rfl rfl trivial rfl ?_ | refine r_ldo ty_3 rfl rfl (by first | rfl | assumption) rfl trivial rfl ?_
                refine r_lss rfl rfl trivial rfl ?_
                refine reg_nil ?_
                first | refine awp_cond_dec rfl (fun h23 => ?_) (fun h23 => ?_) | refine awp_cond rfl (fun h23 => ?_) (fun h23 => ?_)
                · refine awp_seq ?_
                  refine awp_region ?_
                  refine r_build pl_37 z_37 rfl rfl trivial rfl ?_
                  first | refine r_st ty_37 rfl rfl rfl rfl rfl rfl rfl trivial ?_ | refine r_sto ty_37 rfl rfl rfl rfl (by first | rfl | assumption) rfl rfl trivial ?_
                  refine reg_nil ?_
                  refine awp_ret ?_
                  refine fin0 (.cons (.agg rfl rfl ty_37 (Nat.le_of_ble_eq_true rfl)) .nil) (.aggf' (l := encEv zeroEv) rfl) ?_
                  (rw [hw, lineEvR_5 a b c, okEv, if_pos (by first | (simp; omega) | simp_all)])
                · refine awp_skip ?_
                  refine awp_region ?_
                  refine r_mv rfl trivial rfl ?_
                  refine r_add rfl rfl (rng64 (by first | omega | simp [intsF])) trivial rfl ?_
                  refine r_as rfl trivial rfl ?_
                  refine reg_nil ?_
                  refine unr_succ ?_
                  refine awp_seq ?_
                  refine awp_seq ?_
                  refine awp_region ?_
                  refine r_mv rfl trivial rfl ?_
                  refine r_mv rfl trivial rfl ?_
                  first | refine r_lenr sl_63 rfl trivial rfl ?_ | refine r_lenw sl_63 rfl trivial rfl ?_ | refine r_len0 sl_63 rfl trivial rfl ?_
                  refine r_lss rfl rfl trivial rfl ?_
                  refine reg_nil ?_
                  refine awp_cond_t rfl ?_
                  refine awp_skip ?_
                  refine awp_seq ?_
                  refine awp_block ?_
                  refine awp_seq ?_
                  refine awp_region ?_
                  refine r_mv rfl trivial rfl ?_
                  refine r_mv rfl trivial rfl ?_
                  refine r_add rfl rfl (rng64 (by first | omega | simp [intsF])) trivial rfl ?_
                  first | refine r_ixr sl_69 ty_9 rfl rfl (by omega) (by first | exact map_get (by omega) | exact map_geti (by omega)) trivial rfl ?_ | refine r_ixw sl_69 ty_9 rfl rfl (by omega) (by first | omega | (simp; done) | (simp; omega)) trivial rfl ?_
                  first | refine r_ld ty_9 rfl rfl rfl trivial rfl ?_ | refine r_ldr ty_9 rfl rfl trivial rfl ?_ | refine r_ldo ty_9 rfl rfl (by first | rfl | assumption) rfl trivial rfl ?_
                  refine r_as rfl trivial rfl ?_
                  refine reg_nil ?_
                  refine awp_seq ?_
                  refine awp_region ?_
                  refine r_mv rfl trivial rfl ?_
                  refine r_mv rfl trivial rfl ?_
                  refine r_mv rfl trivial rfl ?_
                  refine r_call (whole_ok c) cb_36 rfl rfl rfl ?_ trivial rfl ?_
                  · (repeat (first | exact .nil | refine .cons .fv ?_ | refine .cons (.aggf' rfl) ?_ | refine .cons .nil ?_ | refine .cons (.ren rfl) ?_))
                  first | refine r_ixr sl_63 ty_3 rfl rfl (by omega) (by first | exact map_get (by omega) | exact map_geti (by omega)) trivial rfl ?_ | refine r_ixw sl_63 ty_3 rfl rfl (by omega) (by first | omega | (simp; done) | (simp; omega)) trivial rfl ?_
                  first | refine r_st ty_3 rfl rfl rfl rfl rfl rfl rfl trivial ?_ | refine r_sto ty_3 rfl rfl rfl rfl (by first | rfl | assumption) rfl rfl trivial ?_
                  refine reg_nil ?_
                  refine awp_seq ?_
                  refine awp_seq ?_
                  refine awp_region ?_
                  refine r_mv rfl trivial rfl ?_
                  refine r_eqi rfl rfl trivial rfl ?_
                  refine r_mv rfl trivial rfl ?_
                  refine r_skip ⟨_, rfl, .inl rfl⟩ rfl ?_
                  refine r_skip ⟨_, rfl, .inl rfl⟩ rfl ?_
                  refine r_pkf rfl rfl trivial rfl ?_
                  refine reg_nil ?_
                  refine awp_cond_f rfl ?_
                  refine awp_skip ?_
                  refine awp_seq ?_
                  refine awp_region ?_
                  refine r_mv rfl trivial rfl ?_
                  refine r_mv rfl trivial rfl ?_
                  first | refine r_ixr sl_63 ty_3 rfl rfl (by omega) (by first | exact map_get (by omega) | exact map_geti (by omega)) trivial rfl ?_ | refine r_ixw sl_63 ty_3 rfl rfl (by omega) (by first | omega | (simp; done) | (simp; omega)) trivial rfl ?_
                  first | refine r_ld ty_3 rfl rfl rfl trivial rfl ?_ | refine r_ldr ty_3 rfl rfl trivial rfl ?_ | refine r_ldo ty_3 rfl rfl (by first | rfl | assumption) rfl trivial rfl ?_
                  refine r_lss rfl rfl trivial rfl ?_
                  refine reg_nil ?_
                  first | refine awp_cond_dec rfl (fun h24 => ?_) (fun h24 => ?_) | refine awp_cond rfl (fun h24 => ?_) (fun h24 => ?_)
                  · refine awp_seq ?_
                    refine awp_region ?_
                    refine r_build pl_37 z_37 rfl rfl trivial rfl ?_
                    first | refine r_st ty_37 rfl rfl rfl rfl rfl rfl rfl trivial ?_ | refine r_sto ty_37 rfl rfl rfl rfl (by first | rfl | assumption) rfl rfl trivial ?_
                    refine reg_nil ?_
                    refine awp_ret ?_
                    refine fin0 (.cons (.agg rfl rfl ty_37 (Nat.le_of_ble_eq_true rfl)) .nil) (.aggf' (l := encEv zeroEv) rfl) ?_
                    (rw [hw, lineEvR_5 a b c, okEv, if_pos (by first | (simp; omega) | simp_all)])
                  · refine awp_skip ?_
                    refine awp_region ?_
                    refine r_mv rfl trivial rfl ?_
                    refine r_add rfl rfl (rng64 (by first | omega | simp [intsF])) trivial rfl ?_
                    refine r_as rfl trivial rfl ?_
                    refine reg_nil ?_
                    refine unr_succ ?_
                    refine awp_seq ?_
                    refine awp_seq ?_
                    refine awp_region ?_
                    refine r_mv rfl trivial rfl ?_
                    refine r_mv rfl trivial rfl ?_
                    first | refine r_lenr sl_63 rfl trivial rfl ?_ | refine r_lenw sl_63 rfl trivial rfl ?_ | refine r_len0 sl_63 rfl trivial rfl ?_
                    refine r_lss rfl rfl trivial rfl ?_
                    refine reg_nil ?_
                    refine awp_cond_f rfl ?_
                    refine awp_exit ?_
                    refine awp_seq ?_
                    refine awp_region ?_
                    refine r_mv rfl trivial rfl ?_
                    refine r_mv rfl trivial rfl ?_
                    refine r_callh [(0, 2)] 3 1 (eventOfw_5 (wholeR a) (wholeR b) (wholeR c)) cb_28 rfl rfl rfl ?_ (.cons rfl .nil) rfl rfl rfl rfl trivial rfl ?_
                    · (repeat (first | exact .nil | refine .cons .fv ?_ | refine .cons (.aggf' rfl) ?_ | refine .cons .nil ?_ | refine .cons (.ren rfl) ?_))
                    refine r_alloc z_37 rfl trivial rfl ?_
                    first | refine r_st ty_37 rfl rfl rfl rfl rfl rfl rfl trivial ?_ | refine r_sto ty_37 rfl rfl rfl rfl (by first | rfl | assumption) rfl rfl trivial ?_
                    refine reg_nil ?_
                    refine awp_seq ?_
                    refine awp_seq ?_
                    refine awp_region ?_
                    first | refine r_lda ty_37 rfl rfl rfl rfl trivial rfl ?_ | refine r_ldra ty_37 rfl rfl rfl trivial rfl ?_ | refine r_ldoa ty_37 rfl rfl (by first | rfl | assumption) rfl rfl trivial rfl ?_
                    refine r_call (fault_ok ⟨5, 0, 0, 0, false, wholeR a, wholeR b, wholeR c⟩) cb_15 rfl rfl rfl ?_ trivial rfl ?_
                    · (repeat (first | exact .nil | refine .cons .fv ?_ | refine .cons (.aggf' rfl) ?_ | refine .cons .nil ?_ | refine .cons (.ren rfl) ?_))
                    refine r_nei rfl rfl trivial rfl ?_
                    refine reg_nil ?_
                    first | refine awp_cond_dec rfl (fun h25 => ?_) (fun h25 => ?_) | refine awp_cond rfl (fun h25 => ?_) (fun h25 => ?_)
                    · refine awp_seq ?_
                      refine awp_region ?_
                      refine r_build pl_37 z_37 rfl rfl trivial rfl ?_
                      first | refine r_st ty_37 rfl rfl rfl rfl rfl rfl rfl trivial ?_ | refine r_sto ty_37 rfl rfl rfl rfl (by first | rfl | assumption) rfl rfl trivial ?_
                      refine reg_nil ?_
                      refine awp_ret ?_
                      refine fin0 (.cons (.agg rfl rfl ty_37 (Nat.le_of_ble_eq_true rfl)) .nil) (.aggf' (l := encEv zeroEv) rfl) ?_
                      (rw [hw, lineEvR_5 a b c, okEv, if_pos (by first | (simp; omega) | simp_all)])
                    · refine awp_skip ?_
                      refine awp_seq ?_
                      refine awp_region ?_
                      first | refine r_lda ty_37 rfl rfl rfl rfl trivial rfl ?_ | refine r_ldra ty_37 rfl rfl rfl trivial rfl ?_ | refine r_ldoa ty_37 rfl rfl (by first | rfl | assumption) rfl rfl trivial rfl ?_
                      first | refine r_st ty_37 rfl rfl rfl rfl rfl rfl rfl trivial ?_ | refine r_sto ty_37 rfl rfl rfl rfl (by first | rfl | assumption) rfl rfl trivial ?_
                      refine reg_nil ?_
                      refine awp_ret ?_
                      refine fin0 (.cons (.agg rfl rfl ty_37 (Nat.le_of_ble_eq_true rfl)) .nil) (.aggf' (l := encEv ⟨5, 0, 0, 0, false, wholeR a, wholeR b, wholeR c⟩) rfl) ?_
                      (rw [hw, lineEvR_5 a b c, okEv, if_neg (by first | (simp; omega) | (simp_all; done) | (simp_all; omega))])
            · refine awp_region ?_
              refine r_mv rfl trivial rfl ?_
              refine r_build pl_37 z_37 rfl rfl trivial rfl ?_
              refine r_callh [(0, 2)] 3 1 (numbersw_6) cb_26 rfl rfl rfl ?_ .nil rfl rfl rfl rfl trivial rfl ?_
              · (repeat (first | exact .nil | refine .cons .fv ?_ | refine .cons (.aggf' rfl) ?_ | refine .cons .nil ?_ | refine .cons (.ren rfl) ?_))
              refine r_mv rfl trivial rfl ?_
              refine r_ext rfl rfl trivial rfl ?_
              refine r_ext rfl rfl trivial rfl ?_
              refine r_ext rfl rfl trivial rfl ?_
              refine r_ext rfl rfl trivial rfl ?_
              refine r_as rfl trivial rfl ?_
              refine r_as rfl trivial rfl ?_
              refine r_as rfl trivial rfl ?_
              refine r_as rfl trivial rfl ?_
              refine reg_nil ?_
              refine awp_seq ?_
              refine awp_seq ?_
              refine awp_region ?_
              refine r_mv rfl trivial rfl ?_
              first | refine r_lenr sl_69 rfl trivial rfl ?_ | refine r_lenw sl_69 rfl trivial rfl ?_ | refine r_len0 sl_69 rfl trivial rfl ?_
              refine r_mv rfl trivial rfl ?_
              first | refine r_lenr sl_63 rfl trivial rfl ?_ | refine r_lenw sl_63 rfl trivial rfl ?_ | refine r_len0 sl_63 rfl trivial rfl ?_
              refine r_add rfl rfl (rng64 (by first | omega | simp [intsF])) trivial rfl ?_
              refine r_nei rfl rfl trivial rfl ?_
              refine reg_nil ?_
              refine awp_cond_yes rfl (by first | (simp; omega) | (simp [intsF]; omega) | (have := hn; simp [intsF]; omega)) ?_
              refine awp_seq ?_
              refine awp_region ?_
              refine r_build pl_37 z_37 rfl rfl trivial rfl ?_
              first | refine r_st ty_37 rfl rfl rfl rfl rfl rfl rfl trivial ?_ | refine r_sto ty_37 rfl rfl rfl rfl (by first | rfl | assumption) rfl rfl trivial ?_
              refine reg_nil ?_
              refine awp_ret ?_
              refine fin0 (.cons (.agg rfl rfl ty_37 (Nat.le_of_ble_eq_true rfl)) .nil) (.aggf' (l := encEv zeroEv) rfl) ?_
              (rw [hw, lineEvR_w6 _ hn])
            · refine awp_region ?_
              refine r_mv rfl trivial rfl ?_
              refine r_build pl_37 z_37 rfl rfl trivial rfl ?_
              refine r_callh [(0, 2)] 3 1 (numbersw_6) cb_26 rfl rfl rfl ?_ .nil rfl rfl rfl rfl trivial rfl ?_
              · (repeat (first | exact .nil | refine .cons .fv ?_ | refine .cons (.aggf' rfl) ?_ | refine .cons .nil ?_ | refine .cons (.ren rfl) ?_))
              refine r_mv rfl trivial rfl ?_
              refine r_ext rfl rfl trivial rfl ?_
              refine r_ext rfl rfl trivial rfl ?_
              refine r_ext rfl rfl trivial rfl ?_
              refine r_ext rfl rfl trivial rfl ?_
              refine r_as rfl trivial rfl ?_
              refine r_as rfl trivial rfl ?_
              refine r_as rfl trivial rfl ?_
              refine r_as rfl trivial rfl ?_
              refine reg_nil ?_
              refine awp_seq ?_
              refine awp_seq ?_
              refine awp_region ?_
              refine r_mv rfl trivial rfl ?_
              first | refine r_lenr sl_69 rfl trivial rfl ?_ | refine r_lenw sl_69 rfl trivial rfl ?_ | refine r_len0 sl_69 rfl trivial rfl ?_
              refine r_mv rfl trivial rfl ?_
              first | refine r_lenr sl_63 rfl trivial rfl ?_ | refine r_lenw sl_63 rfl trivial rfl ?_ | refine r_len0 sl_63 rfl trivial rfl ?_
              refine r_add rfl rfl (rng64 (by first | omega | simp [intsF])) trivial rfl ?_
              refine r_nei rfl rfl trivial rfl ?_
              refine reg_nil ?_
              refine awp_cond_f rfl ?_
              refine awp_skip ?_
              refine awp_seq ?_
              refine awp_seq ?_
              refine awp_region ?_
              refine r_as rfl trivial rfl ?_
              refine reg_nil ?_
              refine awp_block ?_
              refine awp_unroll 3 ?_
              refine unr_succ ?_
              refine awp_seq ?_
              refine awp_seq ?_
              refine awp_region ?_
              refine r_mv rfl trivial rfl ?_
              refine r_mv rfl trivial rfl ?_
              first | refine r_lenr sl_63 rfl trivial rfl ?_ | refine r_lenw sl_63 rfl trivial rfl ?_ | refine r_len0 sl_63 rfl trivial rfl ?_
              refine r_lss rfl rfl trivial rfl ?_
              refine reg_nil ?_
              refine awp_cond_t rfl ?_
              refine awp_skip ?_
              refine awp_seq ?_
              refine awp_block ?_
              refine awp_seq ?_
              refine awp_region ?_
              refine r_mv rfl trivial rfl ?_
              refine r_mv rfl trivial rfl ?_
              refine r_add rfl rfl (rng64 (by first | omega | simp [intsF])) trivial rfl ?_
              first | refine r_ixr sl_69 ty_9 rfl rfl (by omega) (by first | exact map_get (by omega) | exact map_geti (by omega)) trivial rfl ?_ | refine r_ixw sl_69 ty_9 rfl rfl (by omega) (by first | omega | (simp; done) | (simp; omega)) trivial rfl ?_
              first | refine r_ld ty_9 rfl rfl rfl trivial rfl ?_ | refine r_ldr ty_9 rfl rfl trivial rfl ?_ | refine r_ldo ty_9 rfl rfl (by first | rfl | assumption) rfl trivial rfl ?_
              refine r_as rfl trivial rfl ?_
              refine reg_nil ?_
              refine awp_seq ?_
              refine awp_region ?_
              refine r_mv rfl trivial rfl ?_
              refine r_mv rfl trivial rfl ?_
              refine r_mv rfl trivial rfl ?_
              refine r_call (whole_ok a) cb_36 rfl rfl rfl ?_ trivial rfl ?_
              · (repeat (first | exact .nil | refine .cons .fv ?_ | refine .cons (.aggf' rfl) ?_ | refine .cons .nil ?_ | refine .cons (.ren rfl) ?_))
              first | refine r_ixr sl_63 ty_3 rfl rfl (by omega) (by first | exact map_get (by omega) | exact map_geti (by omega)) trivial rfl ?_ | refine r_ixw sl_63 ty_3 rfl rfl (by omega) (by first | omega | (simp; done) | (simp; omega)) trivial rfl ?_
              first | refine r_st ty_3 rfl rfl rfl rfl rfl rfl rfl trivial ?_ | refine r_sto ty_3 rfl rfl rfl rfl (by first | rfl | assumption) rfl rfl trivial ?_
              refine reg_nil ?_
              refine awp_seq ?_
              refine awp_seq ?_
              refine awp_region ?_
              refine r_mv rfl trivial rfl ?_
              refine r_eqi rfl rfl trivial rfl ?_
              refine r_mv rfl trivial rfl ?_
              refine r_skip ⟨_, rfl, .inl rfl⟩ rfl ?_
              refine r_skip ⟨_, rfl, .inl rfl⟩ rfl ?_
              refine r_pkf rfl rfl trivial rfl ?_
              refine reg_nil ?_
              refine awp_cond_f rfl ?_
              refine awp_skip ?_
              refine awp_seq ?_
              refine awp_region ?_
              refine r_mv rfl trivial rfl ?_
              refine r_mv rfl trivial rfl ?_
              first | refine r_ixr sl_63 ty_3 rfl rfl (by omega) (by first | exact map_get (by omega) | exact map_geti (by omega)) trivial rfl ?_ | refine r_ixw sl_63 ty_3 rfl rfl (by omega) (by first | omega | (simp; done) | (simp; omega)) trivial rfl ?_
              first | refine r_ld ty_3 rfl rfl rfl trivial rfl ?_ | refine r_ldr ty_3 rfl rfl trivial rfl ?_ | refine r_ldo ty_3 rfl rfl (by first | rfl | assumption) rfl trivial rfl ?_
              refine r_lss rfl rfl trivial rfl ?_
              refine reg_nil ?_
              first | refine awp_cond_dec rfl (fun h26 => ?_) (fun h26 => ?_) | refine awp_cond rfl (fun h26 => ?_) (fun h26 => ?_)
              · refine awp_seq ?_
                refine awp_region ?_
                refine r_build pl_37 z_37 rfl rfl trivial rfl ?_
                first | refine r_st ty_37 rfl rfl rfl rfl rfl rfl rfl trivial ?_ | refine r_sto ty_37 rfl rfl rfl rfl (by first | rfl | assumption) rfl rfl trivial ?_
                refine reg_nil ?_
                refine awp_ret ?_
                refine fin0 (.cons (.agg rfl rfl ty_37 (Nat.le_of_ble_eq_true rfl)) .nil) (.aggf' (l := encEv zeroEv) rfl) ?_
                (rw [hw, lineEvR_6 a b, okEv, if_pos (by first | (simp; omega) | simp_all)])
              · refine awp_skip ?_
                refine awp_region ?_
                refine r_mv rfl trivial rfl ?_
                refine r_add rfl rfl (rng64 (by first | omega | simp [intsF])) trivial rfl ?_
                refine r_as rfl trivial rfl ?_
                refine reg_nil ?_
                refine unr_succ ?_
                refine awp_seq ?_
                refine awp_seq ?_
                refine awp_region ?_
                refine r_mv rfl trivial rfl ?_
                refine r_mv rfl trivial rfl ?_
                first | refine r_lenr sl_63 rfl trivial rfl ?_ | refine r_lenw sl_63 rfl trivial rfl ?_ | refine r_len0 sl_63 rfl trivial rfl ?_
                refine r_lss rfl rfl trivial rfl ?_
                refine reg_nil ?_
                refine awp_cond_t rfl ?_
                refine awp_skip ?_
                refine awp_seq ?_
                refine awp_block ?_
                refine awp_seq ?_
                refine awp_region ?_
                refine r_mv rfl trivial rfl ?_
                refine r_mv rfl trivial rfl ?_
                refine r_add rfl rfl (rng64 (by first | omega | simp [intsF])) trivial rfl ?_
                first | refine r_ixr sl_69 ty_9 rfl rfl (by omega) (by first | exact map_get (by omega) | exact map_geti (by omega)) trivial rfl ?_ | refine r_ixw sl_69 ty_9 rfl rfl (by omega) (by first | omega | (simp; done) | (simp; omega)) trivial rfl ?_
                first | refine r_ld ty_9 rfl rfl rfl trivial rfl ?_ | refine r_ldr ty_9 rfl rfl trivial rfl ?_ | refine r_ldo ty_9 rfl rfl (by first | rfl | assumption) rfl trivial rfl ?_
                refine r_as rfl trivial rfl ?_
                refine reg_nil ?_
                refine awp_seq ?_
                refine awp_region ?_
                refine r_mv rfl trivial rfl ?_
                refine r_mv rfl trivial rfl ?_
                refine r_mv rfl trivial rfl ?_
                refine r_call (whole_ok b) cb_36 rfl rfl rfl ?_ trivial rfl ?_
                · (repeat (first | exact .nil | refine .cons .fv ?_ | refine .cons (.aggf' rfl) ?_ | refine .cons .nil ?_ | refine .cons (.ren rfl) ?_))
                first | refine r_ixr sl_63 ty_3 rfl rfl (by omega) (by first | exact map_get (by omega) | exact map_geti (by omega)) trivial rfl ?_ | refine r_ixw sl_63 ty_3 rfl rfl (by omega) (by first | omega | (simp; done) | (simp; omega)) trivial rfl ?_
                first | refine r_st ty_3 rfl rfl rfl rfl rfl rfl rfl trivial ?_ | refine r_sto ty_3 rfl rfl rfl rfl (by first | rfl | assumption) rfl rfl trivial ?_
                refine reg_nil ?_
                refine awp_seq ?_
                refine awp_seq ?_
                refine awp_region ?_
                refine r_mv rfl trivial rfl ?_
                refine r_eqi rfl rfl trivial rfl ?_
                refine r_mv rfl trivial rfl ?_
                refine r_skip ⟨_, rfl, .inl rfl⟩ rfl ?_
                refine r_skip ⟨_, rfl, .inl rfl⟩ rfl ?_
                refine r_pkf rfl rfl trivial rfl ?_
                refine reg_nil ?_
                refine awp_cond_f rfl ?_
                refine awp_skip ?_
                refine awp_seq ?_
                refine awp_region ?_
                refine r_mv rfl trivial rfl ?_
                refine r_mv rfl trivial rfl ?_
                first | refine r_ixr sl_63 ty_3 rfl rfl (by omega) (by first | exact map_get (by omega) | exact map_geti (by omega)) trivial rfl ?_ | refine r_ixw sl_63 ty_3 rfl rfl (by omega) (by first | omega | (simp; done) | (simp; omega)) trivial rfl ?_
                first | refine r_ld ty_3 rfl rfl rfl trivial rfl ?_ | refine r_ldr ty_3 rfl rfl trivial rfl ?_ | refine r_ldo ty_3 rfl rfl (by first | rfl | assumption) rfl trivial rfl ?_
                refine r_lss rfl rfl trivial rfl ?_
                refine reg_nil ?_
                first | refine awp_cond_dec rfl (fun h27 => ?_) (fun h27 => ?_) | refine awp_cond rfl (fun h27 => ?_) (fun h27 => ?_)
                · refine awp_seq ?_
                  refine awp_region ?_
                  refine r_build pl_37 z_37 rfl rfl trivial rfl ?_
                  first | refine r_st ty_37 rfl rfl rfl rfl rfl rfl rfl trivial ?_ | refine r_sto ty_37 rfl rfl rfl rfl (by first | rfl | assumption) rfl rfl trivial ?_
                  refine reg_nil ?_
                  refine awp_ret ?_
                  refine fin0 (.cons (.agg rfl rfl ty_37 (Nat.le_of_ble_eq_true rfl)) .nil) (.aggf' (l := encEv zeroEv) rfl) ?_
                  (rw [hw, lineEvR_6 a b, okEv, if_pos (by first | (simp; omega) | simp_all)])
                · refine awp_skip ?_
                  refine awp_region ?_
                  refine r_mv rfl trivial rfl ?_
                  refine r_add rfl rfl (rng64 (by first | omega | simp [intsF])) trivial rfl ?_
                  refine r_as rfl trivial rfl ?_
                  refine reg_nil ?_
                  refine unr_succ ?_
                  refine awp_seq ?_
                  refine awp_seq ?_
                  refine awp_region ?_
                  refine r_mv rfl trivial rfl ?_
                  refine r_mv rfl trivial rfl ?_
                  first | refine r_lenr sl_63 rfl trivial rfl ?_ | refine r_lenw sl_63 rfl trivial rfl ?_ | refine r_len0 sl_63 rfl trivial rfl ?_
                  refine r_lss rfl rfl trivial rfl ?_
                  refine reg_nil ?_
                  refine awp_cond_f rfl ?_
                  refine awp_exit ?_
                  refine awp_seq ?_
                  refine awp_region ?_
                  refine r_mv rfl trivial rfl ?_
                  refine r_mv rfl trivial rfl ?_
                  refine r_callh [(0, 2)] 3 1 (eventOfw_6 (wholeR a) (wholeR b)) cb_28 rfl rfl rfl ?_ (.cons rfl .nil) rfl rfl rfl rfl trivial rfl ?_
                  · (repeat (first | exact .nil | refine .cons .fv ?_ | refine .cons (.aggf' rfl) ?_ | refine .cons .nil ?_ | refine .cons (.ren rfl) ?_))
                  refine r_alloc z_37 rfl trivial rfl ?_
                  first | refine r_st ty_37 rfl rfl rfl rfl rfl rfl rfl trivial ?_ | refine r_sto ty_37 rfl rfl rfl rfl (by first | rfl | assumption) rfl rfl trivial ?_
                  refine reg_nil ?_
                  refine awp_seq ?_
                  refine awp_seq ?_
                  refine awp_region ?_
                  first | refine r_lda ty_37 rfl rfl rfl rfl trivial rfl ?_ | refine r_ldra ty_37 rfl rfl rfl trivial rfl ?_ | refine r_ldoa ty_37 rfl rfl (by first | rfl | assumption) rfl rfl trivial rfl ?_
                  refine r_call (fault_ok ⟨6, 0, 0, 0, false, wholeR a, wholeR b, 0⟩) cb_15 rfl rfl rfl ?_ trivial rfl ?_
                  · (repeat (first | exact .nil | refine .cons .fv ?_ | refine .cons (.aggf' rfl) ?_ | refine .cons .nil ?_ | refine .cons (.ren rfl) ?_))
                  refine r_nei rfl rfl trivial rfl ?_
                  refine reg_nil ?_
                  first | refine awp_cond_dec rfl (fun h28 => ?_) (fun h28 => ?_) | refine awp_cond rfl (fun h28 => ?_) (fun h28 => ?_)
                  · refine awp_seq ?_
                    refine awp_region ?_
                    refine r_build pl_37 z_37 rfl rfl trivial rfl ?_
                    first | refine r_st ty_37 rfl rfl rfl rfl rfl rfl rfl trivial ?_ | refine r_sto ty_37 rfl rfl rfl rfl (by first | rfl | assumption) rfl rfl trivial ?_
                    refine reg_nil ?_
                    refine awp_ret ?_
                    refine fin0 (.cons (.agg rfl rfl ty_37 (Nat.le_of_ble_eq_true rfl)) .nil) (.aggf' (l := encEv zeroEv) rfl) ?_
                    (rw [hw, lineEvR_6 a b, okEv, if_pos (by first | (simp; omega) | simp_all)])
                  · refine awp_skip ?_
                    refine awp_seq ?_
                    refine awp_region ?_
                    first | refine r_lda ty_37 rfl rfl rfl rfl trivial rfl ?_ | refine r_ldra ty_37 rfl rfl rfl trivial rfl ?_ | refine r_ldoa ty_37 rfl rfl (by first | rfl | assumption) rfl rfl trivial rfl ?_
                    first | refine r_st ty_37 rfl rfl rfl rfl rfl rfl rfl trivial ?_ | refine r_sto ty_37 rfl rfl rfl rfl (by first | rfl | assumption) rfl rfl trivial ?_
                    refine reg_nil ?_
                    refine awp_ret ?_
                    refine fin0 (.cons (.agg rfl rfl ty_37 (Nat.le_of_ble_eq_true rfl)) .nil) (.aggf' (l := encEv ⟨6, 0, 0, 0, false, wholeR a, wholeR b, 0⟩) rfl) ?_
                    (rw [hw, lineEvR_6 a b, okEv, if_neg (by first | (simp; omega) | (simp_all; done) | (simp_all; omega))])
            · refine awp_region ?_
              refine r_mv rfl trivial rfl ?_
              refine r_build pl_37 z_37 rfl rfl trivial rfl ?_
              refine r_call (numbers_7 0 0 0 false 0 0 0) cb_26 rfl rfl rfl ?_ trivial rfl ?_
              · (repeat (first | exact .nil | refine .cons .fv ?_ | refine .cons (.aggf' rfl) ?_ | refine .cons .nil ?_ | refine .cons (.ren rfl) ?_))
              refine r_mv rfl trivial rfl ?_
              refine r_ext rfl rfl trivial rfl ?_
              refine r_ext rfl rfl trivial rfl ?_
              refine r_ext rfl rfl trivial rfl ?_
              refine r_ext rfl rfl trivial rfl ?_
              refine r_as rfl trivial rfl ?_
              refine r_as rfl trivial rfl ?_
              refine r_as rfl trivial rfl ?_
              refine r_as rfl trivial rfl ?_
              refine reg_nil ?_
              refine awp_seq ?_
              refine awp_seq ?_
              refine awp_region ?_
              refine r_mv rfl trivial rfl ?_
              first | refine r_lenr sl_69 rfl trivial rfl ?_ | refine r_lenw sl_69 rfl trivial rfl ?_ | refine r_len0 sl_69 rfl trivial rfl ?_
              refine r_mv rfl trivial rfl ?_
              first | refine r_lenr sl_63 rfl trivial rfl ?_ | refine r_lenw sl_63 rfl trivial rfl ?_ | refine r_len0 sl_63 rfl trivial rfl ?_
              refine r_add rfl rfl (rng64 (by first | omega | simp [intsF])) trivial rfl ?_
              refine r_nei rfl rfl trivial rfl ?_
              refine reg_nil ?_
              refine awp_cond_yes rfl (by first | (simp; omega) | (simp [intsF]; omega) | (have := hn; simp [intsF]; omega)) ?_
              refine awp_seq ?_
              refine awp_region ?_
              refine r_build pl_37 z_37 rfl rfl trivial rfl ?_
              first | refine r_st ty_37 rfl rfl rfl rfl rfl rfl rfl trivial ?_ | refine r_sto ty_37 rfl rfl rfl rfl (by first | rfl | assumption) rfl rfl trivial ?_
              refine reg_nil ?_
              refine awp_ret ?_
              refine fin0 (.cons (.agg rfl rfl ty_37 (Nat.le_of_ble_eq_true rfl)) .nil) (.aggf' (l := encEv zeroEv) rfl) ?_
              (rw [hw, lineEvR_w7 _ hn])
            · refine awp_region ?_
              refine r_mv rfl trivial rfl ?_
              refine r_build pl_37 z_37 rfl rfl trivial rfl ?_
              refine r_call (numbers_7 0 0 0 false 0 0 0) cb_26 rfl rfl rfl ?_ trivial rfl ?_
              · (repeat (first | exact .nil | refine .cons .fv ?_ | refine .cons (.aggf' rfl) ?_ | refine .cons .nil ?_ | refine .cons (.ren rfl) ?_))
              refine r_mv rfl trivial rfl ?_
              refine r_ext rfl rfl trivial rfl ?_
              refine r_ext rfl rfl trivial rfl ?_
              refine r_ext rfl rfl trivial rfl ?_
              refine r_ext rfl rfl trivial rfl ?_
              refine r_as rfl trivial rfl ?_
              refine r_as rfl trivial rfl ?_
              refine r_as rfl trivial rfl ?_
              refine r_as rfl trivial rfl ?_
              refine reg_nil ?_
              refine awp_seq ?_
              refine awp_seq ?_
              refine awp_region ?_
              refine r_mv rfl trivial rfl ?_
              first | refine r_lenr sl_69 rfl trivial rfl ?_ | refine r_lenw sl_69 rfl trivial rfl ?_ | refine r_len0 sl_69 rfl trivial rfl ?_
              refine r_mv rfl trivial rfl ?_
              first | refine r_lenr sl_63 rfl trivial rfl ?_ | refine r_lenw sl_63 rfl trivial rfl ?_ | refine r_len0 sl_63 rfl trivial rfl ?_
              refine r_add rfl rfl (rng64 (by first | omega | simp [intsF])) trivial rfl ?_
              refine r_nei rfl rfl trivial rfl ?_
              refine reg_nil ?_
              refine awp_cond_f rfl ?_
              refine awp_skip ?_
              refine awp_seq ?_
              refine awp_seq ?_
              refine awp_region ?_
              refine r_as rfl trivial rfl ?_
              refine reg_nil ?_
              refine awp_block ?_
              refine awp_unroll 1 ?_
              refine unr_succ ?_
              refine awp_seq ?_
              refine awp_seq ?_
              refine awp_region ?_
              refine r_mv rfl trivial rfl ?_
              refine r_mv rfl trivial rfl ?_
              first | refine r_lenr sl_63 rfl trivial rfl ?_ | refine r_lenw sl_63 rfl trivial rfl ?_ | refine r_len0 sl_63 rfl trivial rfl ?_
              refine r_lss rfl rfl trivial rfl ?_
              refine reg_nil ?_
              refine awp_cond_f rfl ?_
              refine awp_exit ?_
              refine awp_seq ?_
              refine awp_region ?_
              refine r_mv rfl trivial rfl ?_
              refine r_mv rfl trivial rfl ?_
              refine r_call (eventOf_7) cb_28 rfl rfl rfl ?_ trivial rfl ?_
              · (repeat (first | exact .nil | refine .cons .fv ?_ | refine .cons (.aggf' rfl) ?_ | refine .cons .nil ?_ | refine .cons (.ren rfl) ?_))
              refine r_alloc z_37 rfl trivial rfl ?_
              first | refine r_st ty_37 rfl rfl rfl rfl rfl rfl rfl trivial ?_ | refine r_sto ty_37 rfl rfl rfl rfl (by first | rfl | assumption) rfl rfl trivial ?_
              refine reg_nil ?_
              refine awp_seq ?_
              refine awp_seq ?_
              refine awp_region ?_
              first | refine r_lda ty_37 rfl rfl rfl rfl trivial rfl ?_ | refine r_ldra ty_37 rfl rfl rfl trivial rfl ?_ | refine r_ldoa ty_37 rfl rfl (by first | rfl | assumption) rfl rfl trivial rfl ?_
              refine r_call (fault_ok ⟨7, 0, 0, 0, false, 0, 0, 0⟩) cb_15 rfl rfl rfl ?_ trivial rfl ?_
              · (repeat (first | exact .nil | refine .cons .fv ?_ | refine .cons (.aggf' rfl) ?_ | refine .cons .nil ?_ | refine .cons (.ren rfl) ?_))
              refine r_nei rfl rfl trivial rfl ?_
              refine reg_nil ?_
              first | refine awp_cond_dec rfl (fun h29 => ?_) (fun h29 => ?_) | refine awp_cond rfl (fun h29 => ?_) (fun h29 => ?_)
              · refine awp_seq ?_
                refine awp_region ?_
                refine r_build pl_37 z_37 rfl rfl trivial rfl ?_
                first | refine r_st ty_37 rfl rfl rfl rfl rfl rfl rfl trivial ?_ | refine r_sto ty_37 rfl rfl rfl rfl (by first | rfl | assumption) rfl rfl trivial ?_
                refine reg_nil ?_
                refine awp_ret ?_
                refine fin0 (.cons (.agg rfl rfl ty_37 (Nat.le_of_ble_eq_true rfl)) .nil) (.aggf' (l := encEv zeroEv) rfl) ?_
                (rw [hw, lineEvR_7, okEv, if_pos (by first | (simp; omega) | simp_all)])
              · refine awp_skip ?_
                refine awp_seq ?_
                refine awp_region ?_
                first | refine r_lda ty_37 rfl rfl rfl rfl trivial rfl ?_ | refine r_ldra ty_37 rfl rfl rfl trivial rfl ?_ | refine r_ldoa ty_37 rfl rfl (by first | rfl | assumption) rfl rfl trivial rfl ?_
                first | refine r_st ty_37 rfl rfl rfl rfl rfl rfl rfl trivial ?_ | refine r_sto ty_37 rfl rfl rfl rfl (by first | rfl | assumption) rfl rfl trivial ?_
                refine reg_nil ?_
                refine awp_ret ?_
                refine fin0 (.cons (.agg rfl rfl ty_37 (Nat.le_of_ble_eq_true rfl)) .nil) (.aggf' (l := encEv ⟨7, 0, 0, 0, false, 0, 0, 0⟩) rfl) ?_
                (rw [hw, lineEvR_7, okEv, if_neg (by first | (simp; omega) | (simp_all; done) | (simp_all; omega))])
        · refine awp_exit ?_
          refine awp_seq ?_
          refine awp_region ?_
          refine r_build pl_37 z_37 rfl rfl trivial rfl ?_
          first | refine r_st ty_37 rfl rfl rfl rfl rfl rfl rfl trivial ?_ | refine r_sto ty_37 rfl rfl rfl rfl (by first | rfl | assumption) rfl rfl trivial ?_
          refine reg_nil ?_
          refine awp_ret ?_
          refine fin0 (.cons (.agg rfl rfl ty_37 (Nat.le_of_ble_eq_true rfl)) .nil) (.aggf' (l := encEv zeroEv) rfl) ?_
          (rw [hw, lq_none hk (by assumption)])
end Go.Uw.D
