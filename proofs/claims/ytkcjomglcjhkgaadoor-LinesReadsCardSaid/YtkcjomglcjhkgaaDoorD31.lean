/- A helper text of this claim: lemmas of an abstract machine over the model, or walks in it. Own work of an AI agent. -/
import Derived.Test.YtkcjomglcjhkgaaDoorD30
import Derived.Test.YtkcjomglcjhkgaaDoorD13
import Derived.Test.YtkcjomglcjhkgaaDoorD23
set_option linter.unusedVariables false
set_option linter.unusedSimpArgs false
namespace Go.Uw.D
open Go Go.Uw Go.Proofs
def argV (ar : List (List UInt8)) (i : Nat) : Int := match ar[i]? with
  | some a => atoiV a
  | none => 0
/-- what lines.event makes of a line's words -/
def eventWs : List (List UInt8) → Ev
  | [] => zeroEv
  | w :: ar =>
    if w = wordL 1 then ⟨1, argV ar 0, 0, 0, false, 0, 0, 0⟩
    else if w = wordL 2 then ⟨2, 0, argV ar 0, argV ar 1, false, 0, 0, 0⟩
    else if w = wordL 3 then ⟨3, 0, argV ar 0, argV ar 1, false, 0, 0, 0⟩
    else if w = wordL 4 then ⟨4, 0, argV ar 0, argV ar 1, decide (ar.getLast? = some [103, 111, 111, 100]), 0, 0, 0⟩
    else if w = wordL 5 then ⟨5, 0, 0, 0, false, argV ar 0, argV ar 1, argV ar 2⟩
    else if w = wordL 6 then ⟨6, 0, 0, 0, false, argV ar 0, argV ar 1, 0⟩
    else if w = wordL 7 then ⟨7, 0, 0, 0, false, 0, 0, 0⟩
    else zeroEv
def eventP (l : List UInt8) : Ev := eventWs (splitSp (Lib.trimSuffix l [10]))
theorem words_ok : ∀ u ∈ (#[strV [], strV [111, 112, 101, 110], strV [100, 97, 116, 97], strV [99, 108, 111, 115, 101], strV [97, 110, 115, 119, 101, 114], strV [106, 111, 105, 110], strV [114, 101, 116, 105, 114, 101], strV [116, 105, 99, 107]] : Array Value).toList, litOK u ∧ u.oneCell' = true := by
  have h : ((#[strV [], strV [111, 112, 101, 110], strV [100, 97, 116, 97], strV [99, 108, 111, 115, 101], strV [97, 110, 115, 119, 101, 114], strV [106, 111, 105, 110], strV [114, 101, 116, 105, 114, 101], strV [116, 105, 99, 107]] : Array Value).toList.all fun u => litOKb u && u.oneCell') = true := by rfl
  intro u hu
  have := List.all_eq_true.1 h u hu
  rw [Bool.and_eq_true] at this
  exact ⟨litOK_of_b this.1, this.2⟩
theorem last_strF : ∀ (w : List UInt8) (ws : List (List UInt8)), ∃ lw, (w :: ws).getLast? = some lw ∧ (strF (w :: ws))[(((strF (w :: ws)).length : Int) - 1).toNat]? = some [FV.lit (.string ⟨lw.toArray⟩)] := fun w ws => by
  refine ⟨(w :: ws).getLast (by simp), List.getLast?_eq_some_getLast (by simp), ?_⟩
  have e : (((strF (w :: ws)).length : Int) - 1).toNat = ws.length := by simp [strF]
  rw [e]
  simp only [strF, List.getElem?_map]
  rw [List.getLast_eq_getElem]
  simp
def kw (w : List UInt8) : Nat → Int
  | 0 => 0
  | n + 1 => if 0 < n ∧ wordL n = w then n else kw w n
def KwQ (w : List UInt8) (x : Nat × Int) : Prop := x.1 ≤ 8 ∧ x.2 = kw w x.1
theorem kw_0 (w : List UInt8) : KwQ w (0, 0) := ⟨by simp, rfl⟩
theorem kw_hit {w : List UInt8} {x : Nat × Int} (h : KwQ w x) (h1 : (x.1 : Int) < 8) (h2 : 0 < (x.1 : Int)) (h3 : wordL x.1 = w) : KwQ w (x.1 + 1, (x.1 : Int)) :=
  ⟨by simp; omega, by simp only [kw]; rw [if_pos ⟨by omega, h3⟩]⟩
theorem kw_miss {w : List UInt8} {x : Nat × Int} (h : KwQ w x) (h1 : (x.1 : Int) < 8) (h2 : ¬ (0 < (x.1 : Int) ∧ wordL x.1 = w)) : KwQ w (x.1 + 1, x.2) :=
  ⟨by simp; omega, by simp only [kw]; rw [if_neg fun h => h2 ⟨by omega, h.2⟩]; exact h.2⟩
abbrev tabA : List AV := (#[strV [], strV [111, 112, 101, 110], strV [100, 97, 116, 97], strV [99, 108, 111, 115, 101], strV [97, 110, 115, 119, 101, 114], strV [106, 111, 105, 110], strV [114, 101, 116, 105, 114, 101], strV [116, 105, 99, 107]] : Array Value).toList.map fun u => lit u
theorem word_at {x : Nat} (h : (x : Int) < 8) : tabA[((x : Nat) : Int).toNat]? = some (sA (wordL x)) := by
  have : x = 0 ∨ x = 1 ∨ x = 2 ∨ x = 3 ∨ x = 4 ∨ x = 5 ∨ x = 6 ∨ x = 7 := by omega
  rcases this with rfl | rfl | rfl | rfl | rfl | rfl | rfl | rfl <;> rfl
theorem kw_end {w : List UInt8} {x : Nat × Int} (h : KwQ w x) (h1 : ¬ (x.1 : Int) < 8) : x.2 = kw w 8 := by
  obtain ⟨h2, h3⟩ := h
  rw [h3, show x.1 = 8 by omega]

set_option maxRecDepth 100000 in
theorem nums_0 (key slot gen : Int) (good : Bool) (request backend weight : Int) : Fun Tryd.prog 23 [.ptr 0 0 0 0] [(0, some (.cells 37 (fvs (encEv ⟨0, key, slot, gen, good, request, backend, weight⟩))))] [] (lit (.slice none 0 0)) [] := by
  refine fun_of_awp (rl := [.tmp 2]) Tryd.func23 rfl Tryd.results23 Tryd.ntmps23 1 rfl (by simp) ?_
  intro w0 own0 ρ0 F hz
  refine awp_seq ?_
  refine awp_region ?_
  refine r_as rfl trivial rfl ?_
  refine reg_nil ?_
  refine awp_seq ?_
  refine awp_seq ?_
  refine awp_region ?_
  refine r_mv rfl trivial rfl ?_
  first | refine r_nilck rfl trivial rfl ?_ | refine r_nilckr rfl trivial rfl ?_ | refine r_nilckf rfl trivial rfl ?_
  first | refine r_fld fld_37_0 rfl trivial rfl ?_ | refine r_fldr fld_37_0 rfl trivial rfl ?_
  first | refine r_ld ty_3 rfl rfl rfl trivial rfl ?_ | refine r_ldr ty_3 rfl rfl trivial rfl ?_ | refine r_ldo ty_3 rfl rfl (by first | rfl | assumption) rfl trivial rfl ?_
  refine reg_nil ?_
  refine awp_block ?_
  refine awp_seq ?_
  refine awp_region ?_
  refine r_eqi rfl rfl trivial rfl ?_
  refine r_as rfl trivial rfl ?_
  refine reg_nil ?_
  refine awp_cond_f rfl ?_
  refine awp_seq ?_
  refine awp_seq ?_
  refine awp_region ?_
  refine r_eqi rfl rfl trivial rfl ?_
  refine r_as rfl trivial rfl ?_
  refine reg_nil ?_
  refine awp_cond_f rfl ?_
  refine awp_seq ?_
  refine awp_region ?_
  refine r_eqi rfl rfl trivial rfl ?_
  refine r_as rfl trivial rfl ?_
  refine reg_nil ?_
  refine awp_cond_f rfl ?_
  refine awp_region ?_
  refine r_eqi rfl rfl trivial rfl ?_
  refine r_as rfl trivial rfl ?_
  refine reg_nil ?_
  refine awp_cond_f rfl ?_
  refine awp_seq ?_
  refine awp_region ?_
  refine r_eqi rfl rfl trivial rfl ?_
  refine r_as rfl trivial rfl ?_
  refine reg_nil ?_
  refine awp_cond_f rfl ?_
  refine awp_seq ?_
  refine awp_region ?_
  refine r_eqi rfl rfl trivial rfl ?_
  refine r_as rfl trivial rfl ?_
  refine reg_nil ?_
  refine awp_cond_f rfl ?_
  refine awp_skip ?_
  refine awp_seq ?_
  refine awp_region ?_
  refine r_as rfl trivial rfl ?_
  refine reg_nil ?_
  refine awp_ret ?_
  exact finG (nid := []) [] 1 (.cons (.tmp rfl) .nil) rfl rfl rfl (.ren rfl) (.cons rfl (.ren rfl) .nil)
theorem ev_shape (w : List UInt8) (ar : List (List UInt8)) (k : Int) (e : k = kw w 8) : (k = 1 ∧ w = [111, 112, 101, 110] ∧ ar = []) ∨ (∃ (a : List UInt8) (r : List (List UInt8)), k = 1 ∧ w = [111, 112, 101, 110] ∧ ar = a :: r) ∨ (k = 2 ∧ w = [100, 97, 116, 97] ∧ ar = []) ∨ (∃ (a : List UInt8), k = 2 ∧ w = [100, 97, 116, 97] ∧ ar = [a]) ∨ (∃ (a : List UInt8) (b : List UInt8) (r : List (List UInt8)), k = 2 ∧ w = [100, 97, 116, 97] ∧ ar = a :: b :: r) ∨ (k = 3 ∧ w = [99, 108, 111, 115, 101] ∧ ar = []) ∨ (∃ (a : List UInt8), k = 3 ∧ w = [99, 108, 111, 115, 101] ∧ ar = [a]) ∨ (∃ (a : List UInt8) (b : List UInt8) (r : List (List UInt8)), k = 3 ∧ w = [99, 108, 111, 115, 101] ∧ ar = a :: b :: r) ∨ (k = 4 ∧ w = [97, 110, 115, 119, 101, 114] ∧ ar = []) ∨ (∃ (a : List UInt8), k = 4 ∧ w = [97, 110, 115, 119, 101, 114] ∧ ar = [a]) ∨ (∃ (a : List UInt8) (b : List UInt8) (r : List (List UInt8)), k = 4 ∧ w = [97, 110, 115, 119, 101, 114] ∧ ar = a :: b :: r) ∨ (k = 5 ∧ w = [106, 111, 105, 110] ∧ ar = []) ∨ (∃ (a : List UInt8), k = 5 ∧ w = [106, 111, 105, 110] ∧ ar = [a]) ∨ (∃ (a : List UInt8) (b : List UInt8), k = 5 ∧ w = [106, 111, 105, 110] ∧ ar = [a, b]) ∨ (∃ (a : List UInt8) (b : List UInt8) (c : List UInt8) (r : List (List UInt8)), k = 5 ∧ w = [106, 111, 105, 110] ∧ ar = a :: b :: c :: r) ∨ (k = 6 ∧ w = [114, 101, 116, 105, 114, 101] ∧ ar = []) ∨ (∃ (a : List UInt8), k = 6 ∧ w = [114, 101, 116, 105, 114, 101] ∧ ar = [a]) ∨ (∃ (a : List UInt8) (b : List UInt8) (r : List (List UInt8)), k = 6 ∧ w = [114, 101, 116, 105, 114, 101] ∧ ar = a :: b :: r) ∨ (∃ (r : List (List UInt8)), k = 7 ∧ w = [116, 105, 99, 107] ∧ ar = r) ∨ (k = 0 ∧ eventWs (w :: ar) = zeroEv) := by
  by_cases n1 : w = [111, 112, 101, 110]
  · subst n1
    have e : k = 1 := e.trans (by simp [kw, wordL])
    subst e
    match ar with
    | [] => exact .inl ⟨rfl, rfl, rfl⟩
    | a :: r => exact .inr (.inl ⟨a, r, rfl, rfl, rfl⟩)
  by_cases n2 : w = [100, 97, 116, 97]
  · subst n2
    have e : k = 2 := e.trans (by simp [kw, wordL])
    subst e
    match ar with
    | [] => exact .inr (.inr (.inl ⟨rfl, rfl, rfl⟩))
    | [a] => exact .inr (.inr (.inr (.inl ⟨a, rfl, rfl, rfl⟩)))
    | a :: b :: r => exact .inr (.inr (.inr (.inr (.inl ⟨a, b, r, rfl, rfl, rfl⟩))))
  by_cases n3 : w = [99, 108, 111, 115, 101]
  · subst n3
    have e : k = 3 := e.trans (by simp [kw, wordL])
    subst e
    match ar with
    | [] => exact .inr (.inr (.inr (.inr (.inr (.inl ⟨rfl, rfl, rfl⟩)))))
    | [a] => exact .inr (.inr (.inr (.inr (.inr (.inr (.inl ⟨a, rfl, rfl, rfl⟩))))))
    | a :: b :: r => exact .inr (.inr (.inr (.inr (.inr (.inr (.inr (.inl ⟨a, b, r, rfl, rfl, rfl⟩)))))))
  by_cases n4 : w = [97, 110, 115, 119, 101, 114]
  · subst n4
    have e : k = 4 := e.trans (by simp [kw, wordL])
    subst e
    match ar with
    | [] => exact .inr (.inr (.inr (.inr (.inr (.inr (.inr (.inr (.inl ⟨rfl, rfl, rfl⟩))))))))
    | [a] => exact .inr (.inr (.inr (.inr (.inr (.inr (.inr (.inr (.inr (.inl ⟨a, rfl, rfl, rfl⟩)))))))))
    | a :: b :: r => exact .inr (.inr (.inr (.inr (.inr (.inr (.inr (.inr (.inr (.inr (.inl ⟨a, b, r, rfl, rfl, rfl⟩))))))))))
  by_cases n5 : w = [106, 111, 105, 110]
  · subst n5
    have e : k = 5 := e.trans (by simp [kw, wordL])
    subst e
    match ar with
    | [] => exact .inr (.inr (.inr (.inr (.inr (.inr (.inr (.inr (.inr (.inr (.inr (.inl ⟨rfl, rfl, rfl⟩)))))))))))
    | [a] => exact .inr (.inr (.inr (.inr (.inr (.inr (.inr (.inr (.inr (.inr (.inr (.inr (.inl ⟨a, rfl, rfl, rfl⟩))))))))))))
    | [a, b] => exact .inr (.inr (.inr (.inr (.inr (.inr (.inr (.inr (.inr (.inr (.inr (.inr (.inr (.inl ⟨a, b, rfl, rfl, rfl⟩)))))))))))))
    | a :: b :: c :: r => exact .inr (.inr (.inr (.inr (.inr (.inr (.inr (.inr (.inr (.inr (.inr (.inr (.inr (.inr (.inl ⟨a, b, c, r, rfl, rfl, rfl⟩))))))))))))))
  by_cases n6 : w = [114, 101, 116, 105, 114, 101]
  · subst n6
    have e : k = 6 := e.trans (by simp [kw, wordL])
    subst e
    match ar with
    | [] => exact .inr (.inr (.inr (.inr (.inr (.inr (.inr (.inr (.inr (.inr (.inr (.inr (.inr (.inr (.inr (.inl ⟨rfl, rfl, rfl⟩)))))))))))))))
    | [a] => exact .inr (.inr (.inr (.inr (.inr (.inr (.inr (.inr (.inr (.inr (.inr (.inr (.inr (.inr (.inr (.inr (.inl ⟨a, rfl, rfl, rfl⟩))))))))))))))))
    | a :: b :: r => exact .inr (.inr (.inr (.inr (.inr (.inr (.inr (.inr (.inr (.inr (.inr (.inr (.inr (.inr (.inr (.inr (.inr (.inl ⟨a, b, r, rfl, rfl, rfl⟩)))))))))))))))))
  by_cases n7 : w = [116, 105, 99, 107]
  · subst n7
    have e : k = 7 := e.trans (by simp [kw, wordL])
    subst e
    exact .inr (.inr (.inr (.inr (.inr (.inr (.inr (.inr (.inr (.inr (.inr (.inr (.inr (.inr (.inr (.inr (.inr (.inr (.inl ⟨ar, rfl, rfl, rfl⟩))))))))))))))))))
  refine .inr (.inr (.inr (.inr (.inr (.inr (.inr (.inr (.inr (.inr (.inr (.inr (.inr (.inr (.inr (.inr (.inr (.inr (.inr (⟨e.trans ?_, ?_⟩)))))))))))))))))))
  · simp [kw, wordL, Ne.symm n1, Ne.symm n2, Ne.symm n3, Ne.symm n4, Ne.symm n5, Ne.symm n6, Ne.symm n7]
  · simp [eventWs, wordL, n1, n2, n3, n4, n5, n6, n7]
set_option maxRecDepth 100000 in
theorem event_ok (l : List UInt8) (hl : l.length ≤ 200000) : Fun Tryd.prog 18 [sA l] [] [] (.agg (fvs (encEv (eventP l)))) [] := by
  refine fun_of_awp (rl := [.cell 2 37]) Tryd.func18 rfl Tryd.results18 Tryd.ntmps18 0 rfl (by simp) ?_
  intro w0 own0 ρ0 F hz
  obtain ⟨w, ar, hw⟩ : ∃ w ar, splitSp (Lib.trimSuffix l [10]) = w :: ar := by
    cases h : splitSp (Lib.trimSuffix l [10]) with
    | nil => exact absurd h (splitSp_cnt _).2
    | cons w ar => exact ⟨w, ar, rfl⟩
  have hsp : Fun Tryd.prog 33 [sA (Lib.trimSuffix l [10]), sA [32]] [] [] (.fv (.ro 1 (strF (w :: ar)))) [] := by rw [← hw]; exact split_ok _ (Nat.le_trans (trim_len l [10]) hl)
  refine awp_seq ?_
  refine awp_region ?_
  refine r_alloc z_37 rfl trivial rfl ?_
  refine reg_nil ?_
  refine awp_seq ?_
  refine awp_region ?_
  refine r_alloc z_37 rfl trivial rfl ?_
  refine reg_nil ?_
  refine awp_seq ?_
  refine awp_region ?_
  refine r_mv rfl trivial rfl ?_
  refine r_call (trim_ok l) cb_34 rfl rfl rfl ?_ trivial rfl ?_
  · (repeat (first | exact .nil | refine .cons .fv ?_ | refine .cons (.aggf' rfl) ?_ | refine .cons .nil ?_ | refine .cons (.ren rfl) ?_))
  refine r_call (hsp) cb_33 rfl rfl rfl ?_ trivial rfl ?_
  · (repeat (first | exact .nil | refine .cons .fv ?_ | refine .cons (.aggf' rfl) ?_ | refine .cons .nil ?_ | refine .cons (.ren rfl) ?_))
  refine r_as rfl trivial rfl ?_
  refine reg_nil ?_
  refine awp_seq ?_
  refine awp_seq ?_
  refine awp_region ?_
  refine r_ldg ty_57 words_mem rfl words_ok trivial rfl ?_
  refine r_mv rfl trivial rfl ?_
  refine reg_nil ?_
  refine awp_block ?_
  refine awp_loopQ (X := Nat × Int) (KwQ w) (fun x => ⟨[(0, sA l), (4, .fv (.ro 1 (strF (w :: ar)))), (12, .agg tabA), (2, .ptr 0 0 0 0), (3, .ptr 1 0 0 0), (13, iA x.1)], [(1, some (.cells 37 (fvs (encEv ⟨x.2, 0, 0, 0, false, 0, 0, 0⟩)))), (0, some (.cells 37 (fvs (encEv zeroEv))))], 2⟩) (fun x => 8 - x.1) (0, 0) ?_ ?_ ?_
  · exact kw_0 w
  · exact le_mk [(0, 0), (1, 1)] rfl hz (Nat.zero_le _) ⟨⟨_, rfl, (by first | exact .fv | exact .ren rfl)⟩, ⟨_, rfl, (by first | exact .fv | exact .ren rfl)⟩, ⟨_, rfl, (by first | exact .fv | exact .ren rfl)⟩, ⟨_, rfl, (by first | exact .fv | exact .ren rfl)⟩, ⟨_, rfl, (by first | exact .fv | exact .ren rfl)⟩, ⟨_, rfl, (by first | exact .fv | exact .ren rfl)⟩, trivial⟩ ⟨⟨_, rfl, .ren rfl⟩, ⟨_, rfl, .ren rfl⟩, trivial⟩
  · intro x hx
    have hx1 := hx.1
    refine awp_seq ?_
    refine awp_region ?_
    refine r_lss rfl rfl trivial rfl ?_
    refine reg_nil ?_
    refine awp_seq ?_
    first | refine awp_cond_dec rfl (fun h1 => ?_) (fun h1 => ?_) | refine awp_cond rfl (fun h1 => ?_) (fun h1 => ?_)
    · refine awp_skip ?_
      refine awp_seq ?_
      refine awp_block ?_
      refine awp_seq ?_
      refine awp_region ?_
      refine r_mv rfl trivial rfl ?_
      refine r_ixa (gg := false) ar_57 ty_9 rfl rfl (by first | omega | (simp; done)) (by first | omega | simp) (word_at (by omega)) trivial rfl ?_
      refine r_as rfl trivial rfl ?_
      refine r_as rfl trivial rfl ?_
      refine reg_nil ?_
      refine awp_seq ?_
      refine awp_region ?_
      refine r_mv rfl trivial rfl ?_
      refine r_gtr rfl rfl trivial rfl ?_
      refine r_mv rfl trivial rfl ?_
      first | refine reg_split_dec 19 rfl (fun h2 => ?_) (fun h2 => ?_) | refine reg_split 19 rfl (fun h2 => ?_) (fun h2 => ?_)
      · refine r_mv rfl ⟨_, rfl, rfl⟩ rfl ?_
        refine r_mv rfl ⟨_, rfl, rfl⟩ rfl ?_
        first | refine r_ixr sl_69 ty_9 rfl rfl (by first | omega | (simp; done)) rfl ⟨_, rfl, rfl⟩ rfl ?_ | refine r_ixw sl_69 ty_9 rfl rfl (by first | omega | (simp; done)) (by first | omega | simp) ⟨_, rfl, rfl⟩ rfl ?_
        first | refine r_ld ty_9 rfl rfl rfl ⟨_, rfl, rfl⟩ rfl ?_ | refine r_ldr ty_9 rfl rfl ⟨_, rfl, rfl⟩ rfl ?_ | refine r_ldo ty_9 rfl rfl (by first | rfl | assumption) rfl ⟨_, rfl, rfl⟩ rfl ?_
        refine r_eqstr rfl rfl ⟨_, rfl, rfl⟩ rfl ?_
        refine r_pkt rfl rfl trivial rfl ?_
        refine reg_nil ?_
        first | refine awp_cond_dec rfl (fun h3 => ?_) (fun h3 => ?_) | refine awp_cond rfl (fun h3 => ?_) (fun h3 => ?_)
        · refine awp_region ?_
          refine r_mv rfl trivial rfl ?_
          first | refine r_fld fld_37_0 rfl trivial rfl ?_ | refine r_fldr fld_37_0 rfl trivial rfl ?_
          first | refine r_st ty_3 rfl rfl rfl rfl rfl rfl rfl trivial ?_ | refine r_sto ty_3 rfl rfl rfl rfl (by first | rfl | assumption) rfl rfl trivial ?_
          refine reg_nil ?_
          refine awp_region ?_
          refine r_add rfl rfl (rng64 (by omega)) trivial rfl ?_
          refine r_mv rfl trivial rfl ?_
          refine reg_nil ?_
          first | exact ⟨_, kw_hit hx (by omega) (by omega) (by assumption), le_mk [(0, 0), (1, 1)] rfl hz (Nat.zero_le _) ⟨⟨_, rfl, (by first | exact .fv | exact .ren rfl)⟩, ⟨_, rfl, (by first | exact .fv | exact .ren rfl)⟩, ⟨_, rfl, (by first | exact .fv | exact .ren rfl)⟩, ⟨_, rfl, (by first | exact .fv | exact .ren rfl)⟩, ⟨_, rfl, (by first | exact .fv | exact .ren rfl)⟩, ⟨_, rfl, (by first | exact .fv | exact .ren rfl)⟩, trivial⟩ ⟨⟨_, rfl, .ren rfl⟩, ⟨_, rfl, .ren rfl⟩, trivial⟩, (show 8 - (x.1 + 1) < 8 - x.1 by omega)⟩ | exact ⟨_, kw_miss hx (by omega) (fun h => absurd h.1 (by assumption)), le_mk [(0, 0), (1, 1)] rfl hz (Nat.zero_le _) ⟨⟨_, rfl, (by first | exact .fv | exact .ren rfl)⟩, ⟨_, rfl, (by first | exact .fv | exact .ren rfl)⟩, ⟨_, rfl, (by first | exact .fv | exact .ren rfl)⟩, ⟨_, rfl, (by first | exact .fv | exact .ren rfl)⟩, ⟨_, rfl, (by first | exact .fv | exact .ren rfl)⟩, ⟨_, rfl, (by first | exact .fv | exact .ren rfl)⟩, trivial⟩ ⟨⟨_, rfl, .ren rfl⟩, ⟨_, rfl, .ren rfl⟩, trivial⟩, (show 8 - (x.1 + 1) < 8 - x.1 by omega)⟩ | exact ⟨_, kw_miss hx (by omega) (fun h => absurd h.2 (by assumption)), le_mk [(0, 0), (1, 1)] rfl hz (Nat.zero_le _) ⟨⟨_, rfl, (by first | exact .fv | exact .ren rfl)⟩, ⟨_, rfl, (by first | exact .fv | exact .ren rfl)⟩, ⟨_, rfl, (by first | exact .fv | exact .ren rfl)⟩, ⟨_, rfl, (by first | exact .fv | exact .ren rfl)⟩, ⟨_, rfl, (by first | exact .fv | exact .ren rfl)⟩, ⟨_, rfl, (by first | exact .fv | exact .ren rfl)⟩, trivial⟩ ⟨⟨_, rfl, .ren rfl⟩, ⟨_, rfl, .ren rfl⟩, trivial⟩, (show 8 - (x.1 + 1) < 8 - x.1 by omega)⟩
        · refine awp_skip ?_
          refine awp_region ?_
          refine r_add rfl rfl (rng64 (by omega)) trivial rfl ?_
          refine r_mv rfl trivial rfl ?_
          refine reg_nil ?_
          first | exact ⟨_, kw_hit hx (by omega) (by omega) (by assumption), le_mk [(0, 0), (1, 1)] rfl hz (Nat.zero_le _) ⟨⟨_, rfl, (by first | exact .fv | exact .ren rfl)⟩, ⟨_, rfl, (by first | exact .fv | exact .ren rfl)⟩, ⟨_, rfl, (by first | exact .fv | exact .ren rfl)⟩, ⟨_, rfl, (by first | exact .fv | exact .ren rfl)⟩, ⟨_, rfl, (by first | exact .fv | exact .ren rfl)⟩, ⟨_, rfl, (by first | exact .fv | exact .ren rfl)⟩, trivial⟩ ⟨⟨_, rfl, .ren rfl⟩, ⟨_, rfl, .ren rfl⟩, trivial⟩, (show 8 - (x.1 + 1) < 8 - x.1 by omega)⟩ | exact ⟨_, kw_miss hx (by omega) (fun h => absurd h.1 (by assumption)), le_mk [(0, 0), (1, 1)] rfl hz (Nat.zero_le _) ⟨⟨_, rfl, (by first | exact .fv | exact .ren rfl)⟩, ⟨_, rfl, (by first | exact .fv | exact .ren rfl)⟩, ⟨_, rfl, (by first | exact .fv | exact .ren rfl)⟩, ⟨_, rfl, (by first | exact .fv | exact .ren rfl)⟩, ⟨_, rfl, (by first | exact .fv | exact .ren rfl)⟩, ⟨_, rfl, (by first | exact .fv | exact .ren rfl)⟩, trivial⟩ ⟨⟨_, rfl, .ren rfl⟩, ⟨_, rfl, .ren rfl⟩, trivial⟩, (show 8 - (x.1 + 1) < 8 - x.1 by omega)⟩ | exact ⟨_, kw_miss hx (by omega) (fun h => absurd h.2 (by assumption)), le_mk [(0, 0), (1, 1)] rfl hz (Nat.zero_le _) ⟨⟨_, rfl, (by first | exact .fv | exact .ren rfl)⟩, ⟨_, rfl, (by first | exact .fv | exact .ren rfl)⟩, ⟨_, rfl, (by first | exact .fv | exact .ren rfl)⟩, ⟨_, rfl, (by first | exact .fv | exact .ren rfl)⟩, ⟨_, rfl, (by first | exact .fv | exact .ren rfl)⟩, ⟨_, rfl, (by first | exact .fv | exact .ren rfl)⟩, trivial⟩ ⟨⟨_, rfl, .ren rfl⟩, ⟨_, rfl, .ren rfl⟩, trivial⟩, (show 8 - (x.1 + 1) < 8 - x.1 by omega)⟩
      · refine r_skip ⟨_, rfl, .inl rfl⟩ rfl ?_
        refine r_skip ⟨_, rfl, .inl rfl⟩ rfl ?_
        refine r_skip ⟨_, rfl, .inl rfl⟩ rfl ?_
        refine r_skip ⟨_, rfl, .inl rfl⟩ rfl ?_
        refine r_skip ⟨_, rfl, .inl rfl⟩ rfl ?_
        refine r_pkf rfl rfl trivial rfl ?_
        refine reg_nil ?_
        refine awp_cond_f rfl ?_
        refine awp_skip ?_
        refine awp_region ?_
        refine r_add rfl rfl (rng64 (by omega)) trivial rfl ?_
        refine r_mv rfl trivial rfl ?_
        refine reg_nil ?_
        first | exact ⟨_, kw_hit hx (by omega) (by omega) (by assumption), le_mk [(0, 0), (1, 1)] rfl hz (Nat.zero_le _) ⟨⟨_, rfl, (by first | exact .fv | exact .ren rfl)⟩, ⟨_, rfl, (by first | exact .fv | exact .ren rfl)⟩, ⟨_, rfl, (by first | exact .fv | exact .ren rfl)⟩, ⟨_, rfl, (by first | exact .fv | exact .ren rfl)⟩, ⟨_, rfl, (by first | exact .fv | exact .ren rfl)⟩, ⟨_, rfl, (by first | exact .fv | exact .ren rfl)⟩, trivial⟩ ⟨⟨_, rfl, .ren rfl⟩, ⟨_, rfl, .ren rfl⟩, trivial⟩, (show 8 - (x.1 + 1) < 8 - x.1 by omega)⟩ | exact ⟨_, kw_miss hx (by omega) (fun h => absurd h.1 (by assumption)), le_mk [(0, 0), (1, 1)] rfl hz (Nat.zero_le _) ⟨⟨_, rfl, (by first | exact .fv | exact .ren rfl)⟩, ⟨_, rfl, (by first | exact .fv | exact .ren rfl)⟩, ⟨_, rfl, (by first | exact .fv | exact .ren rfl)⟩, ⟨_, rfl, (by first | exact .fv | exact .ren rfl)⟩, ⟨_, rfl, (by first | exact .fv | exact .ren rfl)⟩, ⟨_, rfl, (by first | exact .fv | exact .ren rfl)⟩, trivial⟩ ⟨⟨_, rfl, .ren rfl⟩, ⟨_, rfl, .ren rfl⟩, trivial⟩, (show 8 - (x.1 + 1) < 8 - x.1 by omega)⟩ | exact ⟨_, kw_miss hx (by omega) (fun h => absurd h.2 (by assumption)), le_mk [(0, 0), (1, 1)] rfl hz (Nat.zero_le _) ⟨⟨_, rfl, (by first | exact .fv | exact .ren rfl)⟩, ⟨_, rfl, (by first | exact .fv | exact .ren rfl)⟩, ⟨_, rfl, (by first | exact .fv | exact .ren rfl)⟩, ⟨_, rfl, (by first | exact .fv | exact .ren rfl)⟩, ⟨_, rfl, (by first | exact .fv | exact .ren rfl)⟩, ⟨_, rfl, (by first | exact .fv | exact .ren rfl)⟩, trivial⟩ ⟨⟨_, rfl, .ren rfl⟩, ⟨_, rfl, .ren rfl⟩, trivial⟩, (show 8 - (x.1 + 1) < 8 - x.1 by omega)⟩
    · refine awp_exit ?_
      refine awp_seq ?_
      have e := kw_end hx (by assumption)
      obtain ⟨x1, x2⟩ := x
      simp only at e hx1 ⊢
      rcases ev_shape w ar x2 e with ⟨rfl, rfl, rfl⟩ | ⟨a, r, rfl, rfl, rfl⟩ | ⟨rfl, rfl, rfl⟩ | ⟨a, rfl, rfl, rfl⟩ | ⟨a, b, r, rfl, rfl, rfl⟩ | ⟨rfl, rfl, rfl⟩ | ⟨a, rfl, rfl, rfl⟩ | ⟨a, b, r, rfl, rfl, rfl⟩ | ⟨rfl, rfl, rfl⟩ | ⟨a, rfl, rfl, rfl⟩ | ⟨a, b, r, rfl, rfl, rfl⟩ | ⟨rfl, rfl, rfl⟩ | ⟨a, rfl, rfl, rfl⟩ | ⟨a, b, rfl, rfl, rfl⟩ | ⟨a, b, c, r, rfl, rfl, rfl⟩ | ⟨rfl, rfl, rfl⟩ | ⟨a, rfl, rfl, rfl⟩ | ⟨a, b, r, rfl, rfl, rfl⟩ | ⟨r, rfl, rfl, rfl⟩ | ⟨rfl, h0⟩
      · refine awp_region ?_
        first | refine r_fld fld_37_0 rfl trivial rfl ?_ | refine r_fldr fld_37_0 rfl trivial rfl ?_
        first | refine r_ld ty_3 rfl rfl rfl trivial rfl ?_ | refine r_ldr ty_3 rfl rfl trivial rfl ?_ | refine r_ldo ty_3 rfl rfl (by first | rfl | assumption) rfl trivial rfl ?_
        refine r_eqi rfl rfl trivial rfl ?_
        refine r_mv rfl trivial rfl ?_
        refine r_skip ⟨_, rfl, .inl rfl⟩ rfl ?_
        refine r_skip ⟨_, rfl, .inl rfl⟩ rfl ?_
        refine r_skip ⟨_, rfl, .inl rfl⟩ rfl ?_
        refine r_skip ⟨_, rfl, .inl rfl⟩ rfl ?_
        refine r_skip ⟨_, rfl, .inl rfl⟩ rfl ?_
        refine r_skip ⟨_, rfl, .inl rfl⟩ rfl ?_
        refine r_skip ⟨_, rfl, .inl rfl⟩ rfl ?_
        refine r_pkf rfl rfl trivial rfl ?_
        first | refine r_fld fld_37_4 rfl trivial rfl ?_ | refine r_fldr fld_37_4 rfl trivial rfl ?_
        first | refine r_st ty_4 rfl rfl rfl rfl rfl rfl rfl trivial ?_ | refine r_sto ty_4 rfl rfl rfl rfl (by first | rfl | assumption) rfl rfl trivial ?_
        refine reg_nil ?_
        refine awp_seq ?_
        refine awp_seq ?_
        refine awp_region ?_
        refine r_callh [(0, 1), (1, 2)] 3 2 (nums_1 0 0 0 false 0 0 0) cb_23 rfl rfl rfl ?_ (.cons rfl .nil) rfl rfl rfl rfl trivial rfl ?_
        · (repeat (first | exact .nil | refine .cons .fv ?_ | refine .cons (.aggf' rfl) ?_ | refine .cons .nil ?_ | refine .cons (.ren rfl) ?_))
        first | refine r_lenr sl_58 rfl trivial rfl ?_ | refine r_lenw sl_58 rfl trivial rfl ?_ | refine r_len0 sl_58 rfl trivial rfl ?_
        refine r_mv rfl trivial rfl ?_
        refine reg_nil ?_
        refine awp_block ?_
        refine awp_unroll 2 ?_
        refine unr_succ ?_
        refine awp_seq ?_
        refine awp_region ?_
        refine r_lss rfl rfl trivial rfl ?_
        refine reg_nil ?_
        refine awp_seq ?_
        refine awp_cond_t rfl ?_
        refine awp_skip ?_
        refine awp_seq ?_
        refine awp_block ?_
        refine awp_seq ?_
        refine awp_region ?_
        refine r_mv rfl trivial rfl ?_
        first | refine r_ixr sl_58 ty_53 rfl rfl (by first | omega | (simp; done) | (simp [strF]; omega)) rfl trivial rfl ?_ | refine r_ixw sl_58 ty_53 rfl rfl (by first | omega | (simp; done) | (simp [strF]; omega)) (by first | omega | simp) trivial rfl ?_
        first | refine r_ld ty_53 rfl rfl rfl trivial rfl ?_ | refine r_ldr ty_53 rfl rfl trivial rfl ?_ | refine r_ldo ty_53 rfl rfl (by first | rfl | assumption) rfl trivial rfl ?_
        refine r_as rfl trivial rfl ?_
        refine r_as rfl trivial rfl ?_
        refine reg_nil ?_
        refine awp_seq ?_
        refine awp_region ?_
        refine r_mv rfl trivial rfl ?_
        refine r_add rfl rfl (rng64 (by first | omega | (simp [strF]; done) | (simp [strF]; omega))) trivial rfl ?_
        refine r_mv rfl trivial rfl ?_
        first | refine r_lenr sl_69 rfl trivial rfl ?_ | refine r_lenw sl_69 rfl trivial rfl ?_ | refine r_len0 sl_69 rfl trivial rfl ?_
        refine r_lss rfl rfl trivial rfl ?_
        refine reg_nil ?_
        refine awp_cond_no rfl (by simp [strF]) ?_
        refine awp_skip ?_
        refine awp_region ?_
        refine r_add rfl rfl (rng64 (by first | omega | (simp [strF]; done) | (simp [strF]; omega))) trivial rfl ?_
        refine r_mv rfl trivial rfl ?_
        refine reg_nil ?_
        refine unr_succ ?_
        refine awp_seq ?_
        refine awp_region ?_
        refine r_lss rfl rfl trivial rfl ?_
        refine reg_nil ?_
        refine awp_seq ?_
        refine awp_cond_f rfl ?_
        refine awp_exit ?_
        refine awp_seq ?_
        refine awp_region ?_
        first | refine r_lda ty_37 rfl rfl rfl rfl trivial rfl ?_ | refine r_ldra ty_37 rfl rfl rfl trivial rfl ?_ | refine r_ldoa ty_37 rfl rfl (by first | rfl | assumption) rfl rfl trivial rfl ?_
        first | refine r_st ty_37 rfl rfl rfl rfl rfl rfl rfl trivial ?_ | refine r_sto ty_37 rfl rfl rfl rfl (by first | rfl | assumption) rfl rfl trivial ?_
        refine reg_nil ?_
        refine awp_ret ?_
        refine fin0 (.cons (.agg rfl rfl ty_37 (Nat.le_of_ble_eq_true rfl)) .nil) (.aggf' (l := encEv ⟨1, 0, 0, 0, false, 0, 0, 0⟩) rfl) ?_
        (rw [eventP, hw]; simp [eventWs, wordL, argV])
      · refine awp_region ?_
        first | refine r_fld fld_37_0 rfl trivial rfl ?_ | refine r_fldr fld_37_0 rfl trivial rfl ?_
        first | refine r_ld ty_3 rfl rfl rfl trivial rfl ?_ | refine r_ldr ty_3 rfl rfl trivial rfl ?_ | refine r_ldo ty_3 rfl rfl (by first | rfl | assumption) rfl trivial rfl ?_
        refine r_eqi rfl rfl trivial rfl ?_
        refine r_mv rfl trivial rfl ?_
        refine r_skip ⟨_, rfl, .inl rfl⟩ rfl ?_
        refine r_skip ⟨_, rfl, .inl rfl⟩ rfl ?_
        refine r_skip ⟨_, rfl, .inl rfl⟩ rfl ?_
        refine r_skip ⟨_, rfl, .inl rfl⟩ rfl ?_
        refine r_skip ⟨_, rfl, .inl rfl⟩ rfl ?_
        refine r_skip ⟨_, rfl, .inl rfl⟩ rfl ?_
        refine r_skip ⟨_, rfl, .inl rfl⟩ rfl ?_
        refine r_pkf rfl rfl trivial rfl ?_
        first | refine r_fld fld_37_4 rfl trivial rfl ?_ | refine r_fldr fld_37_4 rfl trivial rfl ?_
        first | refine r_st ty_4 rfl rfl rfl rfl rfl rfl rfl trivial ?_ | refine r_sto ty_4 rfl rfl rfl rfl (by first | rfl | assumption) rfl rfl trivial ?_
        refine reg_nil ?_
        refine awp_seq ?_
        refine awp_seq ?_
        refine awp_region ?_
        refine r_callh [(0, 1), (1, 2)] 3 2 (nums_1 0 0 0 false 0 0 0) cb_23 rfl rfl rfl ?_ (.cons rfl .nil) rfl rfl rfl rfl trivial rfl ?_
        · (repeat (first | exact .nil | refine .cons .fv ?_ | refine .cons (.aggf' rfl) ?_ | refine .cons .nil ?_ | refine .cons (.ren rfl) ?_))
        first | refine r_lenr sl_58 rfl trivial rfl ?_ | refine r_lenw sl_58 rfl trivial rfl ?_ | refine r_len0 sl_58 rfl trivial rfl ?_
        refine r_mv rfl trivial rfl ?_
        refine reg_nil ?_
        refine awp_block ?_
        refine awp_unroll 2 ?_
        refine unr_succ ?_
        refine awp_seq ?_
        refine awp_region ?_
        refine r_lss rfl rfl trivial rfl ?_
        refine reg_nil ?_
        refine awp_seq ?_
        refine awp_cond_t rfl ?_
        refine awp_skip ?_
        refine awp_seq ?_
        refine awp_block ?_
        refine awp_seq ?_
        refine awp_region ?_
        refine r_mv rfl trivial rfl ?_
        first | refine r_ixr sl_58 ty_53 rfl rfl (by first | omega | (simp; done) | (simp [strF]; omega)) rfl trivial rfl ?_ | refine r_ixw sl_58 ty_53 rfl rfl (by first | omega | (simp; done) | (simp [strF]; omega)) (by first | omega | simp) trivial rfl ?_
        first | refine r_ld ty_53 rfl rfl rfl trivial rfl ?_ | refine r_ldr ty_53 rfl rfl trivial rfl ?_ | refine r_ldo ty_53 rfl rfl (by first | rfl | assumption) rfl trivial rfl ?_
        refine r_as rfl trivial rfl ?_
        refine r_as rfl trivial rfl ?_
        refine reg_nil ?_
        refine awp_seq ?_
        refine awp_region ?_
        refine r_mv rfl trivial rfl ?_
        refine r_add rfl rfl (rng64 (by first | omega | (simp [strF]; done) | (simp [strF]; omega))) trivial rfl ?_
        refine r_mv rfl trivial rfl ?_
        first | refine r_lenr sl_69 rfl trivial rfl ?_ | refine r_lenw sl_69 rfl trivial rfl ?_ | refine r_len0 sl_69 rfl trivial rfl ?_
        refine r_lss rfl rfl trivial rfl ?_
        refine reg_nil ?_
        refine awp_cond_yes rfl (by first | (simp [strF]; done) | (simp [strF]; omega)) ?_
        refine awp_region ?_
        refine r_mv rfl trivial rfl ?_
        refine r_mv rfl trivial rfl ?_
        refine r_mv rfl trivial rfl ?_
        refine r_add rfl rfl (rng64 (by first | omega | (simp [strF]; done) | (simp [strF]; omega))) trivial rfl ?_
        first | refine r_ixr sl_69 ty_9 rfl rfl (by first | omega | (simp; done) | (simp [strF]; omega)) rfl trivial rfl ?_ | refine r_ixw sl_69 ty_9 rfl rfl (by first | omega | (simp; done) | (simp [strF]; omega)) (by first | omega | simp) trivial rfl ?_
        first | refine r_ld ty_9 rfl rfl rfl trivial rfl ?_ | refine r_ldr ty_9 rfl rfl trivial rfl ?_ | refine r_ldo ty_9 rfl rfl (by first | rfl | assumption) rfl trivial rfl ?_
        refine r_call (atoi_ok a (by have := splitSp_le _ a (by rw [hw]; simp); have := trim_len l [10]; omega)) cb_35 rfl rfl rfl ?_ trivial rfl ?_
        · (repeat (first | exact .nil | refine .cons .fv ?_ | refine .cons (.aggf' rfl) ?_ | refine .cons .nil ?_ | refine .cons (.ren rfl) ?_))
        refine r_mv rfl trivial rfl ?_
        refine r_ext rfl rfl trivial rfl ?_
        refine r_ext rfl rfl trivial rfl ?_
        first | refine r_nilck rfl trivial rfl ?_ | refine r_nilckr rfl trivial rfl ?_ | refine r_nilckf rfl trivial rfl ?_
        first | refine r_st ty_3 rfl rfl rfl rfl rfl rfl rfl trivial ?_ | refine r_sto ty_3 rfl rfl rfl rfl (by first | rfl | assumption) rfl rfl trivial ?_
        refine reg_nil ?_
        refine awp_region ?_
        refine r_add rfl rfl (rng64 (by first | omega | (simp [strF]; done) | (simp [strF]; omega))) trivial rfl ?_
        refine r_mv rfl trivial rfl ?_
        refine reg_nil ?_
        refine unr_succ ?_
        refine awp_seq ?_
        refine awp_region ?_
        refine r_lss rfl rfl trivial rfl ?_
        refine reg_nil ?_
        refine awp_seq ?_
        refine awp_cond_f rfl ?_
        refine awp_exit ?_
        refine awp_seq ?_
        refine awp_region ?_
        first | refine r_lda ty_37 rfl rfl rfl rfl trivial rfl ?_ | refine r_ldra ty_37 rfl rfl rfl trivial rfl ?_ | refine r_ldoa ty_37 rfl rfl (by first | rfl | assumption) rfl rfl trivial rfl ?_
        first | refine r_st ty_37 rfl rfl rfl rfl rfl rfl rfl trivial ?_ | refine r_sto ty_37 rfl rfl rfl rfl (by first | rfl | assumption) rfl rfl trivial ?_
        refine reg_nil ?_
        refine awp_ret ?_
        refine fin0 (.cons (.agg rfl rfl ty_37 (Nat.le_of_ble_eq_true rfl)) .nil) (.aggf' (l := encEv ⟨1, (atoiV a), 0, 0, false, 0, 0, 0⟩) rfl) ?_
        (rw [eventP, hw]; simp [eventWs, wordL, argV])
      · refine awp_region ?_
        first | refine r_fld fld_37_0 rfl trivial rfl ?_ | refine r_fldr fld_37_0 rfl trivial rfl ?_
        first | refine r_ld ty_3 rfl rfl rfl trivial rfl ?_ | refine r_ldr ty_3 rfl rfl trivial rfl ?_ | refine r_ldo ty_3 rfl rfl (by first | rfl | assumption) rfl trivial rfl ?_
        refine r_eqi rfl rfl trivial rfl ?_
        refine r_mv rfl trivial rfl ?_
        refine r_skip ⟨_, rfl, .inl rfl⟩ rfl ?_
        refine r_skip ⟨_, rfl, .inl rfl⟩ rfl ?_
        refine r_skip ⟨_, rfl, .inl rfl⟩ rfl ?_
        refine r_skip ⟨_, rfl, .inl rfl⟩ rfl ?_
        refine r_skip ⟨_, rfl, .inl rfl⟩ rfl ?_
        refine r_skip ⟨_, rfl, .inl rfl⟩ rfl ?_
        refine r_skip ⟨_, rfl, .inl rfl⟩ rfl ?_
        refine r_pkf rfl rfl trivial rfl ?_
        first | refine r_fld fld_37_4 rfl trivial rfl ?_ | refine r_fldr fld_37_4 rfl trivial rfl ?_
        first | refine r_st ty_4 rfl rfl rfl rfl rfl rfl rfl trivial ?_ | refine r_sto ty_4 rfl rfl rfl rfl (by first | rfl | assumption) rfl rfl trivial ?_
        refine reg_nil ?_
        refine awp_seq ?_
        refine awp_seq ?_
        refine awp_region ?_
        refine r_callh [(0, 1), (1, 2)] 3 2 (nums_2 0 0 0 false 0 0 0) cb_23 rfl rfl rfl ?_ (.cons rfl .nil) rfl rfl rfl rfl trivial rfl ?_
        · (repeat (first | exact .nil | refine .cons .fv ?_ | refine .cons (.aggf' rfl) ?_ | refine .cons .nil ?_ | refine .cons (.ren rfl) ?_))
        first | refine r_lenr sl_58 rfl trivial rfl ?_ | refine r_lenw sl_58 rfl trivial rfl ?_ | refine r_len0 sl_58 rfl trivial rfl ?_
        refine r_mv rfl trivial rfl ?_
        refine reg_nil ?_
        refine awp_block ?_
        refine awp_unroll 3 ?_
        refine unr_succ ?_
        refine awp_seq ?_
        refine awp_region ?_
        refine r_lss rfl rfl trivial rfl ?_
        refine reg_nil ?_
        refine awp_seq ?_
        refine awp_cond_t rfl ?_
        refine awp_skip ?_
        refine awp_seq ?_
        refine awp_block ?_
        refine awp_seq ?_
        refine awp_region ?_
        refine r_mv rfl trivial rfl ?_
        first | refine r_ixr sl_58 ty_53 rfl rfl (by first | omega | (simp; done) | (simp [strF]; omega)) rfl trivial rfl ?_ | refine r_ixw sl_58 ty_53 rfl rfl (by first | omega | (simp; done) | (simp [strF]; omega)) (by first | omega | simp) trivial rfl ?_
        first | refine r_ld ty_53 rfl rfl rfl trivial rfl ?_ | refine r_ldr ty_53 rfl rfl trivial rfl ?_ | refine r_ldo ty_53 rfl rfl (by first | rfl | assumption) rfl trivial rfl ?_
        refine r_as rfl trivial rfl ?_
        refine r_as rfl trivial rfl ?_
        refine reg_nil ?_
        refine awp_seq ?_
        refine awp_region ?_
        refine r_mv rfl trivial rfl ?_
        refine r_add rfl rfl (rng64 (by first | omega | (simp [strF]; done) | (simp [strF]; omega))) trivial rfl ?_
        refine r_mv rfl trivial rfl ?_
        first | refine r_lenr sl_69 rfl trivial rfl ?_ | refine r_lenw sl_69 rfl trivial rfl ?_ | refine r_len0 sl_69 rfl trivial rfl ?_
        refine r_lss rfl rfl trivial rfl ?_
        refine reg_nil ?_
        refine awp_cond_no rfl (by simp [strF]) ?_
        refine awp_skip ?_
        refine awp_region ?_
        refine r_add rfl rfl (rng64 (by first | omega | (simp [strF]; done) | (simp [strF]; omega))) trivial rfl ?_
        refine r_mv rfl trivial rfl ?_
        refine reg_nil ?_
        refine unr_succ ?_
        refine awp_seq ?_
        refine awp_region ?_
        refine r_lss rfl rfl trivial rfl ?_
        refine reg_nil ?_
        refine awp_seq ?_
        refine awp_cond_t rfl ?_
        refine awp_skip ?_
        refine awp_seq ?_
        refine awp_block ?_
        refine awp_seq ?_
        refine awp_region ?_
        refine r_mv rfl trivial rfl ?_
        first | refine r_ixr sl_58 ty_53 rfl rfl (by first | omega | (simp; done) | (simp [strF]; omega)) rfl trivial rfl ?_ | refine r_ixw sl_58 ty_53 rfl rfl (by first | omega | (simp; done) | (simp [strF]; omega)) (by first | omega | simp) trivial rfl ?_
        first | refine r_ld ty_53 rfl rfl rfl trivial rfl ?_ | refine r_ldr ty_53 rfl rfl trivial rfl ?_ | refine r_ldo ty_53 rfl rfl (by first | rfl | assumption) rfl trivial rfl ?_
        refine r_as rfl trivial rfl ?_
        refine r_as rfl trivial rfl ?_
        refine reg_nil ?_
        refine awp_seq ?_
        refine awp_region ?_
        refine r_mv rfl trivial rfl ?_
        refine r_add rfl rfl (rng64 (by first | omega | (simp [strF]; done) | (simp [strF]; omega))) trivial rfl ?_
        refine r_mv rfl trivial rfl ?_
        first | refine r_lenr sl_69 rfl trivial rfl ?_ | refine r_lenw sl_69 rfl trivial rfl ?_ | refine r_len0 sl_69 rfl trivial rfl ?_
        refine r_lss rfl rfl trivial rfl ?_
        refine reg_nil ?_
        refine awp_cond_no rfl (by simp [strF]) ?_
        refine awp_skip ?_
        refine awp_region ?_
        refine r_add rfl rfl (rng64 (by first | omega | (simp [strF]; done) | (simp [strF]; omega))) trivial rfl ?_
        refine r_mv rfl trivial rfl ?_
        refine reg_nil ?_
        refine unr_succ ?_
        refine awp_seq ?_
        refine awp_region ?_
        refine r_lss rfl rfl trivial rfl ?_
        refine reg_nil ?_
        refine awp_seq ?_
        refine awp_cond_f rfl ?_
        refine awp_exit ?_
        refine awp_seq ?_
        refine awp_region ?_
        first | refine r_lda ty_37 rfl rfl rfl rfl trivial rfl ?_ | refine r_ldra ty_37 rfl rfl rfl trivial rfl ?_ | refine r_ldoa ty_37 rfl rfl (by first | rfl | assumption) rfl rfl trivial rfl ?_
        first | refine r_st ty_37 rfl rfl rfl rfl rfl rfl rfl trivial ?_ | refine r_sto ty_37 rfl rfl rfl rfl (by first | rfl | assumption) rfl rfl trivial ?_
        refine reg_nil ?_
        refine awp_ret ?_
        refine fin0 (.cons (.agg rfl rfl ty_37 (Nat.le_of_ble_eq_true rfl)) .nil) (.aggf' (l := encEv ⟨2, 0, 0, 0, false, 0, 0, 0⟩) rfl) ?_
        (rw [eventP, hw]; simp [eventWs, wordL, argV])
      · refine awp_region ?_
        first | refine r_fld fld_37_0 rfl trivial rfl ?_ | refine r_fldr fld_37_0 rfl trivial rfl ?_
        first | refine r_ld ty_3 rfl rfl rfl trivial rfl ?_ | refine r_ldr ty_3 rfl rfl trivial rfl ?_ | refine r_ldo ty_3 rfl rfl (by first | rfl | assumption) rfl trivial rfl ?_
        refine r_eqi rfl rfl trivial rfl ?_
        refine r_mv rfl trivial rfl ?_
        refine r_skip ⟨_, rfl, .inl rfl⟩ rfl ?_
        refine r_skip ⟨_, rfl, .inl rfl⟩ rfl ?_
        refine r_skip ⟨_, rfl, .inl rfl⟩ rfl ?_
        refine r_skip ⟨_, rfl, .inl rfl⟩ rfl ?_
        refine r_skip ⟨_, rfl, .inl rfl⟩ rfl ?_
        refine r_skip ⟨_, rfl, .inl rfl⟩ rfl ?_
        refine r_skip ⟨_, rfl, .inl rfl⟩ rfl ?_
        refine r_pkf rfl rfl trivial rfl ?_
        first | refine r_fld fld_37_4 rfl trivial rfl ?_ | refine r_fldr fld_37_4 rfl trivial rfl ?_
        first | refine r_st ty_4 rfl rfl rfl rfl rfl rfl rfl trivial ?_ | refine r_sto ty_4 rfl rfl rfl rfl (by first | rfl | assumption) rfl rfl trivial ?_
        refine reg_nil ?_
        refine awp_seq ?_
        refine awp_seq ?_
        refine awp_region ?_
        refine r_callh [(0, 1), (1, 2)] 3 2 (nums_2 0 0 0 false 0 0 0) cb_23 rfl rfl rfl ?_ (.cons rfl .nil) rfl rfl rfl rfl trivial rfl ?_
        · (repeat (first | exact .nil | refine .cons .fv ?_ | refine .cons (.aggf' rfl) ?_ | refine .cons .nil ?_ | refine .cons (.ren rfl) ?_))
        first | refine r_lenr sl_58 rfl trivial rfl ?_ | refine r_lenw sl_58 rfl trivial rfl ?_ | refine r_len0 sl_58 rfl trivial rfl ?_
        refine r_mv rfl trivial rfl ?_
        refine reg_nil ?_
        refine awp_block ?_
        refine awp_unroll 3 ?_
        refine unr_succ ?_
        refine awp_seq ?_
        refine awp_region ?_
        refine r_lss rfl rfl trivial rfl ?_
        refine reg_nil ?_
        refine awp_seq ?_
        refine awp_cond_t rfl ?_
        refine awp_skip ?_
        refine awp_seq ?_
        refine awp_block ?_
        refine awp_seq ?_
        refine awp_region ?_
        refine r_mv rfl trivial rfl ?_
        first | refine r_ixr sl_58 ty_53 rfl rfl (by first | omega | (simp; done) | (simp [strF]; omega)) rfl trivial rfl ?_ | refine r_ixw sl_58 ty_53 rfl rfl (by first | omega | (simp; done) | (simp [strF]; omega)) (by first | omega | simp) trivial rfl ?_
        first | refine r_ld ty_53 rfl rfl rfl trivial rfl ?_ | refine r_ldr ty_53 rfl rfl trivial rfl ?_ | refine r_ldo ty_53 rfl rfl (by first | rfl | assumption) rfl trivial rfl ?_
        refine r_as rfl trivial rfl ?_
        refine r_as rfl trivial rfl ?_
        refine reg_nil ?_
        refine awp_seq ?_
        refine awp_region ?_
        refine r_mv rfl trivial rfl ?_
        refine r_add rfl rfl (rng64 (by first | omega | (simp [strF]; done) | (simp [strF]; omega))) trivial rfl ?_
        refine r_mv rfl trivial rfl ?_
        first | refine r_lenr sl_69 rfl trivial rfl ?_ | refine r_lenw sl_69 rfl trivial rfl ?_ | refine r_len0 sl_69 rfl trivial rfl ?_
        refine r_lss rfl rfl trivial rfl ?_
        refine reg_nil ?_
        refine awp_cond_yes rfl (by first | (simp [strF]; done) | (simp [strF]; omega)) ?_
        refine awp_region ?_
        refine r_mv rfl trivial rfl ?_
        refine r_mv rfl trivial rfl ?_
        refine r_mv rfl trivial rfl ?_
        refine r_add rfl rfl (rng64 (by first | omega | (simp [strF]; done) | (simp [strF]; omega))) trivial rfl ?_
        first | refine r_ixr sl_69 ty_9 rfl rfl (by first | omega | (simp; done) | (simp [strF]; omega)) rfl trivial rfl ?_ | refine r_ixw sl_69 ty_9 rfl rfl (by first | omega | (simp; done) | (simp [strF]; omega)) (by first | omega | simp) trivial rfl ?_
        first | refine r_ld ty_9 rfl rfl rfl trivial rfl ?_ | refine r_ldr ty_9 rfl rfl trivial rfl ?_ | refine r_ldo ty_9 rfl rfl (by first | rfl | assumption) rfl trivial rfl ?_
        refine r_call (atoi_ok a (by have := splitSp_le _ a (by rw [hw]; simp); have := trim_len l [10]; omega)) cb_35 rfl rfl rfl ?_ trivial rfl ?_
        · (repeat (first | exact .nil | refine .cons .fv ?_ | refine .cons (.aggf' rfl) ?_ | refine .cons .nil ?_ | refine .cons (.ren rfl) ?_))
        refine r_mv rfl trivial rfl ?_
        refine r_ext rfl rfl trivial rfl ?_
        refine r_ext rfl rfl trivial rfl ?_
        first | refine r_nilck rfl trivial rfl ?_ | refine r_nilckr rfl trivial rfl ?_ | refine r_nilckf rfl trivial rfl ?_
        first | refine r_st ty_3 rfl rfl rfl rfl rfl rfl rfl trivial ?_ | refine r_sto ty_3 rfl rfl rfl rfl (by first | rfl | assumption) rfl rfl trivial ?_
        refine reg_nil ?_
        refine awp_region ?_
        refine r_add rfl rfl (rng64 (by first | omega | (simp [strF]; done) | (simp [strF]; omega))) trivial rfl ?_
        refine r_mv rfl trivial rfl ?_
        refine reg_nil ?_
        refine unr_succ ?_
        refine awp_seq ?_
        refine awp_region ?_
        refine r_lss rfl rfl trivial rfl ?_
        refine reg_nil ?_
        refine awp_seq ?_
        refine awp_cond_t rfl ?_
        refine awp_skip ?_
        refine awp_seq ?_
        refine awp_block ?_
        refine awp_seq ?_
        refine awp_region ?_
        refine r_mv rfl trivial rfl ?_
        first | refine r_ixr sl_58 ty_53 rfl rfl (by first | omega | (simp; done) | (simp [strF]; omega)) rfl trivial rfl ?_ | refine r_ixw sl_58 ty_53 rfl rfl (by first | omega | (simp; done) | (simp [strF]; omega)) (by first | omega | simp) trivial rfl ?_
        first | refine r_ld ty_53 rfl rfl rfl trivial rfl ?_ | refine r_ldr ty_53 rfl rfl trivial rfl ?_ | refine r_ldo ty_53 rfl rfl (by first | rfl | assumption) rfl trivial rfl ?_
        refine r_as rfl trivial rfl ?_
        refine r_as rfl trivial rfl ?_
        refine reg_nil ?_
        refine awp_seq ?_
        refine awp_region ?_
        refine r_mv rfl trivial rfl ?_
        refine r_add rfl rfl (rng64 (by first | omega | (simp [strF]; done) | (simp [strF]; omega))) trivial rfl ?_
        refine r_mv rfl trivial rfl ?_
        first | refine r_lenr sl_69 rfl trivial rfl ?_ | refine r_lenw sl_69 rfl trivial rfl ?_ | refine r_len0 sl_69 rfl trivial rfl ?_
        refine r_lss rfl rfl trivial rfl ?_
        refine reg_nil ?_
        refine awp_cond_no rfl (by simp [strF]) ?_
        refine awp_skip ?_
        refine awp_region ?_
        refine r_add rfl rfl (rng64 (by first | omega | (simp [strF]; done) | (simp [strF]; omega))) trivial rfl ?_
        refine r_mv rfl trivial rfl ?_
        refine reg_nil ?_
        refine unr_succ ?_
        refine awp_seq ?_
        refine awp_region ?_
        refine r_lss rfl rfl trivial rfl ?_
        refine reg_nil ?_
        refine awp_seq ?_
        refine awp_cond_f rfl ?_
        refine awp_exit ?_
        refine awp_seq ?_
        refine awp_region ?_
        first | refine r_lda ty_37 rfl rfl rfl rfl trivial rfl ?_ | refine r_ldra ty_37 rfl rfl rfl trivial rfl ?_ | refine r_ldoa ty_37 rfl rfl (by first | rfl | assumption) rfl rfl trivial rfl ?_
        first | refine r_st ty_37 rfl rfl rfl rfl rfl rfl rfl trivial ?_ | refine r_sto ty_37 rfl rfl rfl rfl (by first | rfl | assumption) rfl rfl trivial ?_
        refine reg_nil ?_
        refine awp_ret ?_
        refine fin0 (.cons (.agg rfl rfl ty_37 (Nat.le_of_ble_eq_true rfl)) .nil) (.aggf' (l := encEv ⟨2, 0, (atoiV a), 0, false, 0, 0, 0⟩) rfl) ?_
        (rw [eventP, hw]; simp [eventWs, wordL, argV])
      · refine awp_region ?_
        first | refine r_fld fld_37_0 rfl trivial rfl ?_ | refine r_fldr fld_37_0 rfl trivial rfl ?_
        first | refine r_ld ty_3 rfl rfl rfl trivial rfl ?_ | refine r_ldr ty_3 rfl rfl trivial rfl ?_ | refine r_ldo ty_3 rfl rfl (by first | rfl | assumption) rfl trivial rfl ?_
        refine r_eqi rfl rfl trivial rfl ?_
        refine r_mv rfl trivial rfl ?_
        refine r_skip ⟨_, rfl, .inl rfl⟩ rfl ?_
        refine r_skip ⟨_, rfl, .inl rfl⟩ rfl ?_
        refine r_skip ⟨_, rfl, .inl rfl⟩ rfl ?_
        refine r_skip ⟨_, rfl, .inl rfl⟩ rfl ?_
        refine r_skip ⟨_, rfl, .inl rfl⟩ rfl ?_
        refine r_skip ⟨_, rfl, .inl rfl⟩ rfl ?_
        refine r_skip ⟨_, rfl, .inl rfl⟩ rfl ?_
        refine r_pkf rfl rfl trivial rfl ?_
        first | refine r_fld fld_37_4 rfl trivial rfl ?_ | refine r_fldr fld_37_4 rfl trivial rfl ?_
        first | refine r_st ty_4 rfl rfl rfl rfl rfl rfl rfl trivial ?_ | refine r_sto ty_4 rfl rfl rfl rfl (by first | rfl | assumption) rfl rfl trivial ?_
        refine reg_nil ?_
        refine awp_seq ?_
        refine awp_seq ?_
        refine awp_region ?_
        refine r_callh [(0, 1), (1, 2)] 3 2 (nums_2 0 0 0 false 0 0 0) cb_23 rfl rfl rfl ?_ (.cons rfl .nil) rfl rfl rfl rfl trivial rfl ?_
        · (repeat (first | exact .nil | refine .cons .fv ?_ | refine .cons (.aggf' rfl) ?_ | refine .cons .nil ?_ | refine .cons (.ren rfl) ?_))
        first | refine r_lenr sl_58 rfl trivial rfl ?_ | refine r_lenw sl_58 rfl trivial rfl ?_ | refine r_len0 sl_58 rfl trivial rfl ?_
        refine r_mv rfl trivial rfl ?_
        refine reg_nil ?_
        refine awp_block ?_
        refine awp_unroll 3 ?_
        refine unr_succ ?_
        refine awp_seq ?_
        refine awp_region ?_
        refine r_lss rfl rfl trivial rfl ?_
        refine reg_nil ?_
        refine awp_seq ?_
        refine awp_cond_t rfl ?_
        refine awp_skip ?_
        refine awp_seq ?_
        refine awp_block ?_
        refine awp_seq ?_
        refine awp_region ?_
        refine r_mv rfl trivial rfl ?_
        first | refine r_ixr sl_58 ty_53 rfl rfl (by first | omega | (simp; done) | (simp [strF]; omega)) rfl trivial rfl ?_ | refine r_ixw sl_58 ty_53 rfl rfl (by first | omega | (simp; done) | (simp [strF]; omega)) (by first | omega | simp) trivial rfl ?_
        first | refine r_ld ty_53 rfl rfl rfl trivial rfl ?_ | refine r_ldr ty_53 rfl rfl trivial rfl ?_ | refine r_ldo ty_53 rfl rfl (by first | rfl | assumption) rfl trivial rfl ?_
        refine r_as rfl trivial rfl ?_
        refine r_as rfl trivial rfl ?_
        refine reg_nil ?_
        refine awp_seq ?_
        refine awp_region ?_
        refine r_mv rfl trivial rfl ?_
        refine r_add rfl rfl (rng64 (by first | omega | (simp [strF]; done) | (simp [strF]; omega))) trivial rfl ?_
        refine r_mv rfl trivial rfl ?_
        first | refine r_lenr sl_69 rfl trivial rfl ?_ | refine r_lenw sl_69 rfl trivial rfl ?_ | refine r_len0 sl_69 rfl trivial rfl ?_
        refine r_lss rfl rfl trivial rfl ?_
        refine reg_nil ?_
        refine awp_cond_yes rfl (by first | (simp [strF]; done) | (simp [strF]; omega)) ?_
        refine awp_region ?_
        refine r_mv rfl trivial rfl ?_
        refine r_mv rfl trivial rfl ?_
        refine r_mv rfl trivial rfl ?_
        refine r_add rfl rfl (rng64 (by first | omega | (simp [strF]; done) | (simp [strF]; omega))) trivial rfl ?_
        first | refine r_ixr sl_69 ty_9 rfl rfl (by first | omega | (simp; done) | (simp [strF]; omega)) rfl trivial rfl ?_ | refine r_ixw sl_69 ty_9 rfl rfl (by first | omega | (simp; done) | (simp [strF]; omega)) (by first | omega | simp) trivial rfl ?_
        first | refine r_ld ty_9 rfl rfl rfl trivial rfl ?_ | refine r_ldr ty_9 rfl rfl trivial rfl ?_ | refine r_ldo ty_9 rfl rfl (by first | rfl | assumption) rfl trivial rfl ?_
        refine r_call (atoi_ok a (by have := splitSp_le _ a (by rw [hw]; simp); have := trim_len l [10]; omega)) cb_35 rfl rfl rfl ?_ trivial rfl ?_
        · (repeat (first | exact .nil | refine .cons .fv ?_ | refine .cons (.aggf' rfl) ?_ | refine .cons .nil ?_ | refine .cons (.ren rfl) ?_))
        refine r_mv rfl trivial rfl ?_
        refine r_ext rfl rfl trivial rfl ?_
        refine r_ext rfl rfl trivial rfl ?_
        first | refine r_nilck rfl trivial rfl ?_ | refine r_nilckr rfl trivial rfl ?_ | refine r_nilckf rfl trivial rfl ?_
        first | refine r_st ty_3 rfl rfl rfl rfl rfl rfl rfl trivial ?_ | refine r_sto ty_3 rfl rfl rfl rfl (by first | rfl | assumption) rfl rfl trivial ?_
        refine reg_nil ?_
        refine awp_region ?_
        refine r_add rfl rfl (rng64 (by first | omega | (simp [strF]; done) | (simp [strF]; omega))) trivial rfl ?_
        refine r_mv rfl trivial rfl ?_
        refine reg_nil ?_
        refine unr_succ ?_
        refine awp_seq ?_
        refine awp_region ?_
        refine r_lss rfl rfl trivial rfl ?_
        refine reg_nil ?_
        refine awp_seq ?_
        refine awp_cond_t rfl ?_
        refine awp_skip ?_
        refine awp_seq ?_
        refine awp_block ?_
        refine awp_seq ?_
        refine awp_region ?_
        refine r_mv rfl trivial rfl ?_
        first | refine r_ixr sl_58 ty_53 rfl rfl (by first | omega | (simp; done) | (simp [strF]; omega)) rfl trivial rfl ?_ | refine r_ixw sl_58 ty_53 rfl rfl (by first | omega | (simp; done) | (simp [strF]; omega)) (by first | omega | simp) trivial rfl ?_
        first | refine r_ld ty_53 rfl rfl rfl trivial rfl ?_ | refine r_ldr ty_53 rfl rfl trivial rfl ?_ | refine r_ldo ty_53 rfl rfl (by first | rfl | assumption) rfl trivial rfl ?_
        refine r_as rfl trivial rfl ?_
        refine r_as rfl trivial rfl ?_
        refine reg_nil ?_
        refine awp_seq ?_
        refine awp_region ?_
        refine r_mv rfl trivial rfl ?_
        refine r_add rfl rfl (rng64 (by first | omega | (simp [strF]; done) | (simp [strF]; omega))) trivial rfl ?_
        refine r_mv rfl trivial rfl ?_
        first | refine r_lenr sl_69 rfl trivial rfl ?_ | refine r_lenw sl_69 rfl trivial rfl ?_ | refine r_len0 sl_69 rfl trivial rfl ?_
        refine r_lss rfl rfl trivial rfl ?_
        refine reg_nil ?_
        refine awp_cond_yes rfl (by first | (simp [strF]; done) | (simp [strF]; omega)) ?_
        refine awp_region ?_
        refine r_mv rfl trivial rfl ?_
        refine r_mv rfl trivial rfl ?_
        refine r_mv rfl trivial rfl ?_
        refine r_add rfl rfl (rng64 (by first | omega | (simp [strF]; done) | (simp [strF]; omega))) trivial rfl ?_
        first | refine r_ixr sl_69 ty_9 rfl rfl (by first | omega | (simp; done) | (simp [strF]; omega)) rfl trivial rfl ?_ | refine r_ixw sl_69 ty_9 rfl rfl (by first | omega | (simp; done) | (simp [strF]; omega)) (by first | omega | simp) trivial rfl ?_
        first | refine r_ld ty_9 rfl rfl rfl trivial rfl ?_ | refine r_ldr ty_9 rfl rfl trivial rfl ?_ | refine r_ldo ty_9 rfl rfl (by first | rfl | assumption) rfl trivial rfl ?_
        refine r_call (atoi_ok b (by have := splitSp_le _ b (by rw [hw]; simp); have := trim_len l [10]; omega)) cb_35 rfl rfl rfl ?_ trivial rfl ?_
        · (repeat (first | exact .nil | refine .cons .fv ?_ | refine .cons (.aggf' rfl) ?_ | refine .cons .nil ?_ | refine .cons (.ren rfl) ?_))
        refine r_mv rfl trivial rfl ?_
        refine r_ext rfl rfl trivial rfl ?_
        refine r_ext rfl rfl trivial rfl ?_
        first | refine r_nilck rfl trivial rfl ?_ | refine r_nilckr rfl trivial rfl ?_ | refine r_nilckf rfl trivial rfl ?_
        first | refine r_st ty_3 rfl rfl rfl rfl rfl rfl rfl trivial ?_ | refine r_sto ty_3 rfl rfl rfl rfl (by first | rfl | assumption) rfl rfl trivial ?_
        refine reg_nil ?_
        refine awp_region ?_
        refine r_add rfl rfl (rng64 (by first | omega | (simp [strF]; done) | (simp [strF]; omega))) trivial rfl ?_
        refine r_mv rfl trivial rfl ?_
        refine reg_nil ?_
        refine unr_succ ?_
        refine awp_seq ?_
        refine awp_region ?_
        refine r_lss rfl rfl trivial rfl ?_
        refine reg_nil ?_
        refine awp_seq ?_
        refine awp_cond_f rfl ?_
        refine awp_exit ?_
        refine awp_seq ?_
        refine awp_region ?_
        first | refine r_lda ty_37 rfl rfl rfl rfl trivial rfl ?_ | refine r_ldra ty_37 rfl rfl rfl trivial rfl ?_ | refine r_ldoa ty_37 rfl rfl (by first | rfl | assumption) rfl rfl trivial rfl ?_
        first | refine r_st ty_37 rfl rfl rfl rfl rfl rfl rfl trivial ?_ | refine r_sto ty_37 rfl rfl rfl rfl (by first | rfl | assumption) rfl rfl trivial ?_
        refine reg_nil ?_
        refine awp_ret ?_
        refine fin0 (.cons (.agg rfl rfl ty_37 (Nat.le_of_ble_eq_true rfl)) .nil) (.aggf' (l := encEv ⟨2, 0, (atoiV a), (atoiV b), false, 0, 0, 0⟩) rfl) ?_
        (rw [eventP, hw]; simp [eventWs, wordL, argV])
      · refine awp_region ?_
        first | refine r_fld fld_37_0 rfl trivial rfl ?_ | refine r_fldr fld_37_0 rfl trivial rfl ?_
        first | refine r_ld ty_3 rfl rfl rfl trivial rfl ?_ | refine r_ldr ty_3 rfl rfl trivial rfl ?_ | refine r_ldo ty_3 rfl rfl (by first | rfl | assumption) rfl trivial rfl ?_
        refine r_eqi rfl rfl trivial rfl ?_
        refine r_mv rfl trivial rfl ?_
        refine r_skip ⟨_, rfl, .inl rfl⟩ rfl ?_
        refine r_skip ⟨_, rfl, .inl rfl⟩ rfl ?_
        refine r_skip ⟨_, rfl, .inl rfl⟩ rfl ?_
        refine r_skip ⟨_, rfl, .inl rfl⟩ rfl ?_
        refine r_skip ⟨_, rfl, .inl rfl⟩ rfl ?_
        refine r_skip ⟨_, rfl, .inl rfl⟩ rfl ?_
        refine r_skip ⟨_, rfl, .inl rfl⟩ rfl ?_
        refine r_pkf rfl rfl trivial rfl ?_
        first | refine r_fld fld_37_4 rfl trivial rfl ?_ | refine r_fldr fld_37_4 rfl trivial rfl ?_
        first | refine r_st ty_4 rfl rfl rfl rfl rfl rfl rfl trivial ?_ | refine r_sto ty_4 rfl rfl rfl rfl (by first | rfl | assumption) rfl rfl trivial ?_
        refine reg_nil ?_
        refine awp_seq ?_
        refine awp_seq ?_
        refine awp_region ?_
        refine r_callh [(0, 1), (1, 2)] 3 2 (nums_3 0 0 0 false 0 0 0) cb_23 rfl rfl rfl ?_ (.cons rfl .nil) rfl rfl rfl rfl trivial rfl ?_
        · (repeat (first | exact .nil | refine .cons .fv ?_ | refine .cons (.aggf' rfl) ?_ | refine .cons .nil ?_ | refine .cons (.ren rfl) ?_))
        first | refine r_lenr sl_58 rfl trivial rfl ?_ | refine r_lenw sl_58 rfl trivial rfl ?_ | refine r_len0 sl_58 rfl trivial rfl ?_
        refine r_mv rfl trivial rfl ?_
        refine reg_nil ?_
        refine awp_block ?_
        refine awp_unroll 3 ?_
        refine unr_succ ?_
        refine awp_seq ?_
        refine awp_region ?_
        refine r_lss rfl rfl trivial rfl ?_
        refine reg_nil ?_
        refine awp_seq ?_
        refine awp_cond_t rfl ?_
        refine awp_skip ?_
        refine awp_seq ?_
        refine awp_block ?_
        refine awp_seq ?_
        refine awp_region ?_
        refine r_mv rfl trivial rfl ?_
        first | refine r_ixr sl_58 ty_53 rfl rfl (by first | omega | (simp; done) | (simp [strF]; omega)) rfl trivial rfl ?_ | refine r_ixw sl_58 ty_53 rfl rfl (by first | omega | (simp; done) | (simp [strF]; omega)) (by first | omega | simp) trivial rfl ?_
        first | refine r_ld ty_53 rfl rfl rfl trivial rfl ?_ | refine r_ldr ty_53 rfl rfl trivial rfl ?_ | refine r_ldo ty_53 rfl rfl (by first | rfl | assumption) rfl trivial rfl ?_
        refine r_as rfl trivial rfl ?_
        refine r_as rfl trivial rfl ?_
        refine reg_nil ?_
        refine awp_seq ?_
        refine awp_region ?_
        refine r_mv rfl trivial rfl ?_
        refine r_add rfl rfl (rng64 (by first | omega | (simp [strF]; done) | (simp [strF]; omega))) trivial rfl ?_
        refine r_mv rfl trivial rfl ?_
        first | refine r_lenr sl_69 rfl trivial rfl ?_ | refine r_lenw sl_69 rfl trivial rfl ?_ | refine r_len0 sl_69 rfl trivial rfl ?_
        refine r_lss rfl rfl trivial rfl ?_
        refine reg_nil ?_
        refine awp_cond_no rfl (by simp [strF]) ?_
        refine awp_skip ?_
        refine awp_region ?_
        refine r_add rfl rfl (rng64 (by first | omega | (simp [strF]; done) | (simp [strF]; omega))) trivial rfl ?_
        refine r_mv rfl trivial rfl ?_
        refine reg_nil ?_
        refine unr_succ ?_
        refine awp_seq ?_
        refine awp_region ?_
        refine r_lss rfl rfl trivial rfl ?_
        refine reg_nil ?_
        refine awp_seq ?_
        refine awp_cond_t rfl ?_
        refine awp_skip ?_
        refine awp_seq ?_
        refine awp_block ?_
        refine awp_seq ?_
        refine awp_region ?_
        refine r_mv rfl trivial rfl ?_
        first | refine r_ixr sl_58 ty_53 rfl rfl (by first | omega | (simp; done) | (simp [strF]; omega)) rfl trivial rfl ?_ | refine r_ixw sl_58 ty_53 rfl rfl (by first | omega | (simp; done) | (simp [strF]; omega)) (by first | omega | simp) trivial rfl ?_
        first | refine r_ld ty_53 rfl rfl rfl trivial rfl ?_ | refine r_ldr ty_53 rfl rfl trivial rfl ?_ | refine r_ldo ty_53 rfl rfl (by first | rfl | assumption) rfl trivial rfl ?_
        refine r_as rfl trivial rfl ?_
        refine r_as rfl trivial rfl ?_
        refine reg_nil ?_
        refine awp_seq ?_
        refine awp_region ?_
        refine r_mv rfl trivial rfl ?_
        refine r_add rfl rfl (rng64 (by first | omega | (simp [strF]; done) | (simp [strF]; omega))) trivial rfl ?_
        refine r_mv rfl trivial rfl ?_
        first | refine r_lenr sl_69 rfl trivial rfl ?_ | refine r_lenw sl_69 rfl trivial rfl ?_ | refine r_len0 sl_69 rfl trivial rfl ?_
        refine r_lss rfl rfl trivial rfl ?_
        refine reg_nil ?_
        refine awp_cond_no rfl (by simp [strF]) ?_
        refine awp_skip ?_
        refine awp_region ?_
        refine r_add rfl rfl (rng64 (by first | omega | (simp [strF]; done) | (simp [strF]; omega))) trivial rfl ?_
        refine r_mv rfl trivial rfl ?_
        refine reg_nil ?_
        refine unr_succ ?_
        refine awp_seq ?_
        refine awp_region ?_
        refine r_lss rfl rfl trivial rfl ?_
        refine reg_nil ?_
        refine awp_seq ?_
        refine awp_cond_f rfl ?_
        refine awp_exit ?_
        refine awp_seq ?_
        refine awp_region ?_
        first | refine r_lda ty_37 rfl rfl rfl rfl trivial rfl ?_ | refine r_ldra ty_37 rfl rfl rfl trivial rfl ?_ | refine r_ldoa ty_37 rfl rfl (by first | rfl | assumption) rfl rfl trivial rfl ?_
        first | refine r_st ty_37 rfl rfl rfl rfl rfl rfl rfl trivial ?_ | refine r_sto ty_37 rfl rfl rfl rfl (by first | rfl | assumption) rfl rfl trivial ?_
        refine reg_nil ?_
        refine awp_ret ?_
        refine fin0 (.cons (.agg rfl rfl ty_37 (Nat.le_of_ble_eq_true rfl)) .nil) (.aggf' (l := encEv ⟨3, 0, 0, 0, false, 0, 0, 0⟩) rfl) ?_
        (rw [eventP, hw]; simp [eventWs, wordL, argV])
      · refine awp_region ?_
        first | refine r_fld fld_37_0 rfl trivial rfl ?_ | refine r_fldr fld_37_0 rfl trivial rfl ?_
        first | refine r_ld ty_3 rfl rfl rfl trivial rfl ?_ | refine r_ldr ty_3 rfl rfl trivial rfl ?_ | refine r_ldo ty_3 rfl rfl (by first | rfl | assumption) rfl trivial rfl ?_
        refine r_eqi rfl rfl trivial rfl ?_
        refine r_mv rfl trivial rfl ?_
        refine r_skip ⟨_, rfl, .inl rfl⟩ rfl ?_
        refine r_skip ⟨_, rfl, .inl rfl⟩ rfl ?_
        refine r_skip ⟨_, rfl, .inl rfl⟩ rfl ?_
        refine r_skip ⟨_, rfl, .inl rfl⟩ rfl ?_
        refine r_skip ⟨_, rfl, .inl rfl⟩ rfl ?_
        refine r_skip ⟨_, rfl, .inl rfl⟩ rfl ?_
        refine r_skip ⟨_, rfl, .inl rfl⟩ rfl ?_
        refine r_pkf rfl rfl trivial rfl ?_
        first | refine r_fld fld_37_4 rfl trivial rfl ?_ | refine r_fldr fld_37_4 rfl trivial rfl ?_
        first | refine r_st ty_4 rfl rfl rfl rfl rfl rfl rfl trivial ?_ | refine r_sto ty_4 rfl rfl rfl rfl (by first | rfl | assumption) rfl rfl trivial ?_
        refine reg_nil ?_
        refine awp_seq ?_
        refine awp_seq ?_
        refine awp_region ?_
        refine r_callh [(0, 1), (1, 2)] 3 2 (nums_3 0 0 0 false 0 0 0) cb_23 rfl rfl rfl ?_ (.cons rfl .nil) rfl rfl rfl rfl trivial rfl ?_
        · (repeat (first | exact .nil | refine .cons .fv ?_ | refine .cons (.aggf' rfl) ?_ | refine .cons .nil ?_ | refine .cons (.ren rfl) ?_))
        first | refine r_lenr sl_58 rfl trivial rfl ?_ | refine r_lenw sl_58 rfl trivial rfl ?_ | refine r_len0 sl_58 rfl trivial rfl ?_
        refine r_mv rfl trivial rfl ?_
        refine reg_nil ?_
        refine awp_block ?_
        refine awp_unroll 3 ?_
        refine unr_succ ?_
        refine awp_seq ?_
        refine awp_region ?_
        refine r_lss rfl rfl trivial rfl ?_
        refine reg_nil ?_
        refine awp_seq ?_
        refine awp_cond_t rfl ?_
        refine awp_skip ?_
        refine awp_seq ?_
        refine awp_block ?_
        refine awp_seq ?_
        refine awp_region ?_
        refine r_mv rfl trivial rfl ?_
        first | refine r_ixr sl_58 ty_53 rfl rfl (by first | omega | (simp; done) | (simp [strF]; omega)) rfl trivial rfl ?_ | refine r_ixw sl_58 ty_53 rfl rfl (by first | omega | (simp; done) | (simp [strF]; omega)) (by first | omega | simp) trivial rfl ?_
        first | refine r_ld ty_53 rfl rfl rfl trivial rfl ?_ | refine r_ldr ty_53 rfl rfl trivial rfl ?_ | refine r_ldo ty_53 rfl rfl (by first | rfl | assumption) rfl trivial rfl ?_
        refine r_as rfl trivial rfl ?_
        refine r_as rfl trivial rfl ?_
        refine reg_nil ?_
        refine awp_seq ?_
        refine awp_region ?_
        refine r_mv rfl trivial rfl ?_
        refine r_add rfl rfl (rng64 (by first | omega | (simp [strF]; done) | (simp [strF]; omega))) trivial rfl ?_
        refine r_mv rfl trivial rfl ?_
        first | refine r_lenr sl_69 rfl trivial rfl ?_ | refine r_lenw sl_69 rfl trivial rfl ?_ | refine r_len0 sl_69 rfl trivial rfl ?_
        refine r_lss rfl rfl trivial rfl ?_
        refine reg_nil ?_
        refine awp_cond_yes rfl (by first | (simp [strF]; done) | (simp [strF]; omega)) ?_
        refine awp_region ?_
        refine r_mv rfl trivial rfl ?_
        refine r_mv rfl trivial rfl ?_
        refine r_mv rfl trivial rfl ?_
        refine r_add rfl rfl (rng64 (by first | omega | (simp [strF]; done) | (simp [strF]; omega))) trivial rfl ?_
        first | refine r_ixr sl_69 ty_9 rfl rfl (by first | omega | (simp; done) | (simp [strF]; omega)) rfl trivial rfl ?_ | refine r_ixw sl_69 ty_9 rfl rfl (by first | omega | (simp; done) | (simp [strF]; omega)) (by first | omega | simp) trivial rfl ?_
        first | refine r_ld ty_9 rfl rfl rfl trivial rfl ?_ | refine r_ldr ty_9 rfl rfl trivial rfl ?_ | refine r_ldo ty_9 rfl rfl (by first | rfl | assumption) rfl trivial rfl ?_
        refine r_call (atoi_ok a (by have := splitSp_le _ a (by rw [hw]; simp); have := trim_len l [10]; omega)) cb_35 rfl rfl rfl ?_ trivial rfl ?_
        · (repeat (first | exact .nil | refine .cons .fv ?_ | refine .cons (.aggf' rfl) ?_ | refine .cons .nil ?_ | refine .cons (.ren rfl) ?_))
        refine r_mv rfl trivial rfl ?_
        refine r_ext rfl rfl trivial rfl ?_
        refine r_ext rfl rfl trivial rfl ?_
        first | refine r_nilck rfl trivial rfl ?_ | refine r_nilckr rfl trivial rfl ?_ | refine r_nilckf rfl trivial rfl ?_
        first | refine r_st ty_3 rfl rfl rfl rfl rfl rfl rfl trivial ?_ | refine r_sto ty_3 rfl rfl rfl rfl (by first | rfl | assumption) rfl rfl trivial ?_
        refine reg_nil ?_
        refine awp_region ?_
        refine r_add rfl rfl (rng64 (by first | omega | (simp [strF]; done) | (simp [strF]; omega))) trivial rfl ?_
        refine r_mv rfl trivial rfl ?_
        refine reg_nil ?_
        refine unr_succ ?_
        refine awp_seq ?_
        refine awp_region ?_
        refine r_lss rfl rfl trivial rfl ?_
        refine reg_nil ?_
        refine awp_seq ?_
        refine awp_cond_t rfl ?_
        refine awp_skip ?_
        refine awp_seq ?_
        refine awp_block ?_
        refine awp_seq ?_
        refine awp_region ?_
        refine r_mv rfl trivial rfl ?_
        first | refine r_ixr sl_58 ty_53 rfl rfl (by first | omega | (simp; done) | (simp [strF]; omega)) rfl trivial rfl ?_ | refine r_ixw sl_58 ty_53 rfl rfl (by first | omega | (simp; done) | (simp [strF]; omega)) (by first | omega | simp) trivial rfl ?_
        first | refine r_ld ty_53 rfl rfl rfl trivial rfl ?_ | refine r_ldr ty_53 rfl rfl trivial rfl ?_ | refine r_ldo ty_53 rfl rfl (by first | rfl | assumption) rfl trivial rfl ?_
        refine r_as rfl trivial rfl ?_
        refine r_as rfl trivial rfl ?_
        refine reg_nil ?_
        refine awp_seq ?_
        refine awp_region ?_
        refine r_mv rfl trivial rfl ?_
        refine r_add rfl rfl (rng64 (by first | omega | (simp [strF]; done) | (simp [strF]; omega))) trivial rfl ?_
        refine r_mv rfl trivial rfl ?_
        first | refine r_lenr sl_69 rfl trivial rfl ?_ | refine r_lenw sl_69 rfl trivial rfl ?_ | refine r_len0 sl_69 rfl trivial rfl ?_
        refine r_lss rfl rfl trivial rfl ?_
        refine reg_nil ?_
        refine awp_cond_no rfl (by simp [strF]) ?_
        refine awp_skip ?_
        refine awp_region ?_
        refine r_add rfl rfl (rng64 (by first | omega | (simp [strF]; done) | (simp [strF]; omega))) trivial rfl ?_
        refine r_mv rfl trivial rfl ?_
        refine reg_nil ?_
        refine unr_succ ?_
        refine awp_seq ?_
        refine awp_region ?_
        refine r_lss rfl rfl trivial rfl ?_
        refine reg_nil ?_
        refine awp_seq ?_
        refine awp_cond_f rfl ?_
        refine awp_exit ?_
        refine awp_seq ?_
        refine awp_region ?_
        first | refine r_lda ty_37 rfl rfl rfl rfl trivial rfl ?_ | refine r_ldra ty_37 rfl rfl rfl trivial rfl ?_ | refine r_ldoa ty_37 rfl rfl (by first | rfl | assumption) rfl rfl trivial rfl ?_
        first | refine r_st ty_37 rfl rfl rfl rfl rfl rfl rfl trivial ?_ | refine r_sto ty_37 rfl rfl rfl rfl (by first | rfl | assumption) rfl rfl trivial ?_
        refine reg_nil ?_
        refine awp_ret ?_
        refine fin0 (.cons (.agg rfl rfl ty_37 (Nat.le_of_ble_eq_true rfl)) .nil) (.aggf' (l := encEv ⟨3, 0, (atoiV a), 0, false, 0, 0, 0⟩) rfl) ?_
        (rw [eventP, hw]; simp [eventWs, wordL, argV])
      · refine awp_region ?_
        first | refine r_fld fld_37_0 rfl trivial rfl ?_ | refine r_fldr fld_37_0 rfl trivial rfl ?_
        first | refine r_ld ty_3 rfl rfl rfl trivial rfl ?_ | refine r_ldr ty_3 rfl rfl trivial rfl ?_ | refine r_ldo ty_3 rfl rfl (by first | rfl | assumption) rfl trivial rfl ?_
        refine r_eqi rfl rfl trivial rfl ?_
        refine r_mv rfl trivial rfl ?_
        refine r_skip ⟨_, rfl, .inl rfl⟩ rfl ?_
        refine r_skip ⟨_, rfl, .inl rfl⟩ rfl ?_
        refine r_skip ⟨_, rfl, .inl rfl⟩ rfl ?_
        refine r_skip ⟨_, rfl, .inl rfl⟩ rfl ?_
        refine r_skip ⟨_, rfl, .inl rfl⟩ rfl ?_
        refine r_skip ⟨_, rfl, .inl rfl⟩ rfl ?_
        refine r_skip ⟨_, rfl, .inl rfl⟩ rfl ?_
        refine r_pkf rfl rfl trivial rfl ?_
        first | refine r_fld fld_37_4 rfl trivial rfl ?_ | refine r_fldr fld_37_4 rfl trivial rfl ?_
        first | refine r_st ty_4 rfl rfl rfl rfl rfl rfl rfl trivial ?_ | refine r_sto ty_4 rfl rfl rfl rfl (by first | rfl | assumption) rfl rfl trivial ?_
        refine reg_nil ?_
        refine awp_seq ?_
        refine awp_seq ?_
        refine awp_region ?_
        refine r_callh [(0, 1), (1, 2)] 3 2 (nums_3 0 0 0 false 0 0 0) cb_23 rfl rfl rfl ?_ (.cons rfl .nil) rfl rfl rfl rfl trivial rfl ?_
        · (repeat (first | exact .nil | refine .cons .fv ?_ | refine .cons (.aggf' rfl) ?_ | refine .cons .nil ?_ | refine .cons (.ren rfl) ?_))
        first | refine r_lenr sl_58 rfl trivial rfl ?_ | refine r_lenw sl_58 rfl trivial rfl ?_ | refine r_len0 sl_58 rfl trivial rfl ?_
        refine r_mv rfl trivial rfl ?_
        refine reg_nil ?_
        refine awp_block ?_
        refine awp_unroll 3 ?_
        refine unr_succ ?_
        refine awp_seq ?_
        refine awp_region ?_
        refine r_lss rfl rfl trivial rfl ?_
        refine reg_nil ?_
        refine awp_seq ?_
        refine awp_cond_t rfl ?_
        refine awp_skip ?_
        refine awp_seq ?_
        refine awp_block ?_
        refine awp_seq ?_
        refine awp_region ?_
        refine r_mv rfl trivial rfl ?_
        first | refine r_ixr sl_58 ty_53 rfl rfl (by first | omega | (simp; done) | (simp [strF]; omega)) rfl trivial rfl ?_ | refine r_ixw sl_58 ty_53 rfl rfl (by first | omega | (simp; done) | (simp [strF]; omega)) (by first | omega | simp) trivial rfl ?_
        first | refine r_ld ty_53 rfl rfl rfl trivial rfl ?_ | refine r_ldr ty_53 rfl rfl trivial rfl ?_ | refine r_ldo ty_53 rfl rfl (by first | rfl | assumption) rfl trivial rfl ?_
        refine r_as rfl trivial rfl ?_
        refine r_as rfl trivial rfl ?_
        refine reg_nil ?_
        refine awp_seq ?_
        refine awp_region ?_
        refine r_mv rfl trivial rfl ?_
        refine r_add rfl rfl (rng64 (by first | omega | (simp [strF]; done) | (simp [strF]; omega))) trivial rfl ?_
        refine r_mv rfl trivial rfl ?_
        first | refine r_lenr sl_69 rfl trivial rfl ?_ | refine r_lenw sl_69 rfl trivial rfl ?_ | refine r_len0 sl_69 rfl trivial rfl ?_
        refine r_lss rfl rfl trivial rfl ?_
        refine reg_nil ?_
        refine awp_cond_yes rfl (by first | (simp [strF]; done) | (simp [strF]; omega)) ?_
        refine awp_region ?_
        refine r_mv rfl trivial rfl ?_
        refine r_mv rfl trivial rfl ?_
        refine r_mv rfl trivial rfl ?_
        refine r_add rfl rfl (rng64 (by first | omega | (simp [strF]; done) | (simp [strF]; omega))) trivial rfl ?_
        first | refine r_ixr sl_69 ty_9 rfl rfl (by first | omega | (simp; done) | (simp [strF]; omega)) rfl trivial rfl ?_ | refine r_ixw sl_69 ty_9 rfl rfl (by first | omega | (simp; done) | (simp [strF]; omega)) (by first | omega | simp) trivial rfl ?_
        first | refine r_ld ty_9 rfl rfl rfl trivial rfl ?_ | refine r_ldr ty_9 rfl rfl trivial rfl ?_ | refine r_ldo ty_9 rfl rfl (by first | rfl | assumption) rfl trivial rfl ?_
        refine r_call (atoi_ok a (by have := splitSp_le _ a (by rw [hw]; simp); have := trim_len l [10]; omega)) cb_35 rfl rfl rfl ?_ trivial rfl ?_
        · (repeat (first | exact .nil | refine .cons .fv ?_ | refine .cons (.aggf' rfl) ?_ | refine .cons .nil ?_ | refine .cons (.ren rfl) ?_))
        refine r_mv rfl trivial rfl ?_
        refine r_ext rfl rfl trivial rfl ?_
        refine r_ext rfl rfl trivial rfl ?_
        first | refine r_nilck rfl trivial rfl ?_ | refine r_nilckr rfl trivial rfl ?_ | refine r_nilckf rfl trivial rfl ?_
        first | refine r_st ty_3 rfl rfl rfl rfl rfl rfl rfl trivial ?_ | refine r_sto ty_3 rfl rfl rfl rfl (by first | rfl | assumption) rfl rfl trivial ?_
        refine reg_nil ?_
        refine awp_region ?_
        refine r_add rfl rfl (rng64 (by first | omega | (simp [strF]; done) | (simp [strF]; omega))) trivial rfl ?_
        refine r_mv rfl trivial rfl ?_
        refine reg_nil ?_
        refine unr_succ ?_
        refine awp_seq ?_
        refine awp_region ?_
        refine r_lss rfl rfl trivial rfl ?_
        refine reg_nil ?_
        refine awp_seq ?_
        refine awp_cond_t rfl ?_
        refine awp_skip ?_
        refine awp_seq ?_
        refine awp_block ?_
        refine awp_seq ?_
        refine awp_region ?_
        refine r_mv rfl trivial rfl ?_
        first | refine r_ixr sl_58 ty_53 rfl rfl (by first | omega | (simp; done) | (simp [strF]; omega)) rfl trivial rfl ?_ | refine r_ixw sl_58 ty_53 rfl rfl (by first | omega | (simp; done) | (simp [strF]; omega)) (by first | omega | simp) trivial rfl ?_
        first | refine r_ld ty_53 rfl rfl rfl trivial rfl ?_ | refine r_ldr ty_53 rfl rfl trivial rfl ?_ | refine r_ldo ty_53 rfl rfl (by first | rfl | assumption) rfl trivial rfl ?_
        refine r_as rfl trivial rfl ?_
        refine r_as rfl trivial rfl ?_
        refine reg_nil ?_
        refine awp_seq ?_
        refine awp_region ?_
        refine r_mv rfl trivial rfl ?_
        refine r_add rfl rfl (rng64 (by first | omega | (simp [strF]; done) | (simp [strF]; omega))) trivial rfl ?_
        refine r_mv rfl trivial rfl ?_
        first | refine r_lenr sl_69 rfl trivial rfl ?_ | refine r_lenw sl_69 rfl trivial rfl ?_ | refine r_len0 sl_69 rfl trivial rfl ?_
        refine r_lss rfl rfl trivial rfl ?_
        refine reg_nil ?_
        refine awp_cond_yes rfl (by first | (simp [strF]; done) | (simp [strF]; omega)) ?_
        refine awp_region ?_
        refine r_mv rfl trivial rfl ?_
        refine r_mv rfl trivial rfl ?_
        refine r_mv rfl trivial rfl ?_
        refine r_add rfl rfl (rng64 (by first | omega | (simp [strF]; done) | (simp [strF]; omega))) trivial rfl ?_
        first | refine r_ixr sl_69 ty_9 rfl rfl (by first | omega | (simp; done) | (simp [strF]; omega)) rfl trivial rfl ?_ | refine r_ixw sl_69 ty_9 rfl rfl (by first | omega | (simp; done) | (simp [strF]; omega)) (by first | omega | simp) trivial rfl ?_
        first | refine r_ld ty_9 rfl rfl rfl trivial rfl ?_ | refine r_ldr ty_9 rfl rfl trivial rfl ?_ | refine r_ldo ty_9 rfl rfl (by first | rfl | assumption) rfl trivial rfl ?_
        refine r_call (atoi_ok b (by have := splitSp_le _ b (by rw [hw]; simp); have := trim_len l [10]; omega)) cb_35 rfl rfl rfl ?_ trivial rfl ?_
        · (repeat (first | exact .nil | refine .cons .fv ?_ | refine .cons (.aggf' rfl) ?_ | refine .cons .nil ?_ | refine .cons (.ren rfl) ?_))
        refine r_mv rfl trivial rfl ?_
        refine r_ext rfl rfl trivial rfl ?_
        refine r_ext rfl rfl trivial rfl ?_
        first | refine r_nilck rfl trivial rfl ?_ | refine r_nilckr rfl trivial rfl ?_ | refine r_nilckf rfl trivial rfl ?_
        first | refine r_st ty_3 rfl rfl rfl rfl rfl rfl rfl trivial ?_ | refine r_sto ty_3 rfl rfl rfl rfl (by first | rfl | assumption) rfl rfl trivial ?_
        refine reg_nil ?_
        refine awp_region ?_
        refine r_add rfl rfl (rng64 (by first | omega | (simp [strF]; done) | (simp [strF]; omega))) trivial rfl ?_
        refine r_mv rfl trivial rfl ?_
        refine reg_nil ?_
        refine unr_succ ?_
        refine awp_seq ?_
        refine awp_region ?_
        refine r_lss rfl rfl trivial rfl ?_
        refine reg_nil ?_
        refine awp_seq ?_
        refine awp_cond_f rfl ?_
        refine awp_exit ?_
        refine awp_seq ?_
        refine awp_region ?_
        first | refine r_lda ty_37 rfl rfl rfl rfl trivial rfl ?_ | refine r_ldra ty_37 rfl rfl rfl trivial rfl ?_ | refine r_ldoa ty_37 rfl rfl (by first | rfl | assumption) rfl rfl trivial rfl ?_
        first | refine r_st ty_37 rfl rfl rfl rfl rfl rfl rfl trivial ?_ | refine r_sto ty_37 rfl rfl rfl rfl (by first | rfl | assumption) rfl rfl trivial ?_
        refine reg_nil ?_
        refine awp_ret ?_
        refine fin0 (.cons (.agg rfl rfl ty_37 (Nat.le_of_ble_eq_true rfl)) .nil) (.aggf' (l := encEv ⟨3, 0, (atoiV a), (atoiV b), false, 0, 0, 0⟩) rfl) ?_
        (rw [eventP, hw]; simp [eventWs, wordL, argV])
      · have hcn : (strF ([97, 110, 115, 119, 101, 114] :: [])).length ≤ 200001 := (by rw [strF_len, ← hw]; have := (splitSp_cnt (Lib.trimSuffix l [10])).1; have := trim_len l [10]; omega)
        have hc1 : 1 ≤ (strF ([97, 110, 115, 119, 101, 114] :: [])).length := by simp [strF]
        refine awp_region ?_
        first | refine r_fld fld_37_0 rfl trivial rfl ?_ | refine r_fldr fld_37_0 rfl trivial rfl ?_
        first | refine r_ld ty_3 rfl rfl rfl trivial rfl ?_ | refine r_ldr ty_3 rfl rfl trivial rfl ?_ | refine r_ldo ty_3 rfl rfl (by first | rfl | assumption) rfl trivial rfl ?_
        refine r_eqi rfl rfl trivial rfl ?_
        refine r_mv rfl trivial rfl ?_
        refine r_mv rfl ⟨_, rfl, rfl⟩ rfl ?_
        refine r_mv rfl ⟨_, rfl, rfl⟩ rfl ?_
        first | refine r_lenr sl_69 rfl ⟨_, rfl, rfl⟩ rfl ?_ | refine r_lenw sl_69 rfl ⟨_, rfl, rfl⟩ rfl ?_ | refine r_len0 sl_69 rfl ⟨_, rfl, rfl⟩ rfl ?_
        refine r_sub rfl rfl (rng64 (by first | omega | (simp [strF]; done) | (simp [strF]; omega))) ⟨_, rfl, rfl⟩ rfl ?_
        first | refine r_ixr sl_69 ty_9 rfl rfl (by first | omega | (simp; done) | (simp [strF]; omega)) rfl ⟨_, rfl, rfl⟩ rfl ?_ | refine r_ixw sl_69 ty_9 rfl rfl (by first | omega | (simp; done) | (simp [strF]; omega)) (by first | omega | simp) ⟨_, rfl, rfl⟩ rfl ?_
        first | refine r_ld ty_9 rfl rfl rfl ⟨_, rfl, rfl⟩ rfl ?_ | refine r_ldr ty_9 rfl rfl ⟨_, rfl, rfl⟩ rfl ?_ | refine r_ldo ty_9 rfl rfl (by first | rfl | assumption) rfl ⟨_, rfl, rfl⟩ rfl ?_
        refine r_eqstr rfl rfl ⟨_, rfl, rfl⟩ rfl ?_
        refine r_pkt rfl rfl trivial rfl ?_
        first | refine r_fld fld_37_4 rfl trivial rfl ?_ | refine r_fldr fld_37_4 rfl trivial rfl ?_
        first | refine r_st ty_4 rfl rfl rfl rfl rfl rfl rfl trivial ?_ | refine r_sto ty_4 rfl rfl rfl rfl (by first | rfl | assumption) rfl rfl trivial ?_
        refine reg_nil ?_
        refine awp_seq ?_
        refine awp_seq ?_
        refine awp_region ?_
        refine r_callh [(0, 1), (1, 2)] 3 2 (nums_4 0 0 0 (decide (([97, 110, 115, 119, 101, 114] : List UInt8) = [103, 111, 111, 100])) 0 0 0) cb_23 rfl rfl rfl ?_ (.cons rfl .nil) rfl rfl rfl rfl trivial rfl ?_
        · (repeat (first | exact .nil | refine .cons .fv ?_ | refine .cons (.aggf' rfl) ?_ | refine .cons .nil ?_ | refine .cons (.ren rfl) ?_))
        first | refine r_lenr sl_58 rfl trivial rfl ?_ | refine r_lenw sl_58 rfl trivial rfl ?_ | refine r_len0 sl_58 rfl trivial rfl ?_
        refine r_mv rfl trivial rfl ?_
        refine reg_nil ?_
        refine awp_block ?_
        refine awp_unroll 3 ?_
        refine unr_succ ?_
        refine awp_seq ?_
        refine awp_region ?_
        refine r_lss rfl rfl trivial rfl ?_
        refine reg_nil ?_
        refine awp_seq ?_
        refine awp_cond_t rfl ?_
        refine awp_skip ?_
        refine awp_seq ?_
        refine awp_block ?_
        refine awp_seq ?_
        refine awp_region ?_
        refine r_mv rfl trivial rfl ?_
        first | refine r_ixr sl_58 ty_53 rfl rfl (by first | omega | (simp; done) | (simp [strF]; omega)) rfl trivial rfl ?_ | refine r_ixw sl_58 ty_53 rfl rfl (by first | omega | (simp; done) | (simp [strF]; omega)) (by first | omega | simp) trivial rfl ?_
        first | refine r_ld ty_53 rfl rfl rfl trivial rfl ?_ | refine r_ldr ty_53 rfl rfl trivial rfl ?_ | refine r_ldo ty_53 rfl rfl (by first | rfl | assumption) rfl trivial rfl ?_
        refine r_as rfl trivial rfl ?_
        refine r_as rfl trivial rfl ?_
        refine reg_nil ?_
        refine awp_seq ?_
        refine awp_region ?_
        refine r_mv rfl trivial rfl ?_
        refine r_add rfl rfl (rng64 (by first | omega | (simp [strF]; done) | (simp [strF]; omega))) trivial rfl ?_
        refine r_mv rfl trivial rfl ?_
        first | refine r_lenr sl_69 rfl trivial rfl ?_ | refine r_lenw sl_69 rfl trivial rfl ?_ | refine r_len0 sl_69 rfl trivial rfl ?_
        refine r_lss rfl rfl trivial rfl ?_
        refine reg_nil ?_
        refine awp_cond_no rfl (by simp [strF]) ?_
        refine awp_skip ?_
        refine awp_region ?_
        refine r_add rfl rfl (rng64 (by first | omega | (simp [strF]; done) | (simp [strF]; omega))) trivial rfl ?_
        refine r_mv rfl trivial rfl ?_
        refine reg_nil ?_
        refine unr_succ ?_
        refine awp_seq ?_
        refine awp_region ?_
        refine r_lss rfl rfl trivial rfl ?_
        refine reg_nil ?_
        refine awp_seq ?_
        refine awp_cond_t rfl ?_
        refine awp_skip ?_
        refine awp_seq ?_
        refine awp_block ?_
        refine awp_seq ?_
        refine awp_region ?_
        refine r_mv rfl trivial rfl ?_
        first | refine r_ixr sl_58 ty_53 rfl rfl (by first | omega | (simp; done) | (simp [strF]; omega)) rfl trivial rfl ?_ | refine r_ixw sl_58 ty_53 rfl rfl (by first | omega | (simp; done) | (simp [strF]; omega)) (by first | omega | simp) trivial rfl ?_
        first | refine r_ld ty_53 rfl rfl rfl trivial rfl ?_ | refine r_ldr ty_53 rfl rfl trivial rfl ?_ | refine r_ldo ty_53 rfl rfl (by first | rfl | assumption) rfl trivial rfl ?_
        refine r_as rfl trivial rfl ?_
        refine r_as rfl trivial rfl ?_
        refine reg_nil ?_
        refine awp_seq ?_
        refine awp_region ?_
        refine r_mv rfl trivial rfl ?_
        refine r_add rfl rfl (rng64 (by first | omega | (simp [strF]; done) | (simp [strF]; omega))) trivial rfl ?_
        refine r_mv rfl trivial rfl ?_
        first | refine r_lenr sl_69 rfl trivial rfl ?_ | refine r_lenw sl_69 rfl trivial rfl ?_ | refine r_len0 sl_69 rfl trivial rfl ?_
        refine r_lss rfl rfl trivial rfl ?_
        refine reg_nil ?_
        refine awp_cond_no rfl (by simp [strF]) ?_
        refine awp_skip ?_
        refine awp_region ?_
        refine r_add rfl rfl (rng64 (by first | omega | (simp [strF]; done) | (simp [strF]; omega))) trivial rfl ?_
        refine r_mv rfl trivial rfl ?_
        refine reg_nil ?_
        refine unr_succ ?_
        refine awp_seq ?_
        refine awp_region ?_
        refine r_lss rfl rfl trivial rfl ?_
        refine reg_nil ?_
        refine awp_seq ?_
        refine awp_cond_f rfl ?_
        refine awp_exit ?_
        refine awp_seq ?_
        refine awp_region ?_
        first | refine r_lda ty_37 rfl rfl rfl rfl trivial rfl ?_ | refine r_ldra ty_37 rfl rfl rfl trivial rfl ?_ | refine r_ldoa ty_37 rfl rfl (by first | rfl | assumption) rfl rfl trivial rfl ?_
        first | refine r_st ty_37 rfl rfl rfl rfl rfl rfl rfl trivial ?_ | refine r_sto ty_37 rfl rfl rfl rfl (by first | rfl | assumption) rfl rfl trivial ?_
        refine reg_nil ?_
        refine awp_ret ?_
        refine fin0 (.cons (.agg rfl rfl ty_37 (Nat.le_of_ble_eq_true rfl)) .nil) (.aggf' (l := encEv ⟨4, 0, 0, 0, (decide (([97, 110, 115, 119, 101, 114] : List UInt8) = [103, 111, 111, 100])), 0, 0, 0⟩) rfl) ?_
        (rw [eventP, hw]; simp [eventWs, wordL, argV])
      · have hcn : (strF ([97, 110, 115, 119, 101, 114] :: a :: [])).length ≤ 200001 := (by rw [strF_len, ← hw]; have := (splitSp_cnt (Lib.trimSuffix l [10])).1; have := trim_len l [10]; omega)
        have hc1 : 1 ≤ (strF ([97, 110, 115, 119, 101, 114] :: a :: [])).length := by simp [strF]
        refine awp_region ?_
        first | refine r_fld fld_37_0 rfl trivial rfl ?_ | refine r_fldr fld_37_0 rfl trivial rfl ?_
        first | refine r_ld ty_3 rfl rfl rfl trivial rfl ?_ | refine r_ldr ty_3 rfl rfl trivial rfl ?_ | refine r_ldo ty_3 rfl rfl (by first | rfl | assumption) rfl trivial rfl ?_
        refine r_eqi rfl rfl trivial rfl ?_
        refine r_mv rfl trivial rfl ?_
        refine r_mv rfl ⟨_, rfl, rfl⟩ rfl ?_
        refine r_mv rfl ⟨_, rfl, rfl⟩ rfl ?_
        first | refine r_lenr sl_69 rfl ⟨_, rfl, rfl⟩ rfl ?_ | refine r_lenw sl_69 rfl ⟨_, rfl, rfl⟩ rfl ?_ | refine r_len0 sl_69 rfl ⟨_, rfl, rfl⟩ rfl ?_
        refine r_sub rfl rfl (rng64 (by first | omega | (simp [strF]; done) | (simp [strF]; omega))) ⟨_, rfl, rfl⟩ rfl ?_
        first | refine r_ixr sl_69 ty_9 rfl rfl (by first | omega | (simp; done) | (simp [strF]; omega)) rfl ⟨_, rfl, rfl⟩ rfl ?_ | refine r_ixw sl_69 ty_9 rfl rfl (by first | omega | (simp; done) | (simp [strF]; omega)) (by first | omega | simp) ⟨_, rfl, rfl⟩ rfl ?_
        first | refine r_ld ty_9 rfl rfl rfl ⟨_, rfl, rfl⟩ rfl ?_ | refine r_ldr ty_9 rfl rfl ⟨_, rfl, rfl⟩ rfl ?_ | refine r_ldo ty_9 rfl rfl (by first | rfl | assumption) rfl ⟨_, rfl, rfl⟩ rfl ?_
        refine r_eqstr rfl rfl ⟨_, rfl, rfl⟩ rfl ?_
        refine r_pkt rfl rfl trivial rfl ?_
        first | refine r_fld fld_37_4 rfl trivial rfl ?_ | refine r_fldr fld_37_4 rfl trivial rfl ?_
        first | refine r_st ty_4 rfl rfl rfl rfl rfl rfl rfl trivial ?_ | refine r_sto ty_4 rfl rfl rfl rfl (by first | rfl | assumption) rfl rfl trivial ?_
        refine reg_nil ?_
        refine awp_seq ?_
        refine awp_seq ?_
        refine awp_region ?_
        refine r_callh [(0, 1), (1, 2)] 3 2 (nums_4 0 0 0 (decide ((a : List UInt8) = [103, 111, 111, 100])) 0 0 0) cb_23 rfl rfl rfl ?_ (.cons rfl .nil) rfl rfl rfl rfl trivial rfl ?_
        · (repeat (first | exact .nil | refine .cons .fv ?_ | refine .cons (.aggf' rfl) ?_ | refine .cons .nil ?_ | refine .cons (.ren rfl) ?_))
        first | refine r_lenr sl_58 rfl trivial rfl ?_ | refine r_lenw sl_58 rfl trivial rfl ?_ | refine r_len0 sl_58 rfl trivial rfl ?_
        refine r_mv rfl trivial rfl ?_
        refine reg_nil ?_
        refine awp_block ?_
        refine awp_unroll 3 ?_
        refine unr_succ ?_
        refine awp_seq ?_
        refine awp_region ?_
        refine r_lss rfl rfl trivial rfl ?_
        refine reg_nil ?_
        refine awp_seq ?_
        refine awp_cond_t rfl ?_
        refine awp_skip ?_
        refine awp_seq ?_
        refine awp_block ?_
        refine awp_seq ?_
        refine awp_region ?_
        refine r_mv rfl trivial rfl ?_
        first | refine r_ixr sl_58 ty_53 rfl rfl (by first | omega | (simp; done) | (simp [strF]; omega)) rfl trivial rfl ?_ | refine r_ixw sl_58 ty_53 rfl rfl (by first | omega | (simp; done) | (simp [strF]; omega)) (by first | omega | simp) trivial rfl ?_
        first | refine r_ld ty_53 rfl rfl rfl trivial rfl ?_ | refine r_ldr ty_53 rfl rfl trivial rfl ?_ | refine r_ldo ty_53 rfl rfl (by first | rfl | assumption) rfl trivial rfl ?_
        refine r_as rfl trivial rfl ?_
        refine r_as rfl trivial rfl ?_
        refine reg_nil ?_
        refine awp_seq ?_
        refine awp_region ?_
        refine r_mv rfl trivial rfl ?_
        refine r_add rfl rfl (rng64 (by first | omega | (simp [strF]; done) | (simp [strF]; omega))) trivial rfl ?_
        refine r_mv rfl trivial rfl ?_
        first | refine r_lenr sl_69 rfl trivial rfl ?_ | refine r_lenw sl_69 rfl trivial rfl ?_ | refine r_len0 sl_69 rfl trivial rfl ?_
        refine r_lss rfl rfl trivial rfl ?_
        refine reg_nil ?_
        refine awp_cond_yes rfl (by first | (simp [strF]; done) | (simp [strF]; omega)) ?_
        refine awp_region ?_
        refine r_mv rfl trivial rfl ?_
        refine r_mv rfl trivial rfl ?_
        refine r_mv rfl trivial rfl ?_
        refine r_add rfl rfl (rng64 (by first | omega | (simp [strF]; done) | (simp [strF]; omega))) trivial rfl ?_
        first | refine r_ixr sl_69 ty_9 rfl rfl (by first | omega | (simp; done) | (simp [strF]; omega)) rfl trivial rfl ?_ | refine r_ixw sl_69 ty_9 rfl rfl (by first | omega | (simp; done) | (simp [strF]; omega)) (by first | omega | simp) trivial rfl ?_
        first | refine r_ld ty_9 rfl rfl rfl trivial rfl ?_ | refine r_ldr ty_9 rfl rfl trivial rfl ?_ | refine r_ldo ty_9 rfl rfl (by first | rfl | assumption) rfl trivial rfl ?_
        refine r_call (atoi_ok a (by have := splitSp_le _ a (by rw [hw]; simp); have := trim_len l [10]; omega)) cb_35 rfl rfl rfl ?_ trivial rfl ?_
        · (repeat (first | exact .nil | refine .cons .fv ?_ | refine .cons (.aggf' rfl) ?_ | refine .cons .nil ?_ | refine .cons (.ren rfl) ?_))
        refine r_mv rfl trivial rfl ?_
        refine r_ext rfl rfl trivial rfl ?_
        refine r_ext rfl rfl trivial rfl ?_
        first | refine r_nilck rfl trivial rfl ?_ | refine r_nilckr rfl trivial rfl ?_ | refine r_nilckf rfl trivial rfl ?_
        first | refine r_st ty_3 rfl rfl rfl rfl rfl rfl rfl trivial ?_ | refine r_sto ty_3 rfl rfl rfl rfl (by first | rfl | assumption) rfl rfl trivial ?_
        refine reg_nil ?_
        refine awp_region ?_
        refine r_add rfl rfl (rng64 (by first | omega | (simp [strF]; done) | (simp [strF]; omega))) trivial rfl ?_
        refine r_mv rfl trivial rfl ?_
        refine reg_nil ?_
        refine unr_succ ?_
        refine awp_seq ?_
        refine awp_region ?_
        refine r_lss rfl rfl trivial rfl ?_
        refine reg_nil ?_
        refine awp_seq ?_
        refine awp_cond_t rfl ?_
        refine awp_skip ?_
        refine awp_seq ?_
        refine awp_block ?_
        refine awp_seq ?_
        refine awp_region ?_
        refine r_mv rfl trivial rfl ?_
        first | refine r_ixr sl_58 ty_53 rfl rfl (by first | omega | (simp; done) | (simp [strF]; omega)) rfl trivial rfl ?_ | refine r_ixw sl_58 ty_53 rfl rfl (by first | omega | (simp; done) | (simp [strF]; omega)) (by first | omega | simp) trivial rfl ?_
        first | refine r_ld ty_53 rfl rfl rfl trivial rfl ?_ | refine r_ldr ty_53 rfl rfl trivial rfl ?_ | refine r_ldo ty_53 rfl rfl (by first | rfl | assumption) rfl trivial rfl ?_
        refine r_as rfl trivial rfl ?_
        refine r_as rfl trivial rfl ?_
        refine reg_nil ?_
        refine awp_seq ?_
        refine awp_region ?_
        refine r_mv rfl trivial rfl ?_
        refine r_add rfl rfl (rng64 (by first | omega | (simp [strF]; done) | (simp [strF]; omega))) trivial rfl ?_
        refine r_mv rfl trivial rfl ?_
        first | refine r_lenr sl_69 rfl trivial rfl ?_ | refine r_lenw sl_69 rfl trivial rfl ?_ | refine r_len0 sl_69 rfl trivial rfl ?_
        refine r_lss rfl rfl trivial rfl ?_
        refine reg_nil ?_
        refine awp_cond_no rfl (by simp [strF]) ?_
        refine awp_skip ?_
        refine awp_region ?_
        refine r_add rfl rfl (rng64 (by first | omega | (simp [strF]; done) | (simp [strF]; omega))) trivial rfl ?_
        refine r_mv rfl trivial rfl ?_
        refine reg_nil ?_
        refine unr_succ ?_
        refine awp_seq ?_
        refine awp_region ?_
        refine r_lss rfl rfl trivial rfl ?_
        refine reg_nil ?_
        refine awp_seq ?_
        refine awp_cond_f rfl ?_
        refine awp_exit ?_
        refine awp_seq ?_
        refine awp_region ?_
        first | refine r_lda ty_37 rfl rfl rfl rfl trivial rfl ?_ | refine r_ldra ty_37 rfl rfl rfl trivial rfl ?_ | refine r_ldoa ty_37 rfl rfl (by first | rfl | assumption) rfl rfl trivial rfl ?_
        first | refine r_st ty_37 rfl rfl rfl rfl rfl rfl rfl trivial ?_ | refine r_sto ty_37 rfl rfl rfl rfl (by first | rfl | assumption) rfl rfl trivial ?_
        refine reg_nil ?_
        refine awp_ret ?_
        refine fin0 (.cons (.agg rfl rfl ty_37 (Nat.le_of_ble_eq_true rfl)) .nil) (.aggf' (l := encEv ⟨4, 0, (atoiV a), 0, (decide ((a : List UInt8) = [103, 111, 111, 100])), 0, 0, 0⟩) rfl) ?_
        (rw [eventP, hw]; simp [eventWs, wordL, argV])
      · have hcn : (strF ([97, 110, 115, 119, 101, 114] :: a :: b :: r)).length ≤ 200001 := (by rw [strF_len, ← hw]; have := (splitSp_cnt (Lib.trimSuffix l [10])).1; have := trim_len l [10]; omega)
        have hc1 : 1 ≤ (strF ([97, 110, 115, 119, 101, 114] :: a :: b :: r)).length := by simp [strF]
        obtain ⟨lw, hl1, hl2⟩ := last_strF [97, 110, 115, 119, 101, 114] (a :: b :: r)
        refine awp_region ?_
        first | refine r_fld fld_37_0 rfl trivial rfl ?_ | refine r_fldr fld_37_0 rfl trivial rfl ?_
        first | refine r_ld ty_3 rfl rfl rfl trivial rfl ?_ | refine r_ldr ty_3 rfl rfl trivial rfl ?_ | refine r_ldo ty_3 rfl rfl (by first | rfl | assumption) rfl trivial rfl ?_
        refine r_eqi rfl rfl trivial rfl ?_
        refine r_mv rfl trivial rfl ?_
        refine r_mv rfl ⟨_, rfl, rfl⟩ rfl ?_
        refine r_mv rfl ⟨_, rfl, rfl⟩ rfl ?_
        first | refine r_lenr sl_69 rfl ⟨_, rfl, rfl⟩ rfl ?_ | refine r_lenw sl_69 rfl ⟨_, rfl, rfl⟩ rfl ?_ | refine r_len0 sl_69 rfl ⟨_, rfl, rfl⟩ rfl ?_
        refine r_sub rfl rfl (rng64 (by first | omega | (simp [strF]; done) | (simp [strF]; omega))) ⟨_, rfl, rfl⟩ rfl ?_
        first | refine r_ixr sl_69 ty_9 rfl rfl (by first | omega | (simp; done) | (simp [strF]; omega)) hl2 ⟨_, rfl, rfl⟩ rfl ?_ | refine r_ixw sl_69 ty_9 rfl rfl (by first | omega | (simp; done) | (simp [strF]; omega)) (by first | omega | simp) ⟨_, rfl, rfl⟩ rfl ?_
        first | refine r_ld ty_9 rfl rfl rfl ⟨_, rfl, rfl⟩ rfl ?_ | refine r_ldr ty_9 rfl rfl ⟨_, rfl, rfl⟩ rfl ?_ | refine r_ldo ty_9 rfl rfl (by first | rfl | assumption) rfl ⟨_, rfl, rfl⟩ rfl ?_
        refine r_eqstr rfl rfl ⟨_, rfl, rfl⟩ rfl ?_
        refine r_pkt rfl rfl trivial rfl ?_
        first | refine r_fld fld_37_4 rfl trivial rfl ?_ | refine r_fldr fld_37_4 rfl trivial rfl ?_
        first | refine r_st ty_4 rfl rfl rfl rfl rfl rfl rfl trivial ?_ | refine r_sto ty_4 rfl rfl rfl rfl (by first | rfl | assumption) rfl rfl trivial ?_
        refine reg_nil ?_
        refine awp_seq ?_
        refine awp_seq ?_
        refine awp_region ?_
        refine r_callh [(0, 1), (1, 2)] 3 2 (nums_4 0 0 0 (decide (lw = [103, 111, 111, 100])) 0 0 0) cb_23 rfl rfl rfl ?_ (.cons rfl .nil) rfl rfl rfl rfl trivial rfl ?_
        · (repeat (first | exact .nil | refine .cons .fv ?_ | refine .cons (.aggf' rfl) ?_ | refine .cons .nil ?_ | refine .cons (.ren rfl) ?_))
        first | refine r_lenr sl_58 rfl trivial rfl ?_ | refine r_lenw sl_58 rfl trivial rfl ?_ | refine r_len0 sl_58 rfl trivial rfl ?_
        refine r_mv rfl trivial rfl ?_
        refine reg_nil ?_
        refine awp_block ?_
        refine awp_unroll 3 ?_
        refine unr_succ ?_
        refine awp_seq ?_
        refine awp_region ?_
        refine r_lss rfl rfl trivial rfl ?_
        refine reg_nil ?_
        refine awp_seq ?_
        refine awp_cond_t rfl ?_
        refine awp_skip ?_
        refine awp_seq ?_
        refine awp_block ?_
        refine awp_seq ?_
        refine awp_region ?_
        refine r_mv rfl trivial rfl ?_
        first | refine r_ixr sl_58 ty_53 rfl rfl (by first | omega | (simp; done) | (simp [strF]; omega)) rfl trivial rfl ?_ | refine r_ixw sl_58 ty_53 rfl rfl (by first | omega | (simp; done) | (simp [strF]; omega)) (by first | omega | simp) trivial rfl ?_
        first | refine r_ld ty_53 rfl rfl rfl trivial rfl ?_ | refine r_ldr ty_53 rfl rfl trivial rfl ?_ | refine r_ldo ty_53 rfl rfl (by first | rfl | assumption) rfl trivial rfl ?_
        refine r_as rfl trivial rfl ?_
        refine r_as rfl trivial rfl ?_
        refine reg_nil ?_
        refine awp_seq ?_
        refine awp_region ?_
        refine r_mv rfl trivial rfl ?_
        refine r_add rfl rfl (rng64 (by first | omega | (simp [strF]; done) | (simp [strF]; omega))) trivial rfl ?_
        refine r_mv rfl trivial rfl ?_
        first | refine r_lenr sl_69 rfl trivial rfl ?_ | refine r_lenw sl_69 rfl trivial rfl ?_ | refine r_len0 sl_69 rfl trivial rfl ?_
        refine r_lss rfl rfl trivial rfl ?_
        refine reg_nil ?_
        refine awp_cond_yes rfl (by first | (simp [strF]; done) | (simp [strF]; omega)) ?_
        refine awp_region ?_
        refine r_mv rfl trivial rfl ?_
        refine r_mv rfl trivial rfl ?_
        refine r_mv rfl trivial rfl ?_
        refine r_add rfl rfl (rng64 (by first | omega | (simp [strF]; done) | (simp [strF]; omega))) trivial rfl ?_
        first | refine r_ixr sl_69 ty_9 rfl rfl (by first | omega | (simp; done) | (simp [strF]; omega)) rfl trivial rfl ?_ | refine r_ixw sl_69 ty_9 rfl rfl (by first | omega | (simp; done) | (simp [strF]; omega)) (by first | omega | simp) trivial rfl ?_
        first | refine r_ld ty_9 rfl rfl rfl trivial rfl ?_ | refine r_ldr ty_9 rfl rfl trivial rfl ?_ | refine r_ldo ty_9 rfl rfl (by first | rfl | assumption) rfl trivial rfl ?_
        refine r_call (atoi_ok a (by have := splitSp_le _ a (by rw [hw]; simp); have := trim_len l [10]; omega)) cb_35 rfl rfl rfl ?_ trivial rfl ?_
        · (repeat (first | exact .nil | refine .cons .fv ?_ | refine .cons (.aggf' rfl) ?_ | refine .cons .nil ?_ | refine .cons (.ren rfl) ?_))
        refine r_mv rfl trivial rfl ?_
        refine r_ext rfl rfl trivial rfl ?_
        refine r_ext rfl rfl trivial rfl ?_
        first | refine r_nilck rfl trivial rfl ?_ | refine r_nilckr rfl trivial rfl ?_ | refine r_nilckf rfl trivial rfl ?_
        first | refine r_st ty_3 rfl rfl rfl rfl rfl rfl rfl trivial ?_ | refine r_sto ty_3 rfl rfl rfl rfl (by first | rfl | assumption) rfl rfl trivial ?_
        refine reg_nil ?_
        refine awp_region ?_
        refine r_add rfl rfl (rng64 (by first | omega | (simp [strF]; done) | (simp [strF]; omega))) trivial rfl ?_
        refine r_mv rfl trivial rfl ?_
        refine reg_nil ?_
        refine unr_succ ?_
        refine awp_seq ?_
        refine awp_region ?_
        refine r_lss rfl rfl trivial rfl ?_
        refine reg_nil ?_
        refine awp_seq ?_
        refine awp_cond_t rfl ?_
        refine awp_skip ?_
        refine awp_seq ?_
        refine awp_block ?_
        refine awp_seq ?_
        refine awp_region ?_
        refine r_mv rfl trivial rfl ?_
        first | refine r_ixr sl_58 ty_53 rfl rfl (by first | omega | (simp; done) | (simp [strF]; omega)) rfl trivial rfl ?_ | refine r_ixw sl_58 ty_53 rfl rfl (by first | omega | (simp; done) | (simp [strF]; omega)) (by first | omega | simp) trivial rfl ?_
        first | refine r_ld ty_53 rfl rfl rfl trivial rfl ?_ | refine r_ldr ty_53 rfl rfl trivial rfl ?_ | refine r_ldo ty_53 rfl rfl (by first | rfl | assumption) rfl trivial rfl ?_
        refine r_as rfl trivial rfl ?_
        refine r_as rfl trivial rfl ?_
        refine reg_nil ?_
        refine awp_seq ?_
        refine awp_region ?_
        refine r_mv rfl trivial rfl ?_
        refine r_add rfl rfl (rng64 (by first | omega | (simp [strF]; done) | (simp [strF]; omega))) trivial rfl ?_
        refine r_mv rfl trivial rfl ?_
        first | refine r_lenr sl_69 rfl trivial rfl ?_ | refine r_lenw sl_69 rfl trivial rfl ?_ | refine r_len0 sl_69 rfl trivial rfl ?_
        refine r_lss rfl rfl trivial rfl ?_
        refine reg_nil ?_
        refine awp_cond_yes rfl (by first | (simp [strF]; done) | (simp [strF]; omega)) ?_
        refine awp_region ?_
        refine r_mv rfl trivial rfl ?_
        refine r_mv rfl trivial rfl ?_
        refine r_mv rfl trivial rfl ?_
        refine r_add rfl rfl (rng64 (by first | omega | (simp [strF]; done) | (simp [strF]; omega))) trivial rfl ?_
        first | refine r_ixr sl_69 ty_9 rfl rfl (by first | omega | (simp; done) | (simp [strF]; omega)) rfl trivial rfl ?_ | refine r_ixw sl_69 ty_9 rfl rfl (by first | omega | (simp; done) | (simp [strF]; omega)) (by first | omega | simp) trivial rfl ?_
        first | refine r_ld ty_9 rfl rfl rfl trivial rfl ?_ | refine r_ldr ty_9 rfl rfl trivial rfl ?_ | refine r_ldo ty_9 rfl rfl (by first | rfl | assumption) rfl trivial rfl ?_
        refine r_call (atoi_ok b (by have := splitSp_le _ b (by rw [hw]; simp); have := trim_len l [10]; omega)) cb_35 rfl rfl rfl ?_ trivial rfl ?_
        · (repeat (first | exact .nil | refine .cons .fv ?_ | refine .cons (.aggf' rfl) ?_ | refine .cons .nil ?_ | refine .cons (.ren rfl) ?_))
        refine r_mv rfl trivial rfl ?_
        refine r_ext rfl rfl trivial rfl ?_
        refine r_ext rfl rfl trivial rfl ?_
        first | refine r_nilck rfl trivial rfl ?_ | refine r_nilckr rfl trivial rfl ?_ | refine r_nilckf rfl trivial rfl ?_
        first | refine r_st ty_3 rfl rfl rfl rfl rfl rfl rfl trivial ?_ | refine r_sto ty_3 rfl rfl rfl rfl (by first | rfl | assumption) rfl rfl trivial ?_
        refine reg_nil ?_
        refine awp_region ?_
        refine r_add rfl rfl (rng64 (by first | omega | (simp [strF]; done) | (simp [strF]; omega))) trivial rfl ?_
        refine r_mv rfl trivial rfl ?_
        refine reg_nil ?_
        refine unr_succ ?_
        refine awp_seq ?_
        refine awp_region ?_
        refine r_lss rfl rfl trivial rfl ?_
        refine reg_nil ?_
        refine awp_seq ?_
        refine awp_cond_f rfl ?_
        refine awp_exit ?_
        refine awp_seq ?_
        refine awp_region ?_
        first | refine r_lda ty_37 rfl rfl rfl rfl trivial rfl ?_ | refine r_ldra ty_37 rfl rfl rfl trivial rfl ?_ | refine r_ldoa ty_37 rfl rfl (by first | rfl | assumption) rfl rfl trivial rfl ?_
        first | refine r_st ty_37 rfl rfl rfl rfl rfl rfl rfl trivial ?_ | refine r_sto ty_37 rfl rfl rfl rfl (by first | rfl | assumption) rfl rfl trivial ?_
        refine reg_nil ?_
        refine awp_ret ?_
        refine fin0 (.cons (.agg rfl rfl ty_37 (Nat.le_of_ble_eq_true rfl)) .nil) (.aggf' (l := encEv ⟨4, 0, (atoiV a), (atoiV b), (decide (lw = [103, 111, 111, 100])), 0, 0, 0⟩) rfl) ?_
        (rw [eventP, hw]; simp at hl1; simp [eventWs, wordL, argV, hl1])
      · refine awp_region ?_
        first | refine r_fld fld_37_0 rfl trivial rfl ?_ | refine r_fldr fld_37_0 rfl trivial rfl ?_
        first | refine r_ld ty_3 rfl rfl rfl trivial rfl ?_ | refine r_ldr ty_3 rfl rfl trivial rfl ?_ | refine r_ldo ty_3 rfl rfl (by first | rfl | assumption) rfl trivial rfl ?_
        refine r_eqi rfl rfl trivial rfl ?_
        refine r_mv rfl trivial rfl ?_
        refine r_skip ⟨_, rfl, .inl rfl⟩ rfl ?_
        refine r_skip ⟨_, rfl, .inl rfl⟩ rfl ?_
        refine r_skip ⟨_, rfl, .inl rfl⟩ rfl ?_
        refine r_skip ⟨_, rfl, .inl rfl⟩ rfl ?_
        refine r_skip ⟨_, rfl, .inl rfl⟩ rfl ?_
        refine r_skip ⟨_, rfl, .inl rfl⟩ rfl ?_
        refine r_skip ⟨_, rfl, .inl rfl⟩ rfl ?_
        refine r_pkf rfl rfl trivial rfl ?_
        first | refine r_fld fld_37_4 rfl trivial rfl ?_ | refine r_fldr fld_37_4 rfl trivial rfl ?_
        first | refine r_st ty_4 rfl rfl rfl rfl rfl rfl rfl trivial ?_ | refine r_sto ty_4 rfl rfl rfl rfl (by first | rfl | assumption) rfl rfl trivial ?_
        refine reg_nil ?_
        refine awp_seq ?_
        refine awp_seq ?_
        refine awp_region ?_
        refine r_callh [(0, 1), (1, 2)] 3 2 (nums_5 0 0 0 false 0 0 0) cb_23 rfl rfl rfl ?_ (.cons rfl .nil) rfl rfl rfl rfl trivial rfl ?_
        · (repeat (first | exact .nil | refine .cons .fv ?_ | refine .cons (.aggf' rfl) ?_ | refine .cons .nil ?_ | refine .cons (.ren rfl) ?_))
        first | refine r_lenr sl_58 rfl trivial rfl ?_ | refine r_lenw sl_58 rfl trivial rfl ?_ | refine r_len0 sl_58 rfl trivial rfl ?_
        refine r_mv rfl trivial rfl ?_
        refine reg_nil ?_
        refine awp_block ?_
        refine awp_unroll 4 ?_
        refine unr_succ ?_
        refine awp_seq ?_
        refine awp_region ?_
        refine r_lss rfl rfl trivial rfl ?_
        refine reg_nil ?_
        refine awp_seq ?_
        refine awp_cond_t rfl ?_
        refine awp_skip ?_
        refine awp_seq ?_
        refine awp_block ?_
        refine awp_seq ?_
        refine awp_region ?_
        refine r_mv rfl trivial rfl ?_
        first | refine r_ixr sl_58 ty_53 rfl rfl (by first | omega | (simp; done) | (simp [strF]; omega)) rfl trivial rfl ?_ | refine r_ixw sl_58 ty_53 rfl rfl (by first | omega | (simp; done) | (simp [strF]; omega)) (by first | omega | simp) trivial rfl ?_
        first | refine r_ld ty_53 rfl rfl rfl trivial rfl ?_ | refine r_ldr ty_53 rfl rfl trivial rfl ?_ | refine r_ldo ty_53 rfl rfl (by first | rfl | assumption) rfl trivial rfl ?_
        refine r_as rfl trivial rfl ?_
        refine r_as rfl trivial rfl ?_
        refine reg_nil ?_
        refine awp_seq ?_
        refine awp_region ?_
        refine r_mv rfl trivial rfl ?_
        refine r_add rfl rfl (rng64 (by first | omega | (simp [strF]; done) | (simp [strF]; omega))) trivial rfl ?_
        refine r_mv rfl trivial rfl ?_
        first | refine r_lenr sl_69 rfl trivial rfl ?_ | refine r_lenw sl_69 rfl trivial rfl ?_ | refine r_len0 sl_69 rfl trivial rfl ?_
        refine r_lss rfl rfl trivial rfl ?_
        refine reg_nil ?_
        refine awp_cond_no rfl (by simp [strF]) ?_
        refine awp_skip ?_
        refine awp_region ?_
        refine r_add rfl rfl (rng64 (by first | omega | (simp [strF]; done) | (simp [strF]; omega))) trivial rfl ?_
        refine r_mv rfl trivial rfl ?_
        refine reg_nil ?_
        refine unr_succ ?_
        refine awp_seq ?_
        refine awp_region ?_
        refine r_lss rfl rfl trivial rfl ?_
        refine reg_nil ?_
        refine awp_seq ?_
        refine awp_cond_t rfl ?_
        refine awp_skip ?_
        refine awp_seq ?_
        refine awp_block ?_
        refine awp_seq ?_
        refine awp_region ?_
        refine r_mv rfl trivial rfl ?_
        first | refine r_ixr sl_58 ty_53 rfl rfl (by first | omega | (simp; done) | (simp [strF]; omega)) rfl trivial rfl ?_ | refine r_ixw sl_58 ty_53 rfl rfl (by first | omega | (simp; done) | (simp [strF]; omega)) (by first | omega | simp) trivial rfl ?_
        first | refine r_ld ty_53 rfl rfl rfl trivial rfl ?_ | refine r_ldr ty_53 rfl rfl trivial rfl ?_ | refine r_ldo ty_53 rfl rfl (by first | rfl | assumption) rfl trivial rfl ?_
        refine r_as rfl trivial rfl ?_
        refine r_as rfl trivial rfl ?_
        refine reg_nil ?_
        refine awp_seq ?_
        refine awp_region ?_
        refine r_mv rfl trivial rfl ?_
        refine r_add rfl rfl (rng64 (by first | omega | (simp [strF]; done) | (simp [strF]; omega))) trivial rfl ?_
        refine r_mv rfl trivial rfl ?_
        first | refine r_lenr sl_69 rfl trivial rfl ?_ | refine r_lenw sl_69 rfl trivial rfl ?_ | refine r_len0 sl_69 rfl trivial rfl ?_
        refine r_lss rfl rfl trivial rfl ?_
        refine reg_nil ?_
        refine awp_cond_no rfl (by simp [strF]) ?_
        refine awp_skip ?_
        refine awp_region ?_
        refine r_add rfl rfl (rng64 (by first | omega | (simp [strF]; done) | (simp [strF]; omega))) trivial rfl ?_
        refine r_mv rfl trivial rfl ?_
        refine reg_nil ?_
        refine unr_succ ?_
        refine awp_seq ?_
        refine awp_region ?_
        refine r_lss rfl rfl trivial rfl ?_
        refine reg_nil ?_
        refine awp_seq ?_
        refine awp_cond_t rfl ?_
        refine awp_skip ?_
        refine awp_seq ?_
        refine awp_block ?_
        refine awp_seq ?_
        refine awp_region ?_
        refine r_mv rfl trivial rfl ?_
        first | refine r_ixr sl_58 ty_53 rfl rfl (by first | omega | (simp; done) | (simp [strF]; omega)) rfl trivial rfl ?_ | refine r_ixw sl_58 ty_53 rfl rfl (by first | omega | (simp; done) | (simp [strF]; omega)) (by first | omega | simp) trivial rfl ?_
        first | refine r_ld ty_53 rfl rfl rfl trivial rfl ?_ | refine r_ldr ty_53 rfl rfl trivial rfl ?_ | refine r_ldo ty_53 rfl rfl (by first | rfl | assumption) rfl trivial rfl ?_
        refine r_as rfl trivial rfl ?_
        refine r_as rfl trivial rfl ?_
        refine reg_nil ?_
        refine awp_seq ?_
        refine awp_region ?_
        refine r_mv rfl trivial rfl ?_
        refine r_add rfl rfl (rng64 (by first | omega | (simp [strF]; done) | (simp [strF]; omega))) trivial rfl ?_
        refine r_mv rfl trivial rfl ?_
        first | refine r_lenr sl_69 rfl trivial rfl ?_ | refine r_lenw sl_69 rfl trivial rfl ?_ | refine r_len0 sl_69 rfl trivial rfl ?_
        refine r_lss rfl rfl trivial rfl ?_
        refine reg_nil ?_
        refine awp_cond_no rfl (by simp [strF]) ?_
        refine awp_skip ?_
        refine awp_region ?_
        refine r_add rfl rfl (rng64 (by first | omega | (simp [strF]; done) | (simp [strF]; omega))) trivial rfl ?_
        refine r_mv rfl trivial rfl ?_
        refine reg_nil ?_
        refine unr_succ ?_
        refine awp_seq ?_
        refine awp_region ?_
        refine r_lss rfl rfl trivial rfl ?_
        refine reg_nil ?_
        refine awp_seq ?_
        refine awp_cond_f rfl ?_
        refine awp_exit ?_
        refine awp_seq ?_
        refine awp_region ?_
        first | refine r_lda ty_37 rfl rfl rfl rfl trivial rfl ?_ | refine r_ldra ty_37 rfl rfl rfl trivial rfl ?_ | refine r_ldoa ty_37 rfl rfl (by first | rfl | assumption) rfl rfl trivial rfl ?_
        first | refine r_st ty_37 rfl rfl rfl rfl rfl rfl rfl trivial ?_ | refine r_sto ty_37 rfl rfl rfl rfl (by first | rfl | assumption) rfl rfl trivial ?_
        refine reg_nil ?_
        refine awp_ret ?_
        refine fin0 (.cons (.agg rfl rfl ty_37 (Nat.le_of_ble_eq_true rfl)) .nil) (.aggf' (l := encEv ⟨5, 0, 0, 0, false, 0, 0, 0⟩) rfl) ?_
        (rw [eventP, hw]; simp [eventWs, wordL, argV])
      · refine awp_region ?_
        first | refine r_fld fld_37_0 rfl trivial rfl ?_ | refine r_fldr fld_37_0 rfl trivial rfl ?_
        first | refine r_ld ty_3 rfl rfl rfl trivial rfl ?_ | refine r_ldr ty_3 rfl rfl trivial rfl ?_ | refine r_ldo ty_3 rfl rfl (by first | rfl | assumption) rfl trivial rfl ?_
        refine r_eqi rfl rfl trivial rfl ?_
        refine r_mv rfl trivial rfl ?_
        refine r_skip ⟨_, rfl, .inl rfl⟩ rfl ?_
        refine r_skip ⟨_, rfl, .inl rfl⟩ rfl ?_
        refine r_skip ⟨_, rfl, .inl rfl⟩ rfl ?_
        refine r_skip ⟨_, rfl, .inl rfl⟩ rfl ?_
        refine r_skip ⟨_, rfl, .inl rfl⟩ rfl ?_
        refine r_skip ⟨_, rfl, .inl rfl⟩ rfl ?_
        refine r_skip ⟨_, rfl, .inl rfl⟩ rfl ?_
        refine r_pkf rfl rfl trivial rfl ?_
        first | refine r_fld fld_37_4 rfl trivial rfl ?_ | refine r_fldr fld_37_4 rfl trivial rfl ?_
        first | refine r_st ty_4 rfl rfl rfl rfl rfl rfl rfl trivial ?_ | refine r_sto ty_4 rfl rfl rfl rfl (by first | rfl | assumption) rfl rfl trivial ?_
        refine reg_nil ?_
        refine awp_seq ?_
        refine awp_seq ?_
        refine awp_region ?_
        refine r_callh [(0, 1), (1, 2)] 3 2 (nums_5 0 0 0 false 0 0 0) cb_23 rfl rfl rfl ?_ (.cons rfl .nil) rfl rfl rfl rfl trivial rfl ?_
        · (repeat (first | exact .nil | refine .cons .fv ?_ | refine .cons (.aggf' rfl) ?_ | refine .cons .nil ?_ | refine .cons (.ren rfl) ?_))
        first | refine r_lenr sl_58 rfl trivial rfl ?_ | refine r_lenw sl_58 rfl trivial rfl ?_ | refine r_len0 sl_58 rfl trivial rfl ?_
        refine r_mv rfl trivial rfl ?_
        refine reg_nil ?_
        refine awp_block ?_
        refine awp_unroll 4 ?_
        refine unr_succ ?_
        refine awp_seq ?_
        refine awp_region ?_
        refine r_lss rfl rfl trivial rfl ?_
        refine reg_nil ?_
        refine awp_seq ?_
        refine awp_cond_t rfl ?_
        refine awp_skip ?_
        refine awp_seq ?_
        refine awp_block ?_
        refine awp_seq ?_
        refine awp_region ?_
        refine r_mv rfl trivial rfl ?_
        first | refine r_ixr sl_58 ty_53 rfl rfl (by first | omega | (simp; done) | (simp [strF]; omega)) rfl trivial rfl ?_ | refine r_ixw sl_58 ty_53 rfl rfl (by first | omega | (simp; done) | (simp [strF]; omega)) (by first | omega | simp) trivial rfl ?_
        first | refine r_ld ty_53 rfl rfl rfl trivial rfl ?_ | refine r_ldr ty_53 rfl rfl trivial rfl ?_ | refine r_ldo ty_53 rfl rfl (by first | rfl | assumption) rfl trivial rfl ?_
        refine r_as rfl trivial rfl ?_
        refine r_as rfl trivial rfl ?_
        refine reg_nil ?_
        refine awp_seq ?_
        refine awp_region ?_
        refine r_mv rfl trivial rfl ?_
        refine r_add rfl rfl (rng64 (by first | omega | (simp [strF]; done) | (simp [strF]; omega))) trivial rfl ?_
        refine r_mv rfl trivial rfl ?_
        first | refine r_lenr sl_69 rfl trivial rfl ?_ | refine r_lenw sl_69 rfl trivial rfl ?_ | refine r_len0 sl_69 rfl trivial rfl ?_
        refine r_lss rfl rfl trivial rfl ?_
        refine reg_nil ?_
        refine awp_cond_yes rfl (by first | (simp [strF]; done) | (simp [strF]; omega)) ?_
        refine awp_region ?_
        refine r_mv rfl trivial rfl ?_
        refine r_mv rfl trivial rfl ?_
        refine r_mv rfl trivial rfl ?_
        refine r_add rfl rfl (rng64 (by first | omega | (simp [strF]; done) | (simp [strF]; omega))) trivial rfl ?_
        first | refine r_ixr sl_69 ty_9 rfl rfl (by first | omega | (simp; done) | (simp [strF]; omega)) rfl trivial rfl ?_ | refine r_ixw sl_69 ty_9 rfl rfl (by first | omega | (simp; done) | (simp [strF]; omega)) (by first | omega | simp) trivial rfl ?_
        first | refine r_ld ty_9 rfl rfl rfl trivial rfl ?_ | refine r_ldr ty_9 rfl rfl trivial rfl ?_ | refine r_ldo ty_9 rfl rfl (by first | rfl | assumption) rfl trivial rfl ?_
        refine r_call (atoi_ok a (by have := splitSp_le _ a (by rw [hw]; simp); have := trim_len l [10]; omega)) cb_35 rfl rfl rfl ?_ trivial rfl ?_
        · (repeat (first | exact .nil | refine .cons .fv ?_ | refine .cons (.aggf' rfl) ?_ | refine .cons .nil ?_ | refine .cons (.ren rfl) ?_))
        refine r_mv rfl trivial rfl ?_
        refine r_ext rfl rfl trivial rfl ?_
        refine r_ext rfl rfl trivial rfl ?_
        first | refine r_nilck rfl trivial rfl ?_ | refine r_nilckr rfl trivial rfl ?_ | refine r_nilckf rfl trivial rfl ?_
        first | refine r_st ty_3 rfl rfl rfl rfl rfl rfl rfl trivial ?_ | refine r_sto ty_3 rfl rfl rfl rfl (by first | rfl | assumption) rfl rfl trivial ?_
        refine reg_nil ?_
        refine awp_region ?_
        refine r_add rfl rfl (rng64 (by first | omega | (simp [strF]; done) | (simp [strF]; omega))) trivial rfl ?_
        refine r_mv rfl trivial rfl ?_
        refine reg_nil ?_
        refine unr_succ ?_
        refine awp_seq ?_
        refine awp_region ?_
        refine r_lss rfl rfl trivial rfl ?_
        refine reg_nil ?_
        refine awp_seq ?_
        refine awp_cond_t rfl ?_
        refine awp_skip ?_
        refine awp_seq ?_
        refine awp_block ?_
        refine awp_seq ?_
        refine awp_region ?_
        refine r_mv rfl trivial rfl ?_
        first | refine r_ixr sl_58 ty_53 rfl rfl (by first | omega | (simp; done) | (simp [strF]; omega)) rfl trivial rfl ?_ | refine r_ixw sl_58 ty_53 rfl rfl (by first | omega | (simp; done) | (simp [strF]; omega)) (by first | omega | simp) trivial rfl ?_
        first | refine r_ld ty_53 rfl rfl rfl trivial rfl ?_ | refine r_ldr ty_53 rfl rfl trivial rfl ?_ | refine r_ldo ty_53 rfl rfl (by first | rfl | assumption) rfl trivial rfl ?_
        refine r_as rfl trivial rfl ?_
        refine r_as rfl trivial rfl ?_
        refine reg_nil ?_
        refine awp_seq ?_
        refine awp_region ?_
        refine r_mv rfl trivial rfl ?_
        refine r_add rfl rfl (rng64 (by first | omega | (simp [strF]; done) | (simp [strF]; omega))) trivial rfl ?_
        refine r_mv rfl trivial rfl ?_
        first | refine r_lenr sl_69 rfl trivial rfl ?_ | refine r_lenw sl_69 rfl trivial rfl ?_ | refine r_len0 sl_69 rfl trivial rfl ?_
        refine r_lss rfl rfl trivial rfl ?_
        refine reg_nil ?_
        refine awp_cond_no rfl (by simp [strF]) ?_
        refine awp_skip ?_
        refine awp_region ?_
        refine r_add rfl rfl (rng64 (by first | omega | (simp [strF]; done) | (simp [strF]; omega))) trivial rfl ?_
        refine r_mv rfl trivial rfl ?_
        refine reg_nil ?_
        refine unr_succ ?_
        refine awp_seq ?_
        refine awp_region ?_
        refine r_lss rfl rfl trivial rfl ?_
        refine reg_nil ?_
        refine awp_seq ?_
        refine awp_cond_t rfl ?_
        refine awp_skip ?_
        refine awp_seq ?_
        refine awp_block ?_
        refine awp_seq ?_
        refine awp_region ?_
        refine r_mv rfl trivial rfl ?_
        first | refine r_ixr sl_58 ty_53 rfl rfl (by first | omega | (simp; done) | (simp [strF]; omega)) rfl trivial rfl ?_ | refine r_ixw sl_58 ty_53 rfl rfl (by first | omega | (simp; done) | (simp [strF]; omega)) (by first | omega | simp) trivial rfl ?_
        first | refine r_ld ty_53 rfl rfl rfl trivial rfl ?_ | refine r_ldr ty_53 rfl rfl trivial rfl ?_ | refine r_ldo ty_53 rfl rfl (by first | rfl | assumption) rfl trivial rfl ?_
        refine r_as rfl trivial rfl ?_
        refine r_as rfl trivial rfl ?_
        refine reg_nil ?_
        refine awp_seq ?_
        refine awp_region ?_
        refine r_mv rfl trivial rfl ?_
        refine r_add rfl rfl (rng64 (by first | omega | (simp [strF]; done) | (simp [strF]; omega))) trivial rfl ?_
        refine r_mv rfl trivial rfl ?_
        first | refine r_lenr sl_69 rfl trivial rfl ?_ | refine r_lenw sl_69 rfl trivial rfl ?_ | refine r_len0 sl_69 rfl trivial rfl ?_
        refine r_lss rfl rfl trivial rfl ?_
        refine reg_nil ?_
        refine awp_cond_no rfl (by simp [strF]) ?_
        refine awp_skip ?_
        refine awp_region ?_
        refine r_add rfl rfl (rng64 (by first | omega | (simp [strF]; done) | (simp [strF]; omega))) trivial rfl ?_
        refine r_mv rfl trivial rfl ?_
        refine reg_nil ?_
        refine unr_succ ?_
        refine awp_seq ?_
        refine awp_region ?_
        refine r_lss rfl rfl trivial rfl ?_
        refine reg_nil ?_
        refine awp_seq ?_
        refine awp_cond_f rfl ?_
        refine awp_exit ?_
        refine awp_seq ?_
        refine awp_region ?_
        first | refine r_lda ty_37 rfl rfl rfl rfl trivial rfl ?_ | refine r_ldra ty_37 rfl rfl rfl trivial rfl ?_ | refine r_ldoa ty_37 rfl rfl (by first | rfl | assumption) rfl rfl trivial rfl ?_
        first | refine r_st ty_37 rfl rfl rfl rfl rfl rfl rfl trivial ?_ | refine r_sto ty_37 rfl rfl rfl rfl (by first | rfl | assumption) rfl rfl trivial ?_
        refine reg_nil ?_
        refine awp_ret ?_
        refine fin0 (.cons (.agg rfl rfl ty_37 (Nat.le_of_ble_eq_true rfl)) .nil) (.aggf' (l := encEv ⟨5, 0, 0, 0, false, (atoiV a), 0, 0⟩) rfl) ?_
        (rw [eventP, hw]; simp [eventWs, wordL, argV])
      · refine awp_region ?_
        first | refine r_fld fld_37_0 rfl trivial rfl ?_ | refine r_fldr fld_37_0 rfl trivial rfl ?_
        first | refine r_ld ty_3 rfl rfl rfl trivial rfl ?_ | refine r_ldr ty_3 rfl rfl trivial rfl ?_ | refine r_ldo ty_3 rfl rfl (by first | rfl | assumption) rfl trivial rfl ?_
        refine r_eqi rfl rfl trivial rfl ?_
        refine r_mv rfl trivial rfl ?_
        refine r_skip ⟨_, rfl, .inl rfl⟩ rfl ?_
        refine r_skip ⟨_, rfl, .inl rfl⟩ rfl ?_
        refine r_skip ⟨_, rfl, .inl rfl⟩ rfl ?_
        refine r_skip ⟨_, rfl, .inl rfl⟩ rfl ?_
        refine r_skip ⟨_, rfl, .inl rfl⟩ rfl ?_
        refine r_skip ⟨_, rfl, .inl rfl⟩ rfl ?_
        refine r_skip ⟨_, rfl, .inl rfl⟩ rfl ?_
        refine r_pkf rfl rfl trivial rfl ?_
        first | refine r_fld fld_37_4 rfl trivial rfl ?_ | refine r_fldr fld_37_4 rfl trivial rfl ?_
        first | refine r_st ty_4 rfl rfl rfl rfl rfl rfl rfl trivial ?_ | refine r_sto ty_4 rfl rfl rfl rfl (by first | rfl | assumption) rfl rfl trivial ?_
        refine reg_nil ?_
        refine awp_seq ?_
        refine awp_seq ?_
        refine awp_region ?_
        refine r_callh [(0, 1), (1, 2)] 3 2 (nums_5 0 0 0 false 0 0 0) cb_23 rfl rfl rfl ?_ (.cons rfl .nil) rfl rfl rfl rfl trivial rfl ?_
        · (repeat (first | exact .nil | refine .cons .fv ?_ | refine .cons (.aggf' rfl) ?_ | refine .cons .nil ?_ | refine .cons (.ren rfl) ?_))
        first | refine r_lenr sl_58 rfl trivial rfl ?_ | refine r_lenw sl_58 rfl trivial rfl ?_ | refine r_len0 sl_58 rfl trivial rfl ?_
        refine r_mv rfl trivial rfl ?_
        refine reg_nil ?_
        refine awp_block ?_
        refine awp_unroll 4 ?_
        refine unr_succ ?_
        refine awp_seq ?_
        refine awp_region ?_
        refine r_lss rfl rfl trivial rfl ?_
        refine reg_nil ?_
        refine awp_seq ?_
        refine awp_cond_t rfl ?_
        refine awp_skip ?_
        refine awp_seq ?_
        refine awp_block ?_
        refine awp_seq ?_
        refine awp_region ?_
        refine r_mv rfl trivial rfl ?_
        first | refine r_ixr sl_58 ty_53 rfl rfl (by first | omega | (simp; done) | (simp [strF]; omega)) rfl trivial rfl ?_ | refine r_ixw sl_58 ty_53 rfl rfl (by first | omega | (simp; done) | (simp [strF]; omega)) (by first | omega | simp) trivial rfl ?_
        first | refine r_ld ty_53 rfl rfl rfl trivial rfl ?_ | refine r_ldr ty_53 rfl rfl trivial rfl ?_ | refine r_ldo ty_53 rfl rfl (by first | rfl | assumption) rfl trivial rfl ?_
        refine r_as rfl trivial rfl ?_
        refine r_as rfl trivial rfl ?_
        refine reg_nil ?_
        refine awp_seq ?_
        refine awp_region ?_
        refine r_mv rfl trivial rfl ?_
        refine r_add rfl rfl (rng64 (by first | omega | (simp [strF]; done) | (simp [strF]; omega))) trivial rfl ?_
        refine r_mv rfl trivial rfl ?_
        first | refine r_lenr sl_69 rfl trivial rfl ?_ | refine r_lenw sl_69 rfl trivial rfl ?_ | refine r_len0 sl_69 rfl trivial rfl ?_
        refine r_lss rfl rfl trivial rfl ?_
        refine reg_nil ?_
        refine awp_cond_yes rfl (by first | (simp [strF]; done) | (simp [strF]; omega)) ?_
        refine awp_region ?_
        refine r_mv rfl trivial rfl ?_
        refine r_mv rfl trivial rfl ?_
        refine r_mv rfl trivial rfl ?_
        refine r_add rfl rfl (rng64 (by first | omega | (simp [strF]; done) | (simp [strF]; omega))) trivial rfl ?_
        first | refine r_ixr sl_69 ty_9 rfl rfl (by first | omega | (simp; done) | (simp [strF]; omega)) rfl trivial rfl ?_ | refine r_ixw sl_69 ty_9 rfl rfl (by first | omega | (simp; done) | (simp [strF]; omega)) (by first | omega | simp) trivial rfl ?_
        first | refine r_ld ty_9 rfl rfl rfl trivial rfl ?_ | refine r_ldr ty_9 rfl rfl trivial rfl ?_ | refine r_ldo ty_9 rfl rfl (by first | rfl | assumption) rfl trivial rfl ?_
        refine r_call (atoi_ok a (by have := splitSp_le _ a (by rw [hw]; simp); have := trim_len l [10]; omega)) cb_35 rfl rfl rfl ?_ trivial rfl ?_
        · (repeat (first | exact .nil | refine .cons .fv ?_ | refine .cons (.aggf' rfl) ?_ | refine .cons .nil ?_ | refine .cons (.ren rfl) ?_))
        refine r_mv rfl trivial rfl ?_
        refine r_ext rfl rfl trivial rfl ?_
        refine r_ext rfl rfl trivial rfl ?_
        first | refine r_nilck rfl trivial rfl ?_ | refine r_nilckr rfl trivial rfl ?_ | refine r_nilckf rfl trivial rfl ?_
        first | refine r_st ty_3 rfl rfl rfl rfl rfl rfl rfl trivial ?_ | refine r_sto ty_3 rfl rfl rfl rfl (by first | rfl | assumption) rfl rfl trivial ?_
        refine reg_nil ?_
        refine awp_region ?_
        refine r_add rfl rfl (rng64 (by first | omega | (simp [strF]; done) | (simp [strF]; omega))) trivial rfl ?_
        refine r_mv rfl trivial rfl ?_
        refine reg_nil ?_
        refine unr_succ ?_
        refine awp_seq ?_
        refine awp_region ?_
        refine r_lss rfl rfl trivial rfl ?_
        refine reg_nil ?_
        refine awp_seq ?_
        refine awp_cond_t rfl ?_
        refine awp_skip ?_
        refine awp_seq ?_
        refine awp_block ?_
        refine awp_seq ?_
        refine awp_region ?_
        refine r_mv rfl trivial rfl ?_
        first | refine r_ixr sl_58 ty_53 rfl rfl (by first | omega | (simp; done) | (simp [strF]; omega)) rfl trivial rfl ?_ | refine r_ixw sl_58 ty_53 rfl rfl (by first | omega | (simp; done) | (simp [strF]; omega)) (by first | omega | simp) trivial rfl ?_
        first | refine r_ld ty_53 rfl rfl rfl trivial rfl ?_ | refine r_ldr ty_53 rfl rfl trivial rfl ?_ | refine r_ldo ty_53 rfl rfl (by first | rfl | assumption) rfl trivial rfl ?_
        refine r_as rfl trivial rfl ?_
        refine r_as rfl trivial rfl ?_
        refine reg_nil ?_
        refine awp_seq ?_
        refine awp_region ?_
        refine r_mv rfl trivial rfl ?_
        refine r_add rfl rfl (rng64 (by first | omega | (simp [strF]; done) | (simp [strF]; omega))) trivial rfl ?_
        refine r_mv rfl trivial rfl ?_
        first | refine r_lenr sl_69 rfl trivial rfl ?_ | refine r_lenw sl_69 rfl trivial rfl ?_ | refine r_len0 sl_69 rfl trivial rfl ?_
        refine r_lss rfl rfl trivial rfl ?_
        refine reg_nil ?_
        refine awp_cond_yes rfl (by first | (simp [strF]; done) | (simp [strF]; omega)) ?_
        refine awp_region ?_
        refine r_mv rfl trivial rfl ?_
        refine r_mv rfl trivial rfl ?_
        refine r_mv rfl trivial rfl ?_
        refine r_add rfl rfl (rng64 (by first | omega | (simp [strF]; done) | (simp [strF]; omega))) trivial rfl ?_
        first | refine r_ixr sl_69 ty_9 rfl rfl (by first | omega | (simp; done) | (simp [strF]; omega)) rfl trivial rfl ?_ | refine r_ixw sl_69 ty_9 rfl rfl (by first | omega | (simp; done) | (simp [strF]; omega)) (by first | omega | simp) trivial rfl ?_
        first | refine r_ld ty_9 rfl rfl rfl trivial rfl ?_ | refine r_ldr ty_9 rfl rfl trivial rfl ?_ | refine r_ldo ty_9 rfl rfl (by first | rfl | assumption) rfl trivial rfl ?_
        refine r_call (atoi_ok b (by have := splitSp_le _ b (by rw [hw]; simp); have := trim_len l [10]; omega)) cb_35 rfl rfl rfl ?_ trivial rfl ?_
        · (repeat (first | exact .nil | refine .cons .fv ?_ | refine .cons (.aggf' rfl) ?_ | refine .cons .nil ?_ | refine .cons (.ren rfl) ?_))
        refine r_mv rfl trivial rfl ?_
        refine r_ext rfl rfl trivial rfl ?_
        refine r_ext rfl rfl trivial rfl ?_
        first | refine r_nilck rfl trivial rfl ?_ | refine r_nilckr rfl trivial rfl ?_ | refine r_nilckf rfl trivial rfl ?_
        first | refine r_st ty_3 rfl rfl rfl rfl rfl rfl rfl trivial ?_ | refine r_sto ty_3 rfl rfl rfl rfl (by first | rfl | assumption) rfl rfl trivial ?_
        refine reg_nil ?_
        refine awp_region ?_
        refine r_add rfl rfl (rng64 (by first | omega | (simp [strF]; done) | (simp [strF]; omega))) trivial rfl ?_
        refine r_mv rfl trivial rfl ?_
        refine reg_nil ?_
        refine unr_succ ?_
        refine awp_seq ?_
        refine awp_region ?_
        refine r_lss rfl rfl trivial rfl ?_
        refine reg_nil ?_
        refine awp_seq ?_
        refine awp_cond_t rfl ?_
        refine awp_skip ?_
        refine awp_seq ?_
        refine awp_block ?_
        refine awp_seq ?_
        refine awp_region ?_
        refine r_mv rfl trivial rfl ?_
        first | refine r_ixr sl_58 ty_53 rfl rfl (by first | omega | (simp; done) | (simp [strF]; omega)) rfl trivial rfl ?_ | refine r_ixw sl_58 ty_53 rfl rfl (by first | omega | (simp; done) | (simp [strF]; omega)) (by first | omega | simp) trivial rfl ?_
        first | refine r_ld ty_53 rfl rfl rfl trivial rfl ?_ | refine r_ldr ty_53 rfl rfl trivial rfl ?_ | refine r_ldo ty_53 rfl rfl (by first | rfl | assumption) rfl trivial rfl ?_
        refine r_as rfl trivial rfl ?_
        refine r_as rfl trivial rfl ?_
        refine reg_nil ?_
        refine awp_seq ?_
        refine awp_region ?_
        refine r_mv rfl trivial rfl ?_
        refine r_add rfl rfl (rng64 (by first | omega | (simp [strF]; done) | (simp [strF]; omega))) trivial rfl ?_
        refine r_mv rfl trivial rfl ?_
        first | refine r_lenr sl_69 rfl trivial rfl ?_ | refine r_lenw sl_69 rfl trivial rfl ?_ | refine r_len0 sl_69 rfl trivial rfl ?_
        refine r_lss rfl rfl trivial rfl ?_
        refine reg_nil ?_
        refine awp_cond_no rfl (by simp [strF]) ?_
        refine awp_skip ?_
        refine awp_region ?_
        refine r_add rfl rfl (rng64 (by first | omega | (simp [strF]; done) | (simp [strF]; omega))) trivial rfl ?_
        refine r_mv rfl trivial rfl ?_
        refine reg_nil ?_
        refine unr_succ ?_
        refine awp_seq ?_
        refine awp_region ?_
        refine r_lss rfl rfl trivial rfl ?_
        refine reg_nil ?_
        refine awp_seq ?_
        refine awp_cond_f rfl ?_
        refine awp_exit ?_
        refine awp_seq ?_
        refine awp_region ?_
        first | refine r_lda ty_37 rfl rfl rfl rfl trivial rfl ?_ | refine r_ldra ty_37 rfl rfl rfl trivial rfl ?_ | refine r_ldoa ty_37 rfl rfl (by first | rfl | assumption) rfl rfl trivial rfl ?_
        first | refine r_st ty_37 rfl rfl rfl rfl rfl rfl rfl trivial ?_ | refine r_sto ty_37 rfl rfl rfl rfl (by first | rfl | assumption) rfl rfl trivial ?_
        refine reg_nil ?_
        refine awp_ret ?_
        refine fin0 (.cons (.agg rfl rfl ty_37 (Nat.le_of_ble_eq_true rfl)) .nil) (.aggf' (l := encEv ⟨5, 0, 0, 0, false, (atoiV a), (atoiV b), 0⟩) rfl) ?_
        (rw [eventP, hw]; simp [eventWs, wordL, argV])
      · refine awp_region ?_
        first | refine r_fld fld_37_0 rfl trivial rfl ?_ | refine r_fldr fld_37_0 rfl trivial rfl ?_
        first | refine r_ld ty_3 rfl rfl rfl trivial rfl ?_ | refine r_ldr ty_3 rfl rfl trivial rfl ?_ | refine r_ldo ty_3 rfl rfl (by first | rfl | assumption) rfl trivial rfl ?_
        refine r_eqi rfl rfl trivial rfl ?_
        refine r_mv rfl trivial rfl ?_
        refine r_skip ⟨_, rfl, .inl rfl⟩ rfl ?_
        refine r_skip ⟨_, rfl, .inl rfl⟩ rfl ?_
        refine r_skip ⟨_, rfl, .inl rfl⟩ rfl ?_
        refine r_skip ⟨_, rfl, .inl rfl⟩ rfl ?_
        refine r_skip ⟨_, rfl, .inl rfl⟩ rfl ?_
        refine r_skip ⟨_, rfl, .inl rfl⟩ rfl ?_
        refine r_skip ⟨_, rfl, .inl rfl⟩ rfl ?_
        refine r_pkf rfl rfl trivial rfl ?_
        first | refine r_fld fld_37_4 rfl trivial rfl ?_ | refine r_fldr fld_37_4 rfl trivial rfl ?_
        first | refine r_st ty_4 rfl rfl rfl rfl rfl rfl rfl trivial ?_ | refine r_sto ty_4 rfl rfl rfl rfl (by first | rfl | assumption) rfl rfl trivial ?_
        refine reg_nil ?_
        refine awp_seq ?_
        refine awp_seq ?_
        refine awp_region ?_
        refine r_callh [(0, 1), (1, 2)] 3 2 (nums_5 0 0 0 false 0 0 0) cb_23 rfl rfl rfl ?_ (.cons rfl .nil) rfl rfl rfl rfl trivial rfl ?_
        · (repeat (first | exact .nil | refine .cons .fv ?_ | refine .cons (.aggf' rfl) ?_ | refine .cons .nil ?_ | refine .cons (.ren rfl) ?_))
        first | refine r_lenr sl_58 rfl trivial rfl ?_ | refine r_lenw sl_58 rfl trivial rfl ?_ | refine r_len0 sl_58 rfl trivial rfl ?_
        refine r_mv rfl trivial rfl ?_
        refine reg_nil ?_
        refine awp_block ?_
        refine awp_unroll 4 ?_
        refine unr_succ ?_
        refine awp_seq ?_
        refine awp_region ?_
        refine r_lss rfl rfl trivial rfl ?_
        refine reg_nil ?_
        refine awp_seq ?_
        refine awp_cond_t rfl ?_
        refine awp_skip ?_
        refine awp_seq ?_
        refine awp_block ?_
        refine awp_seq ?_
        refine awp_region ?_
        refine r_mv rfl trivial rfl ?_
        first | refine r_ixr sl_58 ty_53 rfl rfl (by first | omega | (simp; done) | (simp [strF]; omega)) rfl trivial rfl ?_ | refine r_ixw sl_58 ty_53 rfl rfl (by first | omega | (simp; done) | (simp [strF]; omega)) (by first | omega | simp) trivial rfl ?_
        first | refine r_ld ty_53 rfl rfl rfl trivial rfl ?_ | refine r_ldr ty_53 rfl rfl trivial rfl ?_ | refine r_ldo ty_53 rfl rfl (by first | rfl | assumption) rfl trivial rfl ?_
        refine r_as rfl trivial rfl ?_
        refine r_as rfl trivial rfl ?_
        refine reg_nil ?_
        refine awp_seq ?_
        refine awp_region ?_
        refine r_mv rfl trivial rfl ?_
        refine r_add rfl rfl (rng64 (by first | omega | (simp [strF]; done) | (simp [strF]; omega))) trivial rfl ?_
        refine r_mv rfl trivial rfl ?_
        first | refine r_lenr sl_69 rfl trivial rfl ?_ | refine r_lenw sl_69 rfl trivial rfl ?_ | refine r_len0 sl_69 rfl trivial rfl ?_
        refine r_lss rfl rfl trivial rfl ?_
        refine reg_nil ?_
        refine awp_cond_yes rfl (by first | (simp [strF]; done) | (simp [strF]; omega)) ?_
        refine awp_region ?_
        refine r_mv rfl trivial rfl ?_
        refine r_mv rfl trivial rfl ?_
        refine r_mv rfl trivial rfl ?_
        refine r_add rfl rfl (rng64 (by first | omega | (simp [strF]; done) | (simp [strF]; omega))) trivial rfl ?_
        first | refine r_ixr sl_69 ty_9 rfl rfl (by first | omega | (simp; done) | (simp [strF]; omega)) rfl trivial rfl ?_ | refine r_ixw sl_69 ty_9 rfl rfl (by first | omega | (simp; done) | (simp [strF]; omega)) (by first | omega | simp) trivial rfl ?_
        first | refine r_ld ty_9 rfl rfl rfl trivial rfl ?_ | refine r_ldr ty_9 rfl rfl trivial rfl ?_ | refine r_ldo ty_9 rfl rfl (by first | rfl | assumption) rfl trivial rfl ?_
        refine r_call (atoi_ok a (by have := splitSp_le _ a (by rw [hw]; simp); have := trim_len l [10]; omega)) cb_35 rfl rfl rfl ?_ trivial rfl ?_
        · (repeat (first | exact .nil | refine .cons .fv ?_ | refine .cons (.aggf' rfl) ?_ | refine .cons .nil ?_ | refine .cons (.ren rfl) ?_))
        refine r_mv rfl trivial rfl ?_
        refine r_ext rfl rfl trivial rfl ?_
        refine r_ext rfl rfl trivial rfl ?_
        first | refine r_nilck rfl trivial rfl ?_ | refine r_nilckr rfl trivial rfl ?_ | refine r_nilckf rfl trivial rfl ?_
        first | refine r_st ty_3 rfl rfl rfl rfl rfl rfl rfl trivial ?_ | refine r_sto ty_3 rfl rfl rfl rfl (by first | rfl | assumption) rfl rfl trivial ?_
        refine reg_nil ?_
        refine awp_region ?_
        refine r_add rfl rfl (rng64 (by first | omega | (simp [strF]; done) | (simp [strF]; omega))) trivial rfl ?_
        refine r_mv rfl trivial rfl ?_
        refine reg_nil ?_
        refine unr_succ ?_
        refine awp_seq ?_
        refine awp_region ?_
        refine r_lss rfl rfl trivial rfl ?_
        refine reg_nil ?_
        refine awp_seq ?_
        refine awp_cond_t rfl ?_
        refine awp_skip ?_
        refine awp_seq ?_
        refine awp_block ?_
        refine awp_seq ?_
        refine awp_region ?_
        refine r_mv rfl trivial rfl ?_
        first | refine r_ixr sl_58 ty_53 rfl rfl (by first | omega | (simp; done) | (simp [strF]; omega)) rfl trivial rfl ?_ | refine r_ixw sl_58 ty_53 rfl rfl (by first | omega | (simp; done) | (simp [strF]; omega)) (by first | omega | simp) trivial rfl ?_
        first | refine r_ld ty_53 rfl rfl rfl trivial rfl ?_ | refine r_ldr ty_53 rfl rfl trivial rfl ?_ | refine r_ldo ty_53 rfl rfl (by first | rfl | assumption) rfl trivial rfl ?_
        refine r_as rfl trivial rfl ?_
        refine r_as rfl trivial rfl ?_
        refine reg_nil ?_
        refine awp_seq ?_
        refine awp_region ?_
        refine r_mv rfl trivial rfl ?_
        refine r_add rfl rfl (rng64 (by first | omega | (simp [strF]; done) | (simp [strF]; omega))) trivial rfl ?_
        refine r_mv rfl trivial rfl ?_
        first | refine r_lenr sl_69 rfl trivial rfl ?_ | refine r_lenw sl_69 rfl trivial rfl ?_ | refine r_len0 sl_69 rfl trivial rfl ?_
        refine r_lss rfl rfl trivial rfl ?_
        refine reg_nil ?_
        refine awp_cond_yes rfl (by first | (simp [strF]; done) | (simp [strF]; omega)) ?_
        refine awp_region ?_
        refine r_mv rfl trivial rfl ?_
        refine r_mv rfl trivial rfl ?_
        refine r_mv rfl trivial rfl ?_
        refine r_add rfl rfl (rng64 (by first | omega | (simp [strF]; done) | (simp [strF]; omega))) trivial rfl ?_
        first | refine r_ixr sl_69 ty_9 rfl rfl (by first | omega | (simp; done) | (simp [strF]; omega)) rfl trivial rfl ?_ | refine r_ixw sl_69 ty_9 rfl rfl (by first | omega | (simp; done) | (simp [strF]; omega)) (by first | omega | simp) trivial rfl ?_
        first | refine r_ld ty_9 rfl rfl rfl trivial rfl ?_ | refine r_ldr ty_9 rfl rfl trivial rfl ?_ | refine r_ldo ty_9 rfl rfl (by first | rfl | assumption) rfl trivial rfl ?_
        refine r_call (atoi_ok b (by have := splitSp_le _ b (by rw [hw]; simp); have := trim_len l [10]; omega)) cb_35 rfl rfl rfl ?_ trivial rfl ?_
        · (repeat (first | exact .nil | refine .cons .fv ?_ | refine .cons (.aggf' rfl) ?_ | refine .cons .nil ?_ | refine .cons (.ren rfl) ?_))
        refine r_mv rfl trivial rfl ?_
        refine r_ext rfl rfl trivial rfl ?_
        refine r_ext rfl rfl trivial rfl ?_
        first | refine r_nilck rfl trivial rfl ?_ | refine r_nilckr rfl trivial rfl ?_ | refine r_nilckf rfl trivial rfl ?_
        first | refine r_st ty_3 rfl rfl rfl rfl rfl rfl rfl trivial ?_ | refine r_sto ty_3 rfl rfl rfl rfl (by first | rfl | assumption) rfl rfl trivial ?_
        refine reg_nil ?_
        refine awp_region ?_
        refine r_add rfl rfl (rng64 (by first | omega | (simp [strF]; done) | (simp [strF]; omega))) trivial rfl ?_
        refine r_mv rfl trivial rfl ?_
        refine reg_nil ?_
        refine unr_succ ?_
        refine awp_seq ?_
        refine awp_region ?_
        refine r_lss rfl rfl trivial rfl ?_
        refine reg_nil ?_
        refine awp_seq ?_
        refine awp_cond_t rfl ?_
        refine awp_skip ?_
        refine awp_seq ?_
        refine awp_block ?_
        refine awp_seq ?_
        refine awp_region ?_
        refine r_mv rfl trivial rfl ?_
        first | refine r_ixr sl_58 ty_53 rfl rfl (by first | omega | (simp; done) | (simp [strF]; omega)) rfl trivial rfl ?_ | refine r_ixw sl_58 ty_53 rfl rfl (by first | omega | (simp; done) | (simp [strF]; omega)) (by first | omega | simp) trivial rfl ?_
        first | refine r_ld ty_53 rfl rfl rfl trivial rfl ?_ | refine r_ldr ty_53 rfl rfl trivial rfl ?_ | refine r_ldo ty_53 rfl rfl (by first | rfl | assumption) rfl trivial rfl ?_
        refine r_as rfl trivial rfl ?_
        refine r_as rfl trivial rfl ?_
        refine reg_nil ?_
        refine awp_seq ?_
        refine awp_region ?_
        refine r_mv rfl trivial rfl ?_
        refine r_add rfl rfl (rng64 (by first | omega | (simp [strF]; done) | (simp [strF]; omega))) trivial rfl ?_
        refine r_mv rfl trivial rfl ?_
        first | refine r_lenr sl_69 rfl trivial rfl ?_ | refine r_lenw sl_69 rfl trivial rfl ?_ | refine r_len0 sl_69 rfl trivial rfl ?_
        refine r_lss rfl rfl trivial rfl ?_
        refine reg_nil ?_
        refine awp_cond_yes rfl (by first | (simp [strF]; done) | (simp [strF]; omega)) ?_
        refine awp_region ?_
        refine r_mv rfl trivial rfl ?_
        refine r_mv rfl trivial rfl ?_
        refine r_mv rfl trivial rfl ?_
        refine r_add rfl rfl (rng64 (by first | omega | (simp [strF]; done) | (simp [strF]; omega))) trivial rfl ?_
        first | refine r_ixr sl_69 ty_9 rfl rfl (by first | omega | (simp; done) | (simp [strF]; omega)) rfl trivial rfl ?_ | refine r_ixw sl_69 ty_9 rfl rfl (by first | omega | (simp; done) | (simp [strF]; omega)) (by first | omega | simp) trivial rfl ?_
        first | refine r_ld ty_9 rfl rfl rfl trivial rfl ?_ | refine r_ldr ty_9 rfl rfl trivial rfl ?_ | refine r_ldo ty_9 rfl rfl (by first | rfl | assumption) rfl trivial rfl ?_
        refine r_call (atoi_ok c (by have := splitSp_le _ c (by rw [hw]; simp); have := trim_len l [10]; omega)) cb_35 rfl rfl rfl ?_ trivial rfl ?_
        · (repeat (first | exact .nil | refine .cons .fv ?_ | refine .cons (.aggf' rfl) ?_ | refine .cons .nil ?_ | refine .cons (.ren rfl) ?_))
        refine r_mv rfl trivial rfl ?_
        refine r_ext rfl rfl trivial rfl ?_
        refine r_ext rfl rfl trivial rfl ?_
        first | refine r_nilck rfl trivial rfl ?_ | refine r_nilckr rfl trivial rfl ?_ | refine r_nilckf rfl trivial rfl ?_
        first | refine r_st ty_3 rfl rfl rfl rfl rfl rfl rfl trivial ?_ | refine r_sto ty_3 rfl rfl rfl rfl (by first | rfl | assumption) rfl rfl trivial ?_
        refine reg_nil ?_
        refine awp_region ?_
        refine r_add rfl rfl (rng64 (by first | omega | (simp [strF]; done) | (simp [strF]; omega))) trivial rfl ?_
        refine r_mv rfl trivial rfl ?_
        refine reg_nil ?_
        refine unr_succ ?_
        refine awp_seq ?_
        refine awp_region ?_
        refine r_lss rfl rfl trivial rfl ?_
        refine reg_nil ?_
        refine awp_seq ?_
        refine awp_cond_f rfl ?_
        refine awp_exit ?_
        refine awp_seq ?_
        refine awp_region ?_
        first | refine r_lda ty_37 rfl rfl rfl rfl trivial rfl ?_ | refine r_ldra ty_37 rfl rfl rfl trivial rfl ?_ | refine r_ldoa ty_37 rfl rfl (by first | rfl | assumption) rfl rfl trivial rfl ?_
        first | refine r_st ty_37 rfl rfl rfl rfl rfl rfl rfl trivial ?_ | refine r_sto ty_37 rfl rfl rfl rfl (by first | rfl | assumption) rfl rfl trivial ?_
        refine reg_nil ?_
        refine awp_ret ?_
        refine fin0 (.cons (.agg rfl rfl ty_37 (Nat.le_of_ble_eq_true rfl)) .nil) (.aggf' (l := encEv ⟨5, 0, 0, 0, false, (atoiV a), (atoiV b), (atoiV c)⟩) rfl) ?_
        (rw [eventP, hw]; simp [eventWs, wordL, argV])
      · refine awp_region ?_
        first | refine r_fld fld_37_0 rfl trivial rfl ?_ | refine r_fldr fld_37_0 rfl trivial rfl ?_
        first | refine r_ld ty_3 rfl rfl rfl trivial rfl ?_ | refine r_ldr ty_3 rfl rfl trivial rfl ?_ | refine r_ldo ty_3 rfl rfl (by first | rfl | assumption) rfl trivial rfl ?_
        refine r_eqi rfl rfl trivial rfl ?_
        refine r_mv rfl trivial rfl ?_
        refine r_skip ⟨_, rfl, .inl rfl⟩ rfl ?_
        refine r_skip ⟨_, rfl, .inl rfl⟩ rfl ?_
        refine r_skip ⟨_, rfl, .inl rfl⟩ rfl ?_
        refine r_skip ⟨_, rfl, .inl rfl⟩ rfl ?_
        refine r_skip ⟨_, rfl, .inl rfl⟩ rfl ?_
        refine r_skip ⟨_, rfl, .inl rfl⟩ rfl ?_
        refine r_skip ⟨_, rfl, .inl rfl⟩ rfl ?_
        refine r_pkf rfl rfl trivial rfl ?_
        first | refine r_fld fld_37_4 rfl trivial rfl ?_ | refine r_fldr fld_37_4 rfl trivial rfl ?_
        first | refine r_st ty_4 rfl rfl rfl rfl rfl rfl rfl trivial ?_ | refine r_sto ty_4 rfl rfl rfl rfl (by first | rfl | assumption) rfl rfl trivial ?_
        refine reg_nil ?_
        refine awp_seq ?_
        refine awp_seq ?_
        refine awp_region ?_
        refine r_callh [(0, 1), (1, 2)] 3 2 (nums_6 0 0 0 false 0 0 0) cb_23 rfl rfl rfl ?_ (.cons rfl .nil) rfl rfl rfl rfl trivial rfl ?_
        · (repeat (first | exact .nil | refine .cons .fv ?_ | refine .cons (.aggf' rfl) ?_ | refine .cons .nil ?_ | refine .cons (.ren rfl) ?_))
        first | refine r_lenr sl_58 rfl trivial rfl ?_ | refine r_lenw sl_58 rfl trivial rfl ?_ | refine r_len0 sl_58 rfl trivial rfl ?_
        refine r_mv rfl trivial rfl ?_
        refine reg_nil ?_
        refine awp_block ?_
        refine awp_unroll 3 ?_
        refine unr_succ ?_
        refine awp_seq ?_
        refine awp_region ?_
        refine r_lss rfl rfl trivial rfl ?_
        refine reg_nil ?_
        refine awp_seq ?_
        refine awp_cond_t rfl ?_
        refine awp_skip ?_
        refine awp_seq ?_
        refine awp_block ?_
        refine awp_seq ?_
        refine awp_region ?_
        refine r_mv rfl trivial rfl ?_
        first | refine r_ixr sl_58 ty_53 rfl rfl (by first | omega | (simp; done) | (simp [strF]; omega)) rfl trivial rfl ?_ | refine r_ixw sl_58 ty_53 rfl rfl (by first | omega | (simp; done) | (simp [strF]; omega)) (by first | omega | simp) trivial rfl ?_
        first | refine r_ld ty_53 rfl rfl rfl trivial rfl ?_ | refine r_ldr ty_53 rfl rfl trivial rfl ?_ | refine r_ldo ty_53 rfl rfl (by first | rfl | assumption) rfl trivial rfl ?_
        refine r_as rfl trivial rfl ?_
        refine r_as rfl trivial rfl ?_
        refine reg_nil ?_
        refine awp_seq ?_
        refine awp_region ?_
        refine r_mv rfl trivial rfl ?_
        refine r_add rfl rfl (rng64 (by first | omega | (simp [strF]; done) | (simp [strF]; omega))) trivial rfl ?_
        refine r_mv rfl trivial rfl ?_
        first | refine r_lenr sl_69 rfl trivial rfl ?_ | refine r_lenw sl_69 rfl trivial rfl ?_ | refine r_len0 sl_69 rfl trivial rfl ?_
        refine r_lss rfl rfl trivial rfl ?_
        refine reg_nil ?_
        refine awp_cond_no rfl (by simp [strF]) ?_
        refine awp_skip ?_
        refine awp_region ?_
        refine r_add rfl rfl (rng64 (by first | omega | (simp [strF]; done) | (simp [strF]; omega))) trivial rfl ?_
        refine r_mv rfl trivial rfl ?_
        refine reg_nil ?_
        refine unr_succ ?_
        refine awp_seq ?_
        refine awp_region ?_
        refine r_lss rfl rfl trivial rfl ?_
        refine reg_nil ?_
        refine awp_seq ?_
        refine awp_cond_t rfl ?_
        refine awp_skip ?_
        refine awp_seq ?_
        refine awp_block ?_
        refine awp_seq ?_
        refine awp_region ?_
        refine r_mv rfl trivial rfl ?_
        first | refine r_ixr sl_58 ty_53 rfl rfl (by first | omega | (simp; done) | (simp [strF]; omega)) rfl trivial rfl ?_ | refine r_ixw sl_58 ty_53 rfl rfl (by first | omega | (simp; done) | (simp [strF]; omega)) (by first | omega | simp) trivial rfl ?_
        first | refine r_ld ty_53 rfl rfl rfl trivial rfl ?_ | refine r_ldr ty_53 rfl rfl trivial rfl ?_ | refine r_ldo ty_53 rfl rfl (by first | rfl | assumption) rfl trivial rfl ?_
        refine r_as rfl trivial rfl ?_
        refine r_as rfl trivial rfl ?_
        refine reg_nil ?_
        refine awp_seq ?_
        refine awp_region ?_
        refine r_mv rfl trivial rfl ?_
        refine r_add rfl rfl (rng64 (by first | omega | (simp [strF]; done) | (simp [strF]; omega))) trivial rfl ?_
        refine r_mv rfl trivial rfl ?_
        first | refine r_lenr sl_69 rfl trivial rfl ?_ | refine r_lenw sl_69 rfl trivial rfl ?_ | refine r_len0 sl_69 rfl trivial rfl ?_
        refine r_lss rfl rfl trivial rfl ?_
        refine reg_nil ?_
        refine awp_cond_no rfl (by simp [strF]) ?_
        refine awp_skip ?_
        refine awp_region ?_
        refine r_add rfl rfl (rng64 (by first | omega | (simp [strF]; done) | (simp [strF]; omega))) trivial rfl ?_
        refine r_mv rfl trivial rfl ?_
        refine reg_nil ?_
        refine unr_succ ?_
        refine awp_seq ?_
        refine awp_region ?_
        refine r_lss rfl rfl trivial rfl ?_
        refine reg_nil ?_
        refine awp_seq ?_
        refine awp_cond_f rfl ?_
        refine awp_exit ?_
        refine awp_seq ?_
        refine awp_region ?_
        first | refine r_lda ty_37 rfl rfl rfl rfl trivial rfl ?_ | refine r_ldra ty_37 rfl rfl rfl trivial rfl ?_ | refine r_ldoa ty_37 rfl rfl (by first | rfl | assumption) rfl rfl trivial rfl ?_
        first | refine r_st ty_37 rfl rfl rfl rfl rfl rfl rfl trivial ?_ | refine r_sto ty_37 rfl rfl rfl rfl (by first | rfl | assumption) rfl rfl trivial ?_
        refine reg_nil ?_
        refine awp_ret ?_
        refine fin0 (.cons (.agg rfl rfl ty_37 (Nat.le_of_ble_eq_true rfl)) .nil) (.aggf' (l := encEv ⟨6, 0, 0, 0, false, 0, 0, 0⟩) rfl) ?_
        (rw [eventP, hw]; simp [eventWs, wordL, argV])
      · refine awp_region ?_
        first | refine r_fld fld_37_0 rfl trivial rfl ?_ | refine r_fldr fld_37_0 rfl trivial rfl ?_
        first | refine r_ld ty_3 rfl rfl rfl trivial rfl ?_ | refine r_ldr ty_3 rfl rfl trivial rfl ?_ | refine r_ldo ty_3 rfl rfl (by first | rfl | assumption) rfl trivial rfl ?_
        refine r_eqi rfl rfl trivial rfl ?_
        refine r_mv rfl trivial rfl ?_
        refine r_skip ⟨_, rfl, .inl rfl⟩ rfl ?_
        refine r_skip ⟨_, rfl, .inl rfl⟩ rfl ?_
        refine r_skip ⟨_, rfl, .inl rfl⟩ rfl ?_
        refine r_skip ⟨_, rfl, .inl rfl⟩ rfl ?_
        refine r_skip ⟨_, rfl, .inl rfl⟩ rfl ?_
        refine r_skip ⟨_, rfl, .inl rfl⟩ rfl ?_
        refine r_skip ⟨_, rfl, .inl rfl⟩ rfl ?_
        refine r_pkf rfl rfl trivial rfl ?_
        first | refine r_fld fld_37_4 rfl trivial rfl ?_ | refine r_fldr fld_37_4 rfl trivial rfl ?_
        first | refine r_st ty_4 rfl rfl rfl rfl rfl rfl rfl trivial ?_ | refine r_sto ty_4 rfl rfl rfl rfl (by first | rfl | assumption) rfl rfl trivial ?_
        refine reg_nil ?_
        refine awp_seq ?_
        refine awp_seq ?_
        refine awp_region ?_
        refine r_callh [(0, 1), (1, 2)] 3 2 (nums_6 0 0 0 false 0 0 0) cb_23 rfl rfl rfl ?_ (.cons rfl .nil) rfl rfl rfl rfl trivial rfl ?_
        · (repeat (first | exact .nil | refine .cons .fv ?_ | refine .cons (.aggf' rfl) ?_ | refine .cons .nil ?_ | refine .cons (.ren rfl) ?_))
        first | refine r_lenr sl_58 rfl trivial rfl ?_ | refine r_lenw sl_58 rfl trivial rfl ?_ | refine r_len0 sl_58 rfl trivial rfl ?_
        refine r_mv rfl trivial rfl ?_
        refine reg_nil ?_
        refine awp_block ?_
        refine awp_unroll 3 ?_
        refine unr_succ ?_
        refine awp_seq ?_
        refine awp_region ?_
        refine r_lss rfl rfl trivial rfl ?_
        refine reg_nil ?_
        refine awp_seq ?_
        refine awp_cond_t rfl ?_
        refine awp_skip ?_
        refine awp_seq ?_
        refine awp_block ?_
        refine awp_seq ?_
        refine awp_region ?_
        refine r_mv rfl trivial rfl ?_
        first | refine r_ixr sl_58 ty_53 rfl rfl (by first | omega | (simp; done) | (simp [strF]; omega)) rfl trivial rfl ?_ | refine r_ixw sl_58 ty_53 rfl rfl (by first | omega | (simp; done) | (simp [strF]; omega)) (by first | omega | simp) trivial rfl ?_
        first | refine r_ld ty_53 rfl rfl rfl trivial rfl ?_ | refine r_ldr ty_53 rfl rfl trivial rfl ?_ | refine r_ldo ty_53 rfl rfl (by first | rfl | assumption) rfl trivial rfl ?_
        refine r_as rfl trivial rfl ?_
        refine r_as rfl trivial rfl ?_
        refine reg_nil ?_
        refine awp_seq ?_
        refine awp_region ?_
        refine r_mv rfl trivial rfl ?_
        refine r_add rfl rfl (rng64 (by first | omega | (simp [strF]; done) | (simp [strF]; omega))) trivial rfl ?_
        refine r_mv rfl trivial rfl ?_
        first | refine r_lenr sl_69 rfl trivial rfl ?_ | refine r_lenw sl_69 rfl trivial rfl ?_ | refine r_len0 sl_69 rfl trivial rfl ?_
        refine r_lss rfl rfl trivial rfl ?_
        refine reg_nil ?_
        refine awp_cond_yes rfl (by first | (simp [strF]; done) | (simp [strF]; omega)) ?_
        refine awp_region ?_
        refine r_mv rfl trivial rfl ?_
        refine r_mv rfl trivial rfl ?_
        refine r_mv rfl trivial rfl ?_
        refine r_add rfl rfl (rng64 (by first | omega | (simp [strF]; done) | (simp [strF]; omega))) trivial rfl ?_
        first | refine r_ixr sl_69 ty_9 rfl rfl (by first | omega | (simp; done) | (simp [strF]; omega)) rfl trivial rfl ?_ | refine r_ixw sl_69 ty_9 rfl rfl (by first | omega | (simp; done) | (simp [strF]; omega)) (by first | omega | simp) trivial rfl ?_
        first | refine r_ld ty_9 rfl rfl rfl trivial rfl ?_ | refine r_ldr ty_9 rfl rfl trivial rfl ?_ | refine r_ldo ty_9 rfl rfl (by first | rfl | assumption) rfl trivial rfl ?_
        refine r_call (atoi_ok a (by have := splitSp_le _ a (by rw [hw]; simp); have := trim_len l [10]; omega)) cb_35 rfl rfl rfl ?_ trivial rfl ?_
        · (repeat (first | exact .nil | refine .cons .fv ?_ | refine .cons (.aggf' rfl) ?_ | refine .cons .nil ?_ | refine .cons (.ren rfl) ?_))
        refine r_mv rfl trivial rfl ?_
        refine r_ext rfl rfl trivial rfl ?_
        refine r_ext rfl rfl trivial rfl ?_
        first | refine r_nilck rfl trivial rfl ?_ | refine r_nilckr rfl trivial rfl ?_ | refine r_nilckf rfl trivial rfl ?_
        first | refine r_st ty_3 rfl rfl rfl rfl rfl rfl rfl trivial ?_ | refine r_sto ty_3 rfl rfl rfl rfl (by first | rfl | assumption) rfl rfl trivial ?_
        refine reg_nil ?_
        refine awp_region ?_
        refine r_add rfl rfl (rng64 (by first | omega | (simp [strF]; done) | (simp [strF]; omega))) trivial rfl ?_
        refine r_mv rfl trivial rfl ?_
        refine reg_nil ?_
        refine unr_succ ?_
        refine awp_seq ?_
        refine awp_region ?_
        refine r_lss rfl rfl trivial rfl ?_
        refine reg_nil ?_
        refine awp_seq ?_
        refine awp_cond_t rfl ?_
        refine awp_skip ?_
        refine awp_seq ?_
        refine awp_block ?_
        refine awp_seq ?_
        refine awp_region ?_
        refine r_mv rfl trivial rfl ?_
        first | refine r_ixr sl_58 ty_53 rfl rfl (by first | omega | (simp; done) | (simp [strF]; omega)) rfl trivial rfl ?_ | refine r_ixw sl_58 ty_53 rfl rfl (by first | omega | (simp; done) | (simp [strF]; omega)) (by first | omega | simp) trivial rfl ?_
        first | refine r_ld ty_53 rfl rfl rfl trivial rfl ?_ | refine r_ldr ty_53 rfl rfl trivial rfl ?_ | refine r_ldo ty_53 rfl rfl (by first | rfl | assumption) rfl trivial rfl ?_
        refine r_as rfl trivial rfl ?_
        refine r_as rfl trivial rfl ?_
        refine reg_nil ?_
        refine awp_seq ?_
        refine awp_region ?_
        refine r_mv rfl trivial rfl ?_
        refine r_add rfl rfl (rng64 (by first | omega | (simp [strF]; done) | (simp [strF]; omega))) trivial rfl ?_
        refine r_mv rfl trivial rfl ?_
        first | refine r_lenr sl_69 rfl trivial rfl ?_ | refine r_lenw sl_69 rfl trivial rfl ?_ | refine r_len0 sl_69 rfl trivial rfl ?_
        refine r_lss rfl rfl trivial rfl ?_
        refine reg_nil ?_
        refine awp_cond_no rfl (by simp [strF]) ?_
        refine awp_skip ?_
        refine awp_region ?_
        refine r_add rfl rfl (rng64 (by first | omega | (simp [strF]; done) | (simp [strF]; omega))) trivial rfl ?_
        refine r_mv rfl trivial rfl ?_
        refine reg_nil ?_
        refine unr_succ ?_
        refine awp_seq ?_
        refine awp_region ?_
        refine r_lss rfl rfl trivial rfl ?_
        refine reg_nil ?_
        refine awp_seq ?_
        refine awp_cond_f rfl ?_
        refine awp_exit ?_
        refine awp_seq ?_
        refine awp_region ?_
        first | refine r_lda ty_37 rfl rfl rfl rfl trivial rfl ?_ | refine r_ldra ty_37 rfl rfl rfl trivial rfl ?_ | refine r_ldoa ty_37 rfl rfl (by first | rfl | assumption) rfl rfl trivial rfl ?_
        first | refine r_st ty_37 rfl rfl rfl rfl rfl rfl rfl trivial ?_ | refine r_sto ty_37 rfl rfl rfl rfl (by first | rfl | assumption) rfl rfl trivial ?_
        refine reg_nil ?_
        refine awp_ret ?_
        refine fin0 (.cons (.agg rfl rfl ty_37 (Nat.le_of_ble_eq_true rfl)) .nil) (.aggf' (l := encEv ⟨6, 0, 0, 0, false, (atoiV a), 0, 0⟩) rfl) ?_
        (rw [eventP, hw]; simp [eventWs, wordL, argV])
      · refine awp_region ?_
        first | refine r_fld fld_37_0 rfl trivial rfl ?_ | refine r_fldr fld_37_0 rfl trivial rfl ?_
        first | refine r_ld ty_3 rfl rfl rfl trivial rfl ?_ | refine r_ldr ty_3 rfl rfl trivial rfl ?_ | refine r_ldo ty_3 rfl rfl (by first | rfl | assumption) rfl trivial rfl ?_
        refine r_eqi rfl rfl trivial rfl ?_
        refine r_mv rfl trivial rfl ?_
        refine r_skip ⟨_, rfl, .inl rfl⟩ rfl ?_
        refine r_skip ⟨_, rfl, .inl rfl⟩ rfl ?_
        refine r_skip ⟨_, rfl, .inl rfl⟩ rfl ?_
        refine r_skip ⟨_, rfl, .inl rfl⟩ rfl ?_
        refine r_skip ⟨_, rfl, .inl rfl⟩ rfl ?_
        refine r_skip ⟨_, rfl, .inl rfl⟩ rfl ?_
        refine r_skip ⟨_, rfl, .inl rfl⟩ rfl ?_
        refine r_pkf rfl rfl trivial rfl ?_
        first | refine r_fld fld_37_4 rfl trivial rfl ?_ | refine r_fldr fld_37_4 rfl trivial rfl ?_
        first | refine r_st ty_4 rfl rfl rfl rfl rfl rfl rfl trivial ?_ | refine r_sto ty_4 rfl rfl rfl rfl (by first | rfl | assumption) rfl rfl trivial ?_
        refine reg_nil ?_
        refine awp_seq ?_
        refine awp_seq ?_
        refine awp_region ?_
        refine r_callh [(0, 1), (1, 2)] 3 2 (nums_6 0 0 0 false 0 0 0) cb_23 rfl rfl rfl ?_ (.cons rfl .nil) rfl rfl rfl rfl trivial rfl ?_
        · (repeat (first | exact .nil | refine .cons .fv ?_ | refine .cons (.aggf' rfl) ?_ | refine .cons .nil ?_ | refine .cons (.ren rfl) ?_))
        first | refine r_lenr sl_58 rfl trivial rfl ?_ | refine r_lenw sl_58 rfl trivial rfl ?_ | refine r_len0 sl_58 rfl trivial rfl ?_
        refine r_mv rfl trivial rfl ?_
        refine reg_nil ?_
        refine awp_block ?_
        refine awp_unroll 3 ?_
        refine unr_succ ?_
        refine awp_seq ?_
        refine awp_region ?_
        refine r_lss rfl rfl trivial rfl ?_
        refine reg_nil ?_
        refine awp_seq ?_
        refine awp_cond_t rfl ?_
        refine awp_skip ?_
        refine awp_seq ?_
        refine awp_block ?_
        refine awp_seq ?_
        refine awp_region ?_
        refine r_mv rfl trivial rfl ?_
        first | refine r_ixr sl_58 ty_53 rfl rfl (by first | omega | (simp; done) | (simp [strF]; omega)) rfl trivial rfl ?_ | refine r_ixw sl_58 ty_53 rfl rfl (by first | omega | (simp; done) | (simp [strF]; omega)) (by first | omega | simp) trivial rfl ?_
        first | refine r_ld ty_53 rfl rfl rfl trivial rfl ?_ | refine r_ldr ty_53 rfl rfl trivial rfl ?_ | refine r_ldo ty_53 rfl rfl (by first | rfl | assumption) rfl trivial rfl ?_
        refine r_as rfl trivial rfl ?_
        refine r_as rfl trivial rfl ?_
        refine reg_nil ?_
        refine awp_seq ?_
        refine awp_region ?_
        refine r_mv rfl trivial rfl ?_
        refine r_add rfl rfl (rng64 (by first | omega | (simp [strF]; done) | (simp [strF]; omega))) trivial rfl ?_
        refine r_mv rfl trivial rfl ?_
        first | refine r_lenr sl_69 rfl trivial rfl ?_ | refine r_lenw sl_69 rfl trivial rfl ?_ | refine r_len0 sl_69 rfl trivial rfl ?_
        refine r_lss rfl rfl trivial rfl ?_
        refine reg_nil ?_
        refine awp_cond_yes rfl (by first | (simp [strF]; done) | (simp [strF]; omega)) ?_
        refine awp_region ?_
        refine r_mv rfl trivial rfl ?_
        refine r_mv rfl trivial rfl ?_
        refine r_mv rfl trivial rfl ?_
        refine r_add rfl rfl (rng64 (by first | omega | (simp [strF]; done) | (simp [strF]; omega))) trivial rfl ?_
        first | refine r_ixr sl_69 ty_9 rfl rfl (by first | omega | (simp; done) | (simp [strF]; omega)) rfl trivial rfl ?_ | refine r_ixw sl_69 ty_9 rfl rfl (by first | omega | (simp; done) | (simp [strF]; omega)) (by first | omega | simp) trivial rfl ?_
        first | refine r_ld ty_9 rfl rfl rfl trivial rfl ?_ | refine r_ldr ty_9 rfl rfl trivial rfl ?_ | refine r_ldo ty_9 rfl rfl (by first | rfl | assumption) rfl trivial rfl ?_
        refine r_call (atoi_ok a (by have := splitSp_le _ a (by rw [hw]; simp); have := trim_len l [10]; omega)) cb_35 rfl rfl rfl ?_ trivial rfl ?_
        · (repeat (first | exact .nil | refine .cons .fv ?_ | refine .cons (.aggf' rfl) ?_ | refine .cons .nil ?_ | refine .cons (.ren rfl) ?_))
        refine r_mv rfl trivial rfl ?_
        refine r_ext rfl rfl trivial rfl ?_
        refine r_ext rfl rfl trivial rfl ?_
        first | refine r_nilck rfl trivial rfl ?_ | refine r_nilckr rfl trivial rfl ?_ | refine r_nilckf rfl trivial rfl ?_
        first | refine r_st ty_3 rfl rfl rfl rfl rfl rfl rfl trivial ?_ | refine r_sto ty_3 rfl rfl rfl rfl (by first | rfl | assumption) rfl rfl trivial ?_
        refine reg_nil ?_
        refine awp_region ?_
        refine r_add rfl rfl (rng64 (by first | omega | (simp [strF]; done) | (simp [strF]; omega))) trivial rfl ?_
        refine r_mv rfl trivial rfl ?_
        refine reg_nil ?_
        refine unr_succ ?_
        refine awp_seq ?_
        refine awp_region ?_
        refine r_lss rfl rfl trivial rfl ?_
        refine reg_nil ?_
        refine awp_seq ?_
        refine awp_cond_t rfl ?_
        refine awp_skip ?_
        refine awp_seq ?_
        refine awp_block ?_
        refine awp_seq ?_
        refine awp_region ?_
        refine r_mv rfl trivial rfl ?_
        first | refine r_ixr sl_58 ty_53 rfl rfl (by first | omega | (simp; done) | (simp [strF]; omega)) rfl trivial rfl ?_ | refine r_ixw sl_58 ty_53 rfl rfl (by first | omega | (simp; done) | (simp [strF]; omega)) (by first | omega | simp) trivial rfl ?_
        first | refine r_ld ty_53 rfl rfl rfl trivial rfl ?_ | refine r_ldr ty_53 rfl rfl trivial rfl ?_ | refine r_ldo ty_53 rfl rfl (by first | rfl | assumption) rfl trivial rfl ?_
        refine r_as rfl trivial rfl ?_
        refine r_as rfl trivial rfl ?_
        refine reg_nil ?_
        refine awp_seq ?_
        refine awp_region ?_
        refine r_mv rfl trivial rfl ?_
        refine r_add rfl rfl (rng64 (by first | omega | (simp [strF]; done) | (simp [strF]; omega))) trivial rfl ?_
        refine r_mv rfl trivial rfl ?_
        first | refine r_lenr sl_69 rfl trivial rfl ?_ | refine r_lenw sl_69 rfl trivial rfl ?_ | refine r_len0 sl_69 rfl trivial rfl ?_
        refine r_lss rfl rfl trivial rfl ?_
        refine reg_nil ?_
        refine awp_cond_yes rfl (by first | (simp [strF]; done) | (simp [strF]; omega)) ?_
        refine awp_region ?_
        refine r_mv rfl trivial rfl ?_
        refine r_mv rfl trivial rfl ?_
        refine r_mv rfl trivial rfl ?_
        refine r_add rfl rfl (rng64 (by first | omega | (simp [strF]; done) | (simp [strF]; omega))) trivial rfl ?_
        first | refine r_ixr sl_69 ty_9 rfl rfl (by first | omega | (simp; done) | (simp [strF]; omega)) rfl trivial rfl ?_ | refine r_ixw sl_69 ty_9 rfl rfl (by first | omega | (simp; done) | (simp [strF]; omega)) (by first | omega | simp) trivial rfl ?_
        first | refine r_ld ty_9 rfl rfl rfl trivial rfl ?_ | refine r_ldr ty_9 rfl rfl trivial rfl ?_ | refine r_ldo ty_9 rfl rfl (by first | rfl | assumption) rfl trivial rfl ?_
        refine r_call (atoi_ok b (by have := splitSp_le _ b (by rw [hw]; simp); have := trim_len l [10]; omega)) cb_35 rfl rfl rfl ?_ trivial rfl ?_
        · (repeat (first | exact .nil | refine .cons .fv ?_ | refine .cons (.aggf' rfl) ?_ | refine .cons .nil ?_ | refine .cons (.ren rfl) ?_))
        refine r_mv rfl trivial rfl ?_
        refine r_ext rfl rfl trivial rfl ?_
        refine r_ext rfl rfl trivial rfl ?_
        first | refine r_nilck rfl trivial rfl ?_ | refine r_nilckr rfl trivial rfl ?_ | refine r_nilckf rfl trivial rfl ?_
        first | refine r_st ty_3 rfl rfl rfl rfl rfl rfl rfl trivial ?_ | refine r_sto ty_3 rfl rfl rfl rfl (by first | rfl | assumption) rfl rfl trivial ?_
        refine reg_nil ?_
        refine awp_region ?_
        refine r_add rfl rfl (rng64 (by first | omega | (simp [strF]; done) | (simp [strF]; omega))) trivial rfl ?_
        refine r_mv rfl trivial rfl ?_
        refine reg_nil ?_
        refine unr_succ ?_
        refine awp_seq ?_
        refine awp_region ?_
        refine r_lss rfl rfl trivial rfl ?_
        refine reg_nil ?_
        refine awp_seq ?_
        refine awp_cond_f rfl ?_
        refine awp_exit ?_
        refine awp_seq ?_
        refine awp_region ?_
        first | refine r_lda ty_37 rfl rfl rfl rfl trivial rfl ?_ | refine r_ldra ty_37 rfl rfl rfl trivial rfl ?_ | refine r_ldoa ty_37 rfl rfl (by first | rfl | assumption) rfl rfl trivial rfl ?_
        first | refine r_st ty_37 rfl rfl rfl rfl rfl rfl rfl trivial ?_ | refine r_sto ty_37 rfl rfl rfl rfl (by first | rfl | assumption) rfl rfl trivial ?_
        refine reg_nil ?_
        refine awp_ret ?_
        refine fin0 (.cons (.agg rfl rfl ty_37 (Nat.le_of_ble_eq_true rfl)) .nil) (.aggf' (l := encEv ⟨6, 0, 0, 0, false, (atoiV a), (atoiV b), 0⟩) rfl) ?_
        (rw [eventP, hw]; simp [eventWs, wordL, argV])
      · refine awp_region ?_
        first | refine r_fld fld_37_0 rfl trivial rfl ?_ | refine r_fldr fld_37_0 rfl trivial rfl ?_
        first | refine r_ld ty_3 rfl rfl rfl trivial rfl ?_ | refine r_ldr ty_3 rfl rfl trivial rfl ?_ | refine r_ldo ty_3 rfl rfl (by first | rfl | assumption) rfl trivial rfl ?_
        refine r_eqi rfl rfl trivial rfl ?_
        refine r_mv rfl trivial rfl ?_
        refine r_skip ⟨_, rfl, .inl rfl⟩ rfl ?_
        refine r_skip ⟨_, rfl, .inl rfl⟩ rfl ?_
        refine r_skip ⟨_, rfl, .inl rfl⟩ rfl ?_
        refine r_skip ⟨_, rfl, .inl rfl⟩ rfl ?_
        refine r_skip ⟨_, rfl, .inl rfl⟩ rfl ?_
        refine r_skip ⟨_, rfl, .inl rfl⟩ rfl ?_
        refine r_skip ⟨_, rfl, .inl rfl⟩ rfl ?_
        refine r_pkf rfl rfl trivial rfl ?_
        first | refine r_fld fld_37_4 rfl trivial rfl ?_ | refine r_fldr fld_37_4 rfl trivial rfl ?_
        first | refine r_st ty_4 rfl rfl rfl rfl rfl rfl rfl trivial ?_ | refine r_sto ty_4 rfl rfl rfl rfl (by first | rfl | assumption) rfl rfl trivial ?_
        refine reg_nil ?_
        refine awp_seq ?_
        refine awp_seq ?_
        refine awp_region ?_
        refine r_callh [(0, 1)] 2 1 (nums_7 0 0 0 false 0 0 0) cb_23 rfl rfl rfl ?_ (.cons rfl .nil) rfl rfl rfl rfl trivial rfl ?_
        · (repeat (first | exact .nil | refine .cons .fv ?_ | refine .cons (.aggf' rfl) ?_ | refine .cons .nil ?_ | refine .cons (.ren rfl) ?_))
        first | refine r_lenr sl_58 rfl trivial rfl ?_ | refine r_lenw sl_58 rfl trivial rfl ?_ | refine r_len0 sl_58 rfl trivial rfl ?_
        refine r_mv rfl trivial rfl ?_
        refine reg_nil ?_
        refine awp_block ?_
        refine awp_unroll 1 ?_
        refine unr_succ ?_
        refine awp_seq ?_
        refine awp_region ?_
        refine r_lss rfl rfl trivial rfl ?_
        refine reg_nil ?_
        refine awp_seq ?_
        refine awp_cond_f rfl ?_
        refine awp_exit ?_
        refine awp_seq ?_
        refine awp_region ?_
        first | refine r_lda ty_37 rfl rfl rfl rfl trivial rfl ?_ | refine r_ldra ty_37 rfl rfl rfl trivial rfl ?_ | refine r_ldoa ty_37 rfl rfl (by first | rfl | assumption) rfl rfl trivial rfl ?_
        first | refine r_st ty_37 rfl rfl rfl rfl rfl rfl rfl trivial ?_ | refine r_sto ty_37 rfl rfl rfl rfl (by first | rfl | assumption) rfl rfl trivial ?_
        refine reg_nil ?_
        refine awp_ret ?_
        refine fin0 (.cons (.agg rfl rfl ty_37 (Nat.le_of_ble_eq_true rfl)) .nil) (.aggf' (l := encEv ⟨7, 0, 0, 0, false, 0, 0, 0⟩) rfl) ?_
        (rw [eventP, hw]; simp [eventWs, wordL, argV])
      · refine awp_region ?_
        first | refine r_fld fld_37_0 rfl trivial rfl ?_ | refine r_fldr fld_37_0 rfl trivial rfl ?_
        first | refine r_ld ty_3 rfl rfl rfl trivial rfl ?_ | refine r_ldr ty_3 rfl rfl trivial rfl ?_ | refine r_ldo ty_3 rfl rfl (by first | rfl | assumption) rfl trivial rfl ?_
        refine r_eqi rfl rfl trivial rfl ?_
        refine r_mv rfl trivial rfl ?_
        refine r_skip ⟨_, rfl, .inl rfl⟩ rfl ?_
        refine r_skip ⟨_, rfl, .inl rfl⟩ rfl ?_
        refine r_skip ⟨_, rfl, .inl rfl⟩ rfl ?_
        refine r_skip ⟨_, rfl, .inl rfl⟩ rfl ?_
        refine r_skip ⟨_, rfl, .inl rfl⟩ rfl ?_
        refine r_skip ⟨_, rfl, .inl rfl⟩ rfl ?_
        refine r_skip ⟨_, rfl, .inl rfl⟩ rfl ?_
        refine r_pkf rfl rfl trivial rfl ?_
        first | refine r_fld fld_37_4 rfl trivial rfl ?_ | refine r_fldr fld_37_4 rfl trivial rfl ?_
        first | refine r_st ty_4 rfl rfl rfl rfl rfl rfl rfl trivial ?_ | refine r_sto ty_4 rfl rfl rfl rfl (by first | rfl | assumption) rfl rfl trivial ?_
        refine reg_nil ?_
        refine awp_seq ?_
        refine awp_seq ?_
        refine awp_region ?_
        refine r_callh [(0, 1)] 2 1 (nums_0 0 0 0 false 0 0 0) cb_23 rfl rfl rfl ?_ (.cons rfl .nil) rfl rfl rfl rfl trivial rfl ?_
        · (repeat (first | exact .nil | refine .cons .fv ?_ | refine .cons (.aggf' rfl) ?_ | refine .cons .nil ?_ | refine .cons (.ren rfl) ?_))
        first | refine r_lenr sl_58 rfl trivial rfl ?_ | refine r_lenw sl_58 rfl trivial rfl ?_ | refine r_len0 sl_58 rfl trivial rfl ?_
        refine r_mv rfl trivial rfl ?_
        refine reg_nil ?_
        refine awp_block ?_
        refine awp_unroll 1 ?_
        refine unr_succ ?_
        refine awp_seq ?_
        refine awp_region ?_
        refine r_lss rfl rfl trivial rfl ?_
        refine reg_nil ?_
        refine awp_seq ?_
        refine awp_cond_f rfl ?_
        refine awp_exit ?_
        refine awp_seq ?_
        refine awp_region ?_
        first | refine r_lda ty_37 rfl rfl rfl rfl trivial rfl ?_ | refine r_ldra ty_37 rfl rfl rfl trivial rfl ?_ | refine r_ldoa ty_37 rfl rfl (by first | rfl | assumption) rfl rfl trivial rfl ?_
        first | refine r_st ty_37 rfl rfl rfl rfl rfl rfl rfl trivial ?_ | refine r_sto ty_37 rfl rfl rfl rfl (by first | rfl | assumption) rfl rfl trivial ?_
        refine reg_nil ?_
        refine awp_ret ?_
        refine fin0 (.cons (.agg rfl rfl ty_37 (Nat.le_of_ble_eq_true rfl)) .nil) (.aggf' (l := encEv zeroEv) rfl) ?_
        (rw [eventP, hw, h0])
end Go.Uw.D
