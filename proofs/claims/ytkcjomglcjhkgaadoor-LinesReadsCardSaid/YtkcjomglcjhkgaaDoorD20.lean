/- A helper text of this claim: lemmas of an abstract machine over the model, or walks in it. Own work of an AI agent. -/
import Derived.Test.YtkcjomglcjhkgaaDoorD7
import Derived.Test.YtkcjomglcjhkgaaDoorUwSt
set_option linter.unusedVariables false
set_option linter.unusedSimpArgs false
namespace Go.Uw.D
open Go Go.Uw Go.Proofs
def isDig (c : UInt8) : Bool := decide (48 ≤ c.toNat ∧ c.toNat ≤ 57)
def numL (l : List UInt8) : Int := l.foldl (fun n c => 10 * n + ((c.toNat : Int) - 48)) 0
/-- a number's digits, without noughts ahead, ten at most -/
def wholeR (l : List UInt8) : Int := if l.length = 0 ∨ 10 < l.length ∨ (l[0]? = some 48 ∧ 1 < l.length) then -1 else if l.all isDig then numL l else -1
theorem numL_snoc (l : List UInt8) (c : UInt8) : numL (l ++ [c]) = 10 * numL l + ((c.toNat : Int) - 48) := by simp [numL]
theorem numL_bd : ∀ (k : Nat) (l : List UInt8), l.length ≤ k → (∀ c ∈ l, isDig c = true) → 0 ≤ numL l ∧ numL l < 10 ^ k
  | k, l, hk, h => by
    rcases List.eq_nil_or_concat l with rfl | ⟨l', c, rfl⟩
    · refine ⟨by simp [numL], ?_⟩
      show (0 : Int) < 10 ^ k
      exact Int.pow_pos (by decide)
    · cases k with
      | zero => simp at hk
      | succ k =>
        obtain ⟨h1, h2⟩ := numL_bd k l' (by simpa using hk) fun c hc => h c (by simp [hc])
        have h3 := h c (by simp)
        simp only [isDig, decide_eq_true_eq] at h3
        rw [List.concat_eq_append, numL_snoc, Int.pow_succ]
        omega
termination_by _ l => l.length
theorem take_snoc {l : List UInt8} {x : Nat} (h : x < l.length) : l.take (x + 1) = l.take x ++ [l[x]] := by
  rw [List.take_succ_eq_append_getElem h]
theorem dig_snoc {l : List UInt8} {x : Nat} (hlt : x < l.length) (h : ∀ c ∈ l.take x, isDig c = true) (h1 : ¬ (l[x].toNat : Int) < 48) (h2 : ¬ 57 < (l[x].toNat : Int)) : ∀ c ∈ l.take (x + 1), isDig c = true := by
  intro c hc
  rw [take_snoc hlt] at hc
  rcases List.mem_append.1 hc with hc | hc
  · exact h c hc
  · have : c = l[x] := by simpa using hc
    rw [this]; simp only [isDig, decide_eq_true_eq]; omega
theorem u8_eq {c : UInt8} (h : (c.toNat : Int) = 48) : c = 48 := by
  apply UInt8.toNat_inj.1; simpa using (by omega : c.toNat = 48)
theorem wholeR_len {l : List UInt8} (h : (l.length : Int) = 0 ∨ 10 < (l.length : Int)) : wholeR l = -1 := by
  rw [wholeR, if_pos (by omega)]
theorem wholeR_nought {l : List UInt8} (hl : 1 < l.length) (h : ((l[0]'(by omega)).toNat : Int) = 48) : wholeR l = -1 := by
  rw [wholeR, if_pos (.inr (.inr ⟨by rw [List.getElem?_eq_getElem (by omega), u8_eq h], hl⟩))]
theorem wholeR_dig {l : List UInt8} {x : Nat} (hx : x < l.length) (h : ((l[x]).toNat : Int) < 48 ∨ 57 < ((l[x]).toNat : Int)) : wholeR l = -1 := by
  unfold wholeR
  split
  · rfl
  · rw [if_neg]
    intro ha
    have := List.all_eq_true.1 ha l[x] (List.getElem_mem _)
    simp only [isDig, decide_eq_true_eq] at this
    omega
theorem wholeR_good {l : List UInt8} {x : Nat} (hx : l.length ≤ x) (hd : ∀ c ∈ l.take x, isDig c = true) (h1 : 0 < l.length) (h2 : l.length ≤ 10) (h3 : ((l[0]'h1).toNat : Int) ≠ 48 ∨ l.length ≤ 1) : wholeR l = numL (l.take x) := by
  rw [List.take_of_length_le hx] at hd ⊢
  rw [wholeR, if_neg, if_pos (List.all_eq_true.2 hd)]
  rintro (h | h | ⟨h, h'⟩)
  · omega
  · omega
  · rw [List.getElem?_eq_getElem h1] at h
    have : l[0]'h1 = 48 := by simpa using h
    rcases h3 with h3 | h3
    · rw [this] at h3; exact h3 rfl
    · omega
set_option maxRecDepth 100000 in
theorem whole_ok (l : List UInt8) : Fun Tryd.prog 36 [sA l] [] [] (iA (wholeR l)) [] := by
  refine fun_of_awp (rl := [.tmp 2]) Tryd.func36 rfl Tryd.results36 Tryd.ntmps36 0 rfl (by simp) ?_
  intro w0 own0 ρ0 F hz
  refine awp_seq ?_
  refine awp_region ?_
  refine r_as rfl trivial rfl ?_
  refine reg_nil ?_
  refine awp_seq ?_
  refine awp_seq ?_
  refine awp_region ?_
  refine r_mv rfl trivial rfl ?_
  refine r_lens us_9 rfl trivial rfl ?_
  refine r_eqi rfl rfl trivial rfl ?_
  refine r_mv rfl trivial rfl ?_
  first | refine reg_split_dec 8 rfl (fun h1 => ?_) (fun h1 => ?_) | refine reg_split 8 rfl (fun h1 => ?_) (fun h1 => ?_)
  · refine r_skip ⟨_, rfl, .inl rfl⟩ rfl ?_
    refine r_skip ⟨_, rfl, .inl rfl⟩ rfl ?_
    refine r_skip ⟨_, rfl, .inl rfl⟩ rfl ?_
    refine r_pkt rfl rfl trivial rfl ?_
    refine r_mv rfl trivial rfl ?_
    refine r_skip ⟨_, rfl, .inl rfl⟩ rfl ?_
    refine r_skip ⟨_, rfl, .inl rfl⟩ rfl ?_
    refine r_skip ⟨_, rfl, .inl rfl⟩ rfl ?_
    refine r_skip ⟨_, rfl, .inl rfl⟩ rfl ?_
    refine r_skip ⟨_, rfl, .inr rfl⟩ rfl ?_
    refine r_skip ⟨_, rfl, .inr rfl⟩ rfl ?_
    refine r_skip ⟨_, rfl, .inr rfl⟩ rfl ?_
    refine r_skip ⟨_, rfl, .inl rfl⟩ rfl ?_
    refine r_pkt rfl rfl trivial rfl ?_
    refine reg_nil ?_
    refine awp_cond_t rfl ?_
    refine awp_seq ?_
    refine awp_region ?_
    refine r_as rfl trivial rfl ?_
    refine reg_nil ?_
    refine awp_ret ?_
    refine fin0 (.cons (.tmp rfl) .nil) (by first | exact .fv | exact .frz rfl rfl trivial | exact .nil | exact .aggf' rfl | exact .aggf) ?_
    rw [wholeR_len (by omega)]
  · refine r_mv rfl ⟨_, rfl, rfl⟩ rfl ?_
    refine r_lens us_9 rfl ⟨_, rfl, rfl⟩ rfl ?_
    refine r_gtr rfl rfl ⟨_, rfl, rfl⟩ rfl ?_
    refine r_pkf rfl rfl trivial rfl ?_
    refine r_mv rfl trivial rfl ?_
    first | refine reg_split_dec 13 rfl (fun h2 => ?_) (fun h2 => ?_) | refine reg_split 13 rfl (fun h2 => ?_) (fun h2 => ?_)
    · refine r_skip ⟨_, rfl, .inl rfl⟩ rfl ?_
      refine r_skip ⟨_, rfl, .inl rfl⟩ rfl ?_
      refine r_skip ⟨_, rfl, .inl rfl⟩ rfl ?_
      refine r_skip ⟨_, rfl, .inl rfl⟩ rfl ?_
      refine r_skip ⟨_, rfl, .inr rfl⟩ rfl ?_
      refine r_skip ⟨_, rfl, .inr rfl⟩ rfl ?_
      refine r_skip ⟨_, rfl, .inr rfl⟩ rfl ?_
      refine r_skip ⟨_, rfl, .inl rfl⟩ rfl ?_
      refine r_pkt rfl rfl trivial rfl ?_
      refine reg_nil ?_
      refine awp_cond_t rfl ?_
      refine awp_seq ?_
      refine awp_region ?_
      refine r_as rfl trivial rfl ?_
      refine reg_nil ?_
      refine awp_ret ?_
      refine fin0 (.cons (.tmp rfl) .nil) (by first | exact .fv | exact .frz rfl rfl trivial | exact .nil | exact .aggf' rfl | exact .aggf) ?_
      rw [wholeR_len (by omega)]
    · refine r_mv rfl ⟨_, rfl, rfl⟩ rfl ?_
      refine r_ixs us_9 rfl rfl (by omega) (by first | exact hget (by omega) | (show l[0]? = some (l[0]'(by omega)); simp; done) | (rw [show ((0:Int)).toNat = 0 from rfl]; exact List.getElem?_eq_getElem (by omega))) ⟨_, rfl, rfl⟩ rfl ?_
      refine r_eqi rfl rfl ⟨_, rfl, rfl⟩ rfl ?_
      refine r_mv rfl ⟨_, rfl, rfl⟩ rfl ?_
      first | refine reg_split_dec 17 rfl (fun h3 => ?_) (fun h3 => ?_) | refine reg_split 17 rfl (fun h3 => ?_) (fun h3 => ?_)
      · refine r_mv rfl ⟨_, rfl, rfl⟩ rfl ?_
        refine r_lens us_9 rfl ⟨_, rfl, rfl⟩ rfl ?_
        refine r_gtr rfl rfl ⟨_, rfl, rfl⟩ rfl ?_
        refine r_pkt rfl rfl ⟨_, rfl, rfl⟩ rfl ?_
        refine r_pkf rfl rfl trivial rfl ?_
        refine reg_nil ?_
        first | refine awp_cond_dec rfl (fun h4 => ?_) (fun h4 => ?_) | refine awp_cond rfl (fun h4 => ?_) (fun h4 => ?_)
        · refine awp_seq ?_
          refine awp_region ?_
          refine r_as rfl trivial rfl ?_
          refine reg_nil ?_
          refine awp_ret ?_
          refine fin0 (.cons (.tmp rfl) .nil) (by first | exact .fv | exact .frz rfl rfl trivial | exact .nil | exact .aggf' rfl | exact .aggf) ?_
          rw [wholeR_nought (by omega) h3]
        · refine awp_skip ?_
          refine awp_seq ?_
          refine awp_region ?_
          refine r_as rfl trivial rfl ?_
          refine reg_nil ?_
          refine awp_seq ?_
          refine awp_seq ?_
          refine awp_region ?_
          refine r_as rfl trivial rfl ?_
          refine reg_nil ?_
          refine awp_block ?_
          refine awp_loopQ (X := Nat) (fun x => x ≤ l.length ∧ ∀ c ∈ l.take x, isDig c = true) (fun x => ⟨[(0, sA l), (3, iA (numL (l.take x))), (4, iA x)], [], 0⟩) (fun x => l.length - x) 0 ?_ ?_ ?_
          · exact ⟨Nat.zero_le _, by simp⟩
          · exact le_mk [] rfl hz (Nat.zero_le _) ⟨⟨_, rfl, .fv⟩, ⟨_, rfl, .fv⟩, ⟨_, rfl, .fv⟩, trivial⟩ trivial
          · intro x hx
            obtain ⟨hx1, hx2⟩ := hx
            have hget : ∀ h : x < l.length, l[((x : Nat) : Int).toNat]? = some l[x] := fun h => by simp [h]
            have hb := numL_bd 10 (l.take x) (by simp; omega) hx2
            refine awp_seq ?_
            refine awp_seq ?_
            refine awp_region ?_
            refine r_mv rfl trivial rfl ?_
            refine r_mv rfl trivial rfl ?_
            refine r_lens us_9 rfl trivial rfl ?_
            refine r_lss rfl rfl trivial rfl ?_
            refine reg_nil ?_
            first | refine awp_cond_dec rfl (fun h5 => ?_) (fun h5 => ?_) | refine awp_cond rfl (fun h5 => ?_) (fun h5 => ?_)
            · refine awp_skip ?_
              refine awp_seq ?_
              refine awp_block ?_
              refine awp_seq ?_
              refine awp_seq ?_
              refine awp_region ?_
              refine r_mv rfl trivial rfl ?_
              refine r_mv rfl trivial rfl ?_
              refine r_ixs us_9 rfl rfl (by omega) (by first | exact hget (by omega) | (show l[0]? = some (l[0]'(by omega)); simp; done) | (rw [show ((0:Int)).toNat = 0 from rfl]; exact List.getElem?_eq_getElem (by omega))) trivial rfl ?_
              refine r_lss rfl rfl trivial rfl ?_
              refine r_mv rfl trivial rfl ?_
              first | refine reg_split_dec 33 rfl (fun h6 => ?_) (fun h6 => ?_) | refine reg_split 33 rfl (fun h6 => ?_) (fun h6 => ?_)
              · refine r_skip ⟨_, rfl, .inl rfl⟩ rfl ?_
                refine r_skip ⟨_, rfl, .inl rfl⟩ rfl ?_
                refine r_skip ⟨_, rfl, .inl rfl⟩ rfl ?_
                refine r_skip ⟨_, rfl, .inl rfl⟩ rfl ?_
                refine r_pkt rfl rfl trivial rfl ?_
                refine reg_nil ?_
                refine awp_cond_t rfl ?_
                refine awp_seq ?_
                refine awp_region ?_
                refine r_as rfl trivial rfl ?_
                refine reg_nil ?_
                refine awp_ret ?_
                refine fin0 (.cons (.tmp rfl) .nil) (by first | exact .fv | exact .frz rfl rfl trivial | exact .nil | exact .aggf' rfl | exact .aggf) ?_
                rw [wholeR_dig (x := x) (by omega) (by omega)]
              · refine r_mv rfl ⟨_, rfl, rfl⟩ rfl ?_
                refine r_mv rfl ⟨_, rfl, rfl⟩ rfl ?_
                refine r_ixs us_9 rfl rfl (by omega) (by first | exact hget (by omega) | (show l[0]? = some (l[0]'(by omega)); simp; done) | (rw [show ((0:Int)).toNat = 0 from rfl]; exact List.getElem?_eq_getElem (by omega))) ⟨_, rfl, rfl⟩ rfl ?_
                refine r_gtr rfl rfl ⟨_, rfl, rfl⟩ rfl ?_
                refine r_pkf rfl rfl trivial rfl ?_
                refine reg_nil ?_
                first | refine awp_cond_dec rfl (fun h7 => ?_) (fun h7 => ?_) | refine awp_cond rfl (fun h7 => ?_) (fun h7 => ?_)
                · refine awp_seq ?_
                  refine awp_region ?_
                  refine r_as rfl trivial rfl ?_
                  refine reg_nil ?_
                  refine awp_ret ?_
                  refine fin0 (.cons (.tmp rfl) .nil) (by first | exact .fv | exact .frz rfl rfl trivial | exact .nil | exact .aggf' rfl | exact .aggf) ?_
                  rw [wholeR_dig (x := x) (by omega) (by omega)]
                · refine awp_skip ?_
                  refine awp_region ?_
                  refine r_mv rfl trivial rfl ?_
                  refine r_mul rfl rfl (rng64 (by omega)) trivial rfl ?_
                  refine r_mv rfl trivial rfl ?_
                  refine r_mv rfl trivial rfl ?_
                  refine r_ixs us_9 rfl rfl (by omega) (by first | exact hget (by omega) | (show l[0]? = some (l[0]'(by omega)); simp; done) | (rw [show ((0:Int)).toNat = 0 from rfl]; exact List.getElem?_eq_getElem (by omega))) trivial rfl ?_
                  refine r_sub rfl rfl (by first | omega | exact u8rng (by omega)) trivial rfl ?_
                  refine r_convi in_5 in_3 rfl (rng64 (by omega)) trivial rfl ?_
                  refine r_add rfl rfl (rng64 (by omega)) trivial rfl ?_
                  refine r_as rfl trivial rfl ?_
                  refine reg_nil ?_
                  refine awp_region ?_
                  refine r_mv rfl trivial rfl ?_
                  refine r_add rfl rfl (rng64 (by omega)) trivial rfl ?_
                  refine r_as rfl trivial rfl ?_
                  refine reg_nil ?_
                  (have hlt : x < l.length := by omega
                   exact ⟨x + 1, ⟨hlt, dig_snoc hlt hx2 (by assumption) (by assumption)⟩,
                       le_mk [] rfl hz (Nat.zero_le _) ⟨⟨_, rfl, .fv⟩, ⟨_, rfl, .ren (by rw [take_snoc hlt, numL_snoc]; rfl)⟩, ⟨_, rfl, .fv⟩, trivial⟩ trivial, (show l.length - (x + 1) < l.length - x by omega)⟩)
            · refine awp_exit ?_
              refine awp_seq ?_
              refine awp_region ?_
              refine r_mv rfl trivial rfl ?_
              refine r_as rfl trivial rfl ?_
              refine reg_nil ?_
              refine awp_ret ?_
              refine fin0 (.cons (.tmp rfl) .nil) (by first | exact .fv | exact .frz rfl rfl trivial | exact .nil | exact .aggf' rfl | exact .aggf) ?_
              rw [wholeR_good (x := x) (by omega) hx2 (by omega) (by omega) (by omega)]
      · refine r_skip ⟨_, rfl, .inl rfl⟩ rfl ?_
        refine r_skip ⟨_, rfl, .inl rfl⟩ rfl ?_
        refine r_skip ⟨_, rfl, .inl rfl⟩ rfl ?_
        refine r_pkf rfl rfl ⟨_, rfl, rfl⟩ rfl ?_
        refine r_pkf rfl rfl trivial rfl ?_
        refine reg_nil ?_
        refine awp_cond_f rfl ?_
        refine awp_skip ?_
        refine awp_seq ?_
        refine awp_region ?_
        refine r_as rfl trivial rfl ?_
        refine reg_nil ?_
        refine awp_seq ?_
        refine awp_seq ?_
        refine awp_region ?_
        refine r_as rfl trivial rfl ?_
        refine reg_nil ?_
        refine awp_block ?_
        refine awp_loopQ (X := Nat) (fun x => x ≤ l.length ∧ ∀ c ∈ l.take x, isDig c = true) (fun x => ⟨[(0, sA l), (3, iA (numL (l.take x))), (4, iA x)], [], 0⟩) (fun x => l.length - x) 0 ?_ ?_ ?_
        · exact ⟨Nat.zero_le _, by simp⟩
        · exact le_mk [] rfl hz (Nat.zero_le _) ⟨⟨_, rfl, .fv⟩, ⟨_, rfl, .fv⟩, ⟨_, rfl, .fv⟩, trivial⟩ trivial
        · intro x hx
          obtain ⟨hx1, hx2⟩ := hx
          have hget : ∀ h : x < l.length, l[((x : Nat) : Int).toNat]? = some l[x] := fun h => by simp [h]
          have hb := numL_bd 10 (l.take x) (by simp; omega) hx2
          refine awp_seq ?_
          refine awp_seq ?_
          refine awp_region ?_
          refine r_mv rfl trivial rfl ?_
          refine r_mv rfl trivial rfl ?_
          refine r_lens us_9 rfl trivial rfl ?_
          refine r_lss rfl rfl trivial rfl ?_
          refine reg_nil ?_
          first | refine awp_cond_dec rfl (fun h8 => ?_) (fun h8 => ?_) | refine awp_cond rfl (fun h8 => ?_) (fun h8 => ?_)
          · refine awp_skip ?_
            refine awp_seq ?_
            refine awp_block ?_
            refine awp_seq ?_
            refine awp_seq ?_
            refine awp_region ?_
            refine r_mv rfl trivial rfl ?_
            refine r_mv rfl trivial rfl ?_
            refine r_ixs us_9 rfl rfl (by omega) (by first | exact hget (by omega) | (show l[0]? = some (l[0]'(by omega)); simp; done) | (rw [show ((0:Int)).toNat = 0 from rfl]; exact List.getElem?_eq_getElem (by omega))) trivial rfl ?_
            refine r_lss rfl rfl trivial rfl ?_
            refine r_mv rfl trivial rfl ?_
            first | refine reg_split_dec 33 rfl (fun h9 => ?_) (fun h9 => ?_) | refine reg_split 33 rfl (fun h9 => ?_) (fun h9 => ?_)
            · refine r_skip ⟨_, rfl, .inl rfl⟩ rfl ?_
              refine r_skip ⟨_, rfl, .inl rfl⟩ rfl ?_
              refine r_skip ⟨_, rfl, .inl rfl⟩ rfl ?_
              refine r_skip ⟨_, rfl, .inl rfl⟩ rfl ?_
              refine r_pkt rfl rfl trivial rfl ?_
              refine reg_nil ?_
              refine awp_cond_t rfl ?_
              refine awp_seq ?_
              refine awp_region ?_
              refine r_as rfl trivial rfl ?_
              refine reg_nil ?_
              refine awp_ret ?_
              refine fin0 (.cons (.tmp rfl) .nil) (by first | exact .fv | exact .frz rfl rfl trivial | exact .nil | exact .aggf' rfl | exact .aggf) ?_
              rw [wholeR_dig (x := x) (by omega) (by omega)]
            · refine r_mv rfl ⟨_, rfl, rfl⟩ rfl ?_
              refine r_mv rfl ⟨_, rfl, rfl⟩ rfl ?_
              refine r_ixs us_9 rfl rfl (by omega) (by first | exact hget (by omega) | (show l[0]? = some (l[0]'(by omega)); simp; done) | (rw [show ((0:Int)).toNat = 0 from rfl]; exact List.getElem?_eq_getElem (by omega))) ⟨_, rfl, rfl⟩ rfl ?_
              refine r_gtr rfl rfl ⟨_, rfl, rfl⟩ rfl ?_
              refine r_pkf rfl rfl trivial rfl ?_
              refine reg_nil ?_
              first | refine awp_cond_dec rfl (fun h10 => ?_) (fun h10 => ?_) | refine awp_cond rfl (fun h10 => ?_) (fun h10 => ?_)
              · refine awp_seq ?_
                refine awp_region ?_
                refine r_as rfl trivial rfl ?_
                refine reg_nil ?_
                refine awp_ret ?_
                refine fin0 (.cons (.tmp rfl) .nil) (by first | exact .fv | exact .frz rfl rfl trivial | exact .nil | exact .aggf' rfl | exact .aggf) ?_
                rw [wholeR_dig (x := x) (by omega) (by omega)]
              · refine awp_skip ?_
                refine awp_region ?_
                refine r_mv rfl trivial rfl ?_
                refine r_mul rfl rfl (rng64 (by omega)) trivial rfl ?_
                refine r_mv rfl trivial rfl ?_
                refine r_mv rfl trivial rfl ?_
                refine r_ixs us_9 rfl rfl (by omega) (by first | exact hget (by omega) | (show l[0]? = some (l[0]'(by omega)); simp; done) | (rw [show ((0:Int)).toNat = 0 from rfl]; exact List.getElem?_eq_getElem (by omega))) trivial rfl ?_
                refine r_sub rfl rfl (by first | omega | exact u8rng (by omega)) trivial rfl ?_
                refine r_convi in_5 in_3 rfl (rng64 (by omega)) trivial rfl ?_
                refine r_add rfl rfl (rng64 (by omega)) trivial rfl ?_
                refine r_as rfl trivial rfl ?_
                refine reg_nil ?_
                refine awp_region ?_
                refine r_mv rfl trivial rfl ?_
                refine r_add rfl rfl (rng64 (by omega)) trivial rfl ?_
                refine r_as rfl trivial rfl ?_
                refine reg_nil ?_
                (have hlt : x < l.length := by omega
                 exact ⟨x + 1, ⟨hlt, dig_snoc hlt hx2 (by assumption) (by assumption)⟩,
                     le_mk [] rfl hz (Nat.zero_le _) ⟨⟨_, rfl, .fv⟩, ⟨_, rfl, .ren (by rw [take_snoc hlt, numL_snoc]; rfl)⟩, ⟨_, rfl, .fv⟩, trivial⟩ trivial, (show l.length - (x + 1) < l.length - x by omega)⟩)
          · refine awp_exit ?_
            refine awp_seq ?_
            refine awp_region ?_
            refine r_mv rfl trivial rfl ?_
            refine r_as rfl trivial rfl ?_
            refine reg_nil ?_
            refine awp_ret ?_
            refine fin0 (.cons (.tmp rfl) .nil) (by first | exact .fv | exact .frz rfl rfl trivial | exact .nil | exact .aggf' rfl | exact .aggf) ?_
            rw [wholeR_good (x := x) (by omega) hx2 (by omega) (by omega) (by omega)]
end Go.Uw.D
