/- A helper text of this claim: lemmas of an abstract machine over the model, or walks in it. Own work of an AI agent. -/
import Derived.Test.YtkcjomglcjhkgaaDoorD32
import Derived.Test.YtkcjomglcjhkgaaDoorUwYd
set_option linter.unusedVariables false
set_option linter.unusedSimpArgs false
namespace Go.Uw.D
open Go Go.Uw Go.Proofs
theorem ix_bd (r : List UInt8) : -1 ≤ Lib.indexByte r 10 ∧ Lib.indexByte r 10 + 1 ≤ (r.length : Int) := by
  rcases ixb r 10 with ⟨h1, _⟩ | ⟨a, r', h1, _, h3⟩
  · rw [h1]; omega
  · rw [h3, h1]; simp; omega
def goR (x : List UInt8 × List Ev) : Bool := decide (x.2.length ≠ 4000) && gd (lnOf x.1)
theorem goR_spec {x : List UInt8 × List Ev} (h : goR x = true) : x.2.length ≠ 4000 ∧ gd (lnOf x.1) = true := by
  simpa [goR] using h
theorem goR_t {x : List UInt8 × List Ev} (h1 : ¬ (x.2.length : Int) = 4000) (h2 : checkEv (eventP (lnOf x.1)) = 0) (h3 : lineL (eventP (lnOf x.1)) ++ [10] = lnOf x.1) : goR x = true := by
  have : x.2.length ≠ 4000 := by omega
  simp [goR, gd, this, h2, h3]
theorem goR_f1 {x : List UInt8 × List Ev} (h1 : (x.2.length : Int) = 4000) : goR x = false := by
  have : x.2.length = 4000 := by omega
  simp [goR, this]
theorem goR_f2 {x : List UInt8 × List Ev} (h2 : ¬ checkEv (eventP (lnOf x.1)) = 0) : goR x = false := by
  simp [goR, gd, h2]
theorem goR_f3 {x : List UInt8 × List Ev} (h3 : ¬ lineL (eventP (lnOf x.1)) ++ [10] = lnOf x.1) : goR x = false := by
  simp [goR, gd, h3]
abbrev HX (b : List UInt8) (acc : List Ev) : List (Nat × Option Blk) :=
  [(4, some (.cells 9 [sA b])), (3, some (.cells 22 [.rw 5 8 0 acc.length])), (5, some (.rows 37 8 (acc.map encEv))), (2, some (.cells 24 [iA 0])), (1, some (.cells 3 [iA 0])), (0, some (.cells 22 [lit (.slice none 0 0)]))]
abbrev T0 : List (Nat × AV) := [(2, .ptr 0 0 0 0), (3, .ptr 1 0 0 0), (4, .ptr 2 0 0 0), (5, .ptr 3 0 0 0), (12, .fn 31 [.ptr 4 0 0 0])]
theorem ids3 {l1 : Nat} {u : List UInt8} : ∀ {i : Nat} {v : AV}, tget [(0, lit (.func (.yield l1) #[] #[])), (1, .ptr 4 0 0 0), (3, sA u)] i = some v → v.idsIn (List.range 5) = true := by
  intro i v h
  simp only [tget] at h
  by_cases h0 : Nat.beq 0 i = true
  · rw [h0] at h; simp at h; subst h; rfl
  simp only [h0, cond_false] at h
  by_cases h1 : Nat.beq 1 i = true
  · rw [h1] at h; simp at h; subst h; rfl
  simp only [h1, cond_false] at h
  by_cases h2 : Nat.beq 3 i = true
  · rw [h2] at h; simp at h; subst h; rfl
  simp only [h2, cond_false] at h
  cases h

set_option maxRecDepth 100000 in
theorem slines_ok (l : List UInt8) : Fun Tryd.prog 17 [sA l] [] [0] (.fn 31 [.ptr 0 0 0 0]) [(0, some (.cells 9 [sA l]))] := by
  refine fun_of_awp (rl := [.tmp 2]) Tryd.func17 rfl Tryd.results17 Tryd.ntmps17 0 rfl (by simp) ?_
  intro w0 own0 ρ0 F hz
  refine awp_seq ?_
  refine awp_region ?_
  refine r_box rfl rfl rfl trivial rfl ?_
  refine r_as rfl trivial rfl ?_
  refine reg_nil ?_
  refine awp_seq ?_
  refine awp_region ?_
  refine r_mkfn rfl trivial rfl ?_
  refine r_as rfl trivial rfl ?_
  refine reg_nil ?_
  refine awp_ret ?_
  exact finG (nid := []) [(0, 0)] 1 (.cons (.tmp rfl) .nil) rfl rfl rfl (.ren rfl) (.cons rfl (.ren rfl) .nil)
set_option maxRecDepth 100000 in
theorem read_ok (l : List UInt8) : Fun Tryd.prog 9 [sA l] [] [] (.tup [.fv (.ro 8 ((readR l).1.map encEv)), iA (readR l).2.1, iA (readR l).2.2]) [] := by
  refine fun_of_awp (rl := [.cell 2 22, .cell 3 3, .cell 4 24]) Tryd.func9 rfl Tryd.results9 Tryd.ntmps9 0 rfl (by simp) ?_
  intro w0 own0 ρ0 F hz
  refine awp_seq ?_
  refine awp_region ?_
  refine r_alloc z_22 rfl trivial rfl ?_
  refine r_alloc z_3 rfl trivial rfl ?_
  refine r_alloc z_24 rfl trivial rfl ?_
  refine reg_nil ?_
  refine awp_seq ?_
  refine awp_seq ?_
  refine awp_region ?_
  refine r_mv rfl trivial rfl ?_
  refine r_lens us_9 rfl trivial rfl ?_
  refine r_gtr rfl rfl trivial rfl ?_
  refine reg_nil ?_
  first | refine awp_cond_dec rfl (fun h1 => ?_) (fun h1 => ?_) | refine awp_cond rfl (fun h1 => ?_) (fun h1 => ?_)
  · refine awp_seq ?_
    refine awp_region ?_
    first | refine r_st ty_22 rfl rfl rfl rfl rfl rfl rfl trivial ?_ | refine r_sto ty_22 rfl rfl rfl rfl (by first | rfl | assumption) rfl rfl trivial ?_
    first | refine r_st ty_3 rfl rfl rfl rfl rfl rfl rfl trivial ?_ | refine r_sto ty_3 rfl rfl rfl rfl (by first | rfl | assumption) rfl rfl trivial ?_
    first | refine r_st ty_24 rfl rfl rfl rfl rfl rfl rfl trivial ?_ | refine r_sto ty_24 rfl rfl rfl rfl (by first | rfl | assumption) rfl rfl trivial ?_
    refine reg_nil ?_
    refine awp_ret ?_
    refine fin0 (.cons (.one rfl rfl ty_22 rfl) (.cons (.one rfl rfl ty_3 rfl) (.cons (.one rfl rfl ty_24 rfl) .nil))) (.tup (.cons (Cv.nil (k := 8)) (.cons .fv (.cons .fv .nil)))) ?_
    (rw [readR, if_pos (by omega)]; rfl)
  · refine awp_skip ?_
    refine awp_seq ?_
    refine awp_region ?_
    refine r_alloc z_22 rfl trivial rfl ?_
    refine reg_nil ?_
    refine awp_seq ?_
    refine awp_seq ?_
    refine awp_region ?_
    refine r_mv rfl trivial rfl ?_
    refine r_callh [(0, 4)] 5 1 (slines_ok l) cb_17 rfl rfl rfl ?_ .nil rfl rfl rfl rfl trivial rfl ?_
    · (repeat (first | exact .nil | refine .cons .fv ?_ | refine .cons (.aggf' rfl) ?_ | refine .cons .nil ?_ | refine .cons (.ren rfl) ?_))
    refine reg_nil ?_
    refine awp_block ?_
    refine awp_le (s' := ⟨T0, [(4, some (.cells 9 [sA l])), (3, some (.cells 22 [lit (.slice none 0 0)])), (2, some (.cells 24 [iA 0])), (1, some (.cells 3 [iA 0])), (0, some (.cells 22 [lit (.slice none 0 0)]))], 5⟩) (le_mk [(0, 0), (1, 1), (2, 2), (3, 3), (4, 4)] rfl hz (Nat.zero_le _) ⟨⟨_, rfl, .ren rfl⟩, ⟨_, rfl, .ren rfl⟩, ⟨_, rfl, .ren rfl⟩, ⟨_, rfl, .ren rfl⟩, ⟨_, rfl, .ren rfl⟩, trivial⟩ ⟨⟨_, rfl, .ren rfl⟩, ⟨_, rfl, .ren rfl⟩, ⟨_, rfl, .ren rfl⟩, ⟨_, rfl, .ren rfl⟩, ⟨_, rfl, .ren rfl⟩, trivial⟩) ?_
    refine awp_range (gfn := Tryd.f31) Tryd.func31 rfl rfl cb_31 (by decide) rfl rfl rfl rfl (X := List UInt8 × List Ev) (fun x => RQ l x ∧ x.1 ≠ []) (fun x => sA (lnOf x.1)) (fun x => HX (rsOf x.1) x.2) (fun _ => 6) goR (fun x => HX (rsOf x.1) (x.2 ++ [eventP (lnOf x.1)])) (fun _ => 6) (fun x => [(2, some (.cells 24 [iA (if x.2.length = 4000 then 9 else 3)])), (1, some (.cells 3 [iA (x.2.length : Int)])), (0, some (.cells 22 [lit (.slice none 0 0)]))]) (fun _ => 6) (fun x => RQ l x ∧ x.1 = []) (fun x => HX x.1 x.2) (fun _ => 6) (fun x => (6, sA (lnOf x.1)) :: (13, sA (lnOf x.1)) :: T0) (fun x => ⟨_, rfl⟩) ?_ ?_ ?_ ?_ ?_
    · intro w1 own1 ρ1 F1 l1 esc1 hz1 hesc1 hY1
      refine awp_block ?_
      refine awp_le (le_virtc (c := 3) 37 8 rfl) ?_
      refine awp_loopQ (X := List UInt8 × List Ev) (RQ l) (fun x => ⟨[(0, lit (.func (.yield l1) #[] #[])), (1, .ptr 4 0 0 0)], HX x.1 x.2, 6⟩) (fun x => x.1.length) (l, []) ?_ ?_ ?_
      · exact rp_0 l
      · exact le_mk [(5, 5)] rfl hz1 (show 5 ≤ 6 by decide) ⟨⟨_, rfl, (by first | exact .fv | exact .ren rfl)⟩, ⟨_, rfl, .ren rfl⟩, trivial⟩ ⟨⟨_, rfl, .ren rfl⟩, ⟨_, rfl, .ren rfl⟩, ⟨_, rfl, .ren rfl⟩, ⟨_, rfl, .ren rfl⟩, ⟨_, rfl, .ren rfl⟩, ⟨_, rfl, .ren rfl⟩, trivial⟩
      · intro x hx
        have hx1 := hx.1
        have hix := ix_bd x.1
        refine awp_seq ?_
        refine awp_seq ?_
        refine awp_region ?_
        first | refine r_ld ty_9 rfl rfl rfl trivial rfl ?_ | refine r_ldr ty_9 rfl rfl trivial rfl ?_ | refine r_ldo ty_9 rfl rfl (by first | rfl | assumption) rfl trivial rfl ?_
        refine r_lens us_9 rfl trivial rfl ?_
        refine r_gtr rfl rfl trivial rfl ?_
        refine reg_nil ?_
        first | refine awp_cond_dec rfl (fun h1 => ?_) (fun h1 => ?_) | refine awp_cond rfl (fun h1 => ?_) (fun h1 => ?_)
        · refine awp_skip ?_
          refine awp_block ?_
          refine awp_seq ?_
          refine awp_region ?_
          refine r_as rfl trivial rfl ?_
          refine reg_nil ?_
          refine awp_seq ?_
          refine awp_seq ?_
          refine awp_region ?_
          first | refine r_ld ty_9 rfl rfl rfl trivial rfl ?_ | refine r_ldr ty_9 rfl rfl trivial rfl ?_ | refine r_ldo ty_9 rfl rfl (by first | rfl | assumption) rfl trivial rfl ?_
          refine r_call (ix_ok x.1) cb_32 rfl rfl rfl ?_ trivial rfl ?_
          · (repeat (first | exact .nil | refine .cons .fv ?_ | refine .cons (.aggf' rfl) ?_ | refine .cons .nil ?_ | refine .cons (.ren rfl) ?_))
          refine r_as rfl trivial rfl ?_
          refine reg_nil ?_
          refine awp_seq ?_
          refine awp_region ?_
          refine r_mv rfl trivial rfl ?_
          refine r_geq rfl rfl trivial rfl ?_
          refine reg_nil ?_
          first | refine awp_cond_dec rfl (fun h2 => ?_) (fun h2 => ?_) | refine awp_cond rfl (fun h2 => ?_) (fun h2 => ?_)
          · refine awp_draw mix rfl ?_
            first | refine r_ld ty_9 rfl rfl rfl trivial rfl ?_ | refine r_ldr ty_9 rfl rfl trivial rfl ?_ | refine r_ldo ty_9 rfl rfl (by first | rfl | assumption) rfl trivial rfl ?_
            refine r_mv rfl trivial rfl ?_
            refine r_add rfl rfl (rng64 (by omega)) trivial rfl ?_
            refine r_cutsh us_9 rfl rfl (by omega) (by omega) trivial rfl ?_
            first | refine r_ld ty_9 rfl rfl rfl trivial rfl ?_ | refine r_ldr ty_9 rfl rfl trivial rfl ?_ | refine r_ldo ty_9 rfl rfl (by first | rfl | assumption) rfl trivial rfl ?_
            refine r_mv rfl trivial rfl ?_
            refine r_add rfl rfl (rng64 (by omega)) trivial rfl ?_
            refine r_cutsl us_9 rfl rfl (by omega) (by omega) trivial rfl ?_
            refine r_as rfl trivial rfl ?_
            first | refine r_st ty_9 rfl rfl rfl rfl rfl rfl rfl trivial ?_ | refine r_sto ty_9 rfl rfl rfl rfl (by first | rfl | assumption) rfl rfl trivial ?_
            refine reg_nil ⟨rfl, ?_⟩
            have hne : x.1 ≠ [] := by intro h; rw [h] at h1; simp at h1
            first | (have e1 : lnOf x.1 = x.1.take (Lib.indexByte x.1 10 + 1).toNat := if_pos h2; have e2 : rsOf x.1 = x.1.drop (Lib.indexByte x.1 10 + 1).toNat := if_pos h2; refine awp_le (s' := ⟨[(0, lit (.func (.yield l1) #[] #[])), (1, .ptr 4 0 0 0), (3, sA (lnOf x.1))], HX (rsOf x.1) x.2, 6⟩) (by rw [e1, e2]; exact le_mk [(5, 5)] rfl hz1 (show 5 ≤ 6 by decide) ⟨⟨_, rfl, (by first | exact .fv | exact .ren rfl)⟩, ⟨_, rfl, .ren rfl⟩, ⟨_, rfl, (by first | exact .fv | exact .ren rfl)⟩, trivial⟩ ⟨⟨_, rfl, .ren rfl⟩, ⟨_, rfl, .ren rfl⟩, ⟨_, rfl, .ren rfl⟩, ⟨_, rfl, .ren rfl⟩, ⟨_, rfl, .ren rfl⟩, ⟨_, rfl, .ren rfl⟩, trivial⟩) ?_) | (have e1 : lnOf x.1 = x.1 := if_neg h2; have e2 : rsOf x.1 = [] := if_neg h2; refine awp_le (s' := ⟨[(0, lit (.func (.yield l1) #[] #[])), (1, .ptr 4 0 0 0), (3, sA (lnOf x.1))], HX (rsOf x.1) x.2, 6⟩) (by rw [e1, e2]; exact le_mk [(5, 5)] rfl hz1 (show 5 ≤ 6 by decide) ⟨⟨_, rfl, (by first | exact .fv | exact .ren rfl)⟩, ⟨_, rfl, .ren rfl⟩, ⟨_, rfl, (by first | exact .fv | exact .ren rfl)⟩, trivial⟩ ⟨⟨_, rfl, .ren rfl⟩, ⟨_, rfl, .ren rfl⟩, ⟨_, rfl, .ren rfl⟩, ⟨_, rfl, .ren rfl⟩, ⟨_, rfl, .ren rfl⟩, ⟨_, rfl, .ren rfl⟩, trivial⟩) ?_)
            refine awp_yield hY1 hesc1 rfl x ⟨hx, hne⟩ ⟨_, rfl⟩ (fun i v hv => ?_) rfl rfl rfl rfl rfl rfl rfl (fun hgo => ?_)
            · exact ids3 hv
            exact ⟨_, (rp_go hx hne (goR_spec hgo).1 (goR_spec hgo).2).1, le_mk [(5, 5)] rfl hz1 (show 5 ≤ 6 by decide) ⟨⟨_, rfl, (by first | exact .fv | exact .ren rfl)⟩, ⟨_, rfl, .ren rfl⟩, trivial⟩ ⟨⟨_, rfl, .ren rfl⟩, ⟨_, rfl, .ren rfl⟩, ⟨_, rfl, .ren rfl⟩, ⟨_, rfl, .ren rfl⟩, ⟨_, rfl, .ren rfl⟩, ⟨_, rfl, .ren rfl⟩, trivial⟩, (rp_go hx hne (goR_spec hgo).1 (goR_spec hgo).2).2⟩
          · refine awp_region ?_
            first | refine r_ld ty_9 rfl rfl rfl trivial rfl ?_ | refine r_ldr ty_9 rfl rfl trivial rfl ?_ | refine r_ldo ty_9 rfl rfl (by first | rfl | assumption) rfl trivial rfl ?_
            refine r_as rfl trivial rfl ?_
            first | refine r_st ty_9 rfl rfl rfl rfl rfl rfl rfl trivial ?_ | refine r_sto ty_9 rfl rfl rfl rfl (by first | rfl | assumption) rfl rfl trivial ?_
            refine reg_nil ?_
            have hne : x.1 ≠ [] := by intro h; rw [h] at h1; simp at h1
            first | (have e1 : lnOf x.1 = x.1.take (Lib.indexByte x.1 10 + 1).toNat := if_pos h2; have e2 : rsOf x.1 = x.1.drop (Lib.indexByte x.1 10 + 1).toNat := if_pos h2; refine awp_le (s' := ⟨[(0, lit (.func (.yield l1) #[] #[])), (1, .ptr 4 0 0 0), (3, sA (lnOf x.1))], HX (rsOf x.1) x.2, 6⟩) (by rw [e1, e2]; exact le_mk [(5, 5)] rfl hz1 (show 5 ≤ 6 by decide) ⟨⟨_, rfl, (by first | exact .fv | exact .ren rfl)⟩, ⟨_, rfl, .ren rfl⟩, ⟨_, rfl, (by first | exact .fv | exact .ren rfl)⟩, trivial⟩ ⟨⟨_, rfl, .ren rfl⟩, ⟨_, rfl, .ren rfl⟩, ⟨_, rfl, .ren rfl⟩, ⟨_, rfl, .ren rfl⟩, ⟨_, rfl, .ren rfl⟩, ⟨_, rfl, .ren rfl⟩, trivial⟩) ?_) | (have e1 : lnOf x.1 = x.1 := if_neg h2; have e2 : rsOf x.1 = [] := if_neg h2; refine awp_le (s' := ⟨[(0, lit (.func (.yield l1) #[] #[])), (1, .ptr 4 0 0 0), (3, sA (lnOf x.1))], HX (rsOf x.1) x.2, 6⟩) (by rw [e1, e2]; exact le_mk [(5, 5)] rfl hz1 (show 5 ≤ 6 by decide) ⟨⟨_, rfl, (by first | exact .fv | exact .ren rfl)⟩, ⟨_, rfl, .ren rfl⟩, ⟨_, rfl, (by first | exact .fv | exact .ren rfl)⟩, trivial⟩ ⟨⟨_, rfl, .ren rfl⟩, ⟨_, rfl, .ren rfl⟩, ⟨_, rfl, .ren rfl⟩, ⟨_, rfl, .ren rfl⟩, ⟨_, rfl, .ren rfl⟩, ⟨_, rfl, .ren rfl⟩, trivial⟩) ?_)
            refine awp_yield hY1 hesc1 rfl x ⟨hx, hne⟩ ⟨_, rfl⟩ (fun i v hv => ?_) rfl rfl rfl rfl rfl rfl rfl (fun hgo => ?_)
            · exact ids3 hv
            exact ⟨_, (rp_go hx hne (goR_spec hgo).1 (goR_spec hgo).2).1, le_mk [(5, 5)] rfl hz1 (show 5 ≤ 6 by decide) ⟨⟨_, rfl, (by first | exact .fv | exact .ren rfl)⟩, ⟨_, rfl, .ren rfl⟩, trivial⟩ ⟨⟨_, rfl, .ren rfl⟩, ⟨_, rfl, .ren rfl⟩, ⟨_, rfl, .ren rfl⟩, ⟨_, rfl, .ren rfl⟩, ⟨_, rfl, .ren rfl⟩, ⟨_, rfl, .ren rfl⟩, trivial⟩, (rp_go hx hne (goR_spec hgo).1 (goR_spec hgo).2).2⟩
        · refine awp_exit ?_
          exact ⟨rfl, x, ⟨hx, List.length_eq_zero_iff.1 (by omega)⟩, fun _ => rfl, rfl⟩
    · intro x hx w1 own1 ρ1 F1 l1 hz1
      refine awp_region ?_
      refine r_as rfl trivial rfl ?_
      refine reg_nil ?_
      exact ⟨rfl, rfl⟩
    · intro x hx w1 own1 ρ1 F1 l1 hz1
      have hx1 := hx.1.1
      have hx2 := hx.1.2.1
      have hln := ln_len x.1
      refine awp_block ?_
      refine awp_seq ?_
      refine awp_seq ?_
      refine awp_region ?_
      first | refine r_ld ty_22 rfl rfl rfl trivial rfl ?_ | refine r_ldr ty_22 rfl rfl trivial rfl ?_ | refine r_ldo ty_22 rfl rfl (by first | rfl | assumption) rfl trivial rfl ?_
      first | refine r_lenr sl_22 rfl trivial rfl ?_ | refine r_lenw sl_22 rfl trivial rfl ?_ | refine r_len0 sl_22 rfl trivial rfl ?_
      refine r_eqi rfl rfl trivial rfl ?_
      refine reg_nil ?_
      first | refine awp_cond_dec rfl (fun h2 => ?_) (fun h2 => ?_) | refine awp_cond rfl (fun h2 => ?_) (fun h2 => ?_)
      · refine awp_seq ?_
        refine awp_draw mix rfl ?_
        first | refine r_ld ty_22 rfl rfl rfl trivial rfl ?_ | refine r_ldr ty_22 rfl rfl trivial rfl ?_ | refine r_ldo ty_22 rfl rfl (by first | rfl | assumption) rfl trivial rfl ?_
        first | refine r_lenr sl_22 rfl trivial rfl ?_ | refine r_lenw sl_22 rfl trivial rfl ?_ | refine r_len0 sl_22 rfl trivial rfl ?_
        first | refine r_st ty_22 rfl rfl rfl rfl rfl rfl rfl trivial ?_ | refine r_sto ty_22 rfl rfl rfl rfl (by first | rfl | assumption) rfl rfl trivial ?_
        first | refine r_st ty_3 rfl rfl rfl rfl rfl rfl rfl trivial ?_ | refine r_sto ty_3 rfl rfl rfl rfl (by first | rfl | assumption) rfl rfl trivial ?_
        first | refine r_st ty_24 rfl rfl rfl rfl rfl rfl rfl trivial ?_ | refine r_sto ty_24 rfl rfl rfl rfl (by first | rfl | assumption) rfl rfl trivial ?_
        refine reg_nil ⟨rfl, ?_⟩
        refine awp_ret ?_
        first | exact .inr ⟨rfl, goR_f1 (by assumption), le_mk [] rfl hz1 (show 5 ≤ 6 by decide) ⟨⟩ ⟨⟨_, rfl, .ren (by first | (rw [if_pos (by omega)]; rfl) | (rw [if_neg (by omega)]; rfl))⟩, ⟨_, rfl, .ren rfl⟩, ⟨_, rfl, .ren rfl⟩, trivial⟩⟩ | exact .inr ⟨rfl, goR_f2 (by assumption), le_mk [] rfl hz1 (show 5 ≤ 6 by decide) ⟨⟩ ⟨⟨_, rfl, .ren (by first | (rw [if_pos (by omega)]; rfl) | (rw [if_neg (by omega)]; rfl))⟩, ⟨_, rfl, .ren rfl⟩, ⟨_, rfl, .ren rfl⟩, trivial⟩⟩ | exact .inr ⟨rfl, goR_f3 (by assumption), le_mk [] rfl hz1 (show 5 ≤ 6 by decide) ⟨⟩ ⟨⟨_, rfl, .ren (by first | (rw [if_pos (by omega)]; rfl) | (rw [if_neg (by omega)]; rfl))⟩, ⟨_, rfl, .ren rfl⟩, ⟨_, rfl, .ren rfl⟩, trivial⟩⟩
      · refine awp_skip ?_
        refine awp_seq ?_
        refine awp_region ?_
        refine r_mv rfl trivial rfl ?_
        refine r_call (event_ok (lnOf x.1) (by omega)) cb_18 rfl rfl rfl ?_ trivial rfl ?_
        · (repeat (first | exact .nil | refine .cons .fv ?_ | refine .cons (.aggf' rfl) ?_ | refine .cons .nil ?_ | refine .cons (.ren rfl) ?_))
        refine r_alloc z_37 rfl trivial rfl ?_
        first | refine r_st ty_37 rfl rfl rfl rfl rfl rfl rfl trivial ?_ | refine r_sto ty_37 rfl rfl rfl rfl (by first | rfl | assumption) rfl rfl trivial ?_
        refine reg_nil ?_
        refine awp_seq ?_
        refine awp_seq ?_
        refine awp_region ?_
        first | refine r_lda ty_37 rfl rfl rfl rfl trivial rfl ?_ | refine r_ldra ty_37 rfl rfl rfl trivial rfl ?_ | refine r_ldoa ty_37 rfl rfl (by first | rfl | assumption) rfl rfl trivial rfl ?_
        refine r_call (check_ok (eventP (lnOf x.1))) cb_11 rfl rfl rfl ?_ trivial rfl ?_
        · (repeat (first | exact .nil | refine .cons .fv ?_ | refine .cons (.aggf' rfl) ?_ | refine .cons .nil ?_ | refine .cons (.ren rfl) ?_))
        refine r_nei rfl rfl trivial rfl ?_
        refine r_mv rfl trivial rfl ?_
        first | refine reg_split_dec 24 rfl (fun h3 => ?_) (fun h3 => ?_) | refine reg_split 24 rfl (fun h3 => ?_) (fun h3 => ?_)
        · refine r_skip ⟨_, rfl, .inl rfl⟩ rfl ?_
          refine r_skip ⟨_, rfl, .inl rfl⟩ rfl ?_
          refine r_skip ⟨_, rfl, .inl rfl⟩ rfl ?_
          refine r_skip ⟨_, rfl, .inl rfl⟩ rfl ?_
          refine r_pkt rfl rfl trivial rfl ?_
          refine reg_nil ?_
          refine awp_cond_t rfl ?_
          refine awp_seq ?_
          refine awp_draw mix rfl ?_
          first | refine r_ld ty_22 rfl rfl rfl trivial rfl ?_ | refine r_ldr ty_22 rfl rfl trivial rfl ?_ | refine r_ldo ty_22 rfl rfl (by first | rfl | assumption) rfl trivial rfl ?_
          first | refine r_lenr sl_22 rfl trivial rfl ?_ | refine r_lenw sl_22 rfl trivial rfl ?_ | refine r_len0 sl_22 rfl trivial rfl ?_
          first | refine r_st ty_22 rfl rfl rfl rfl rfl rfl rfl trivial ?_ | refine r_sto ty_22 rfl rfl rfl rfl (by first | rfl | assumption) rfl rfl trivial ?_
          first | refine r_st ty_3 rfl rfl rfl rfl rfl rfl rfl trivial ?_ | refine r_sto ty_3 rfl rfl rfl rfl (by first | rfl | assumption) rfl rfl trivial ?_
          first | refine r_st ty_24 rfl rfl rfl rfl rfl rfl rfl trivial ?_ | refine r_sto ty_24 rfl rfl rfl rfl (by first | rfl | assumption) rfl rfl trivial ?_
          refine reg_nil ⟨rfl, ?_⟩
          refine awp_ret ?_
          first | exact .inr ⟨rfl, goR_f1 (by assumption), le_mk [] rfl hz1 (show 5 ≤ 6 by decide) ⟨⟩ ⟨⟨_, rfl, .ren (by first | (rw [if_pos (by omega)]; rfl) | (rw [if_neg (by omega)]; rfl))⟩, ⟨_, rfl, .ren rfl⟩, ⟨_, rfl, .ren rfl⟩, trivial⟩⟩ | exact .inr ⟨rfl, goR_f2 (by assumption), le_mk [] rfl hz1 (show 5 ≤ 6 by decide) ⟨⟩ ⟨⟨_, rfl, .ren (by first | (rw [if_pos (by omega)]; rfl) | (rw [if_neg (by omega)]; rfl))⟩, ⟨_, rfl, .ren rfl⟩, ⟨_, rfl, .ren rfl⟩, trivial⟩⟩ | exact .inr ⟨rfl, goR_f3 (by assumption), le_mk [] rfl hz1 (show 5 ≤ 6 by decide) ⟨⟩ ⟨⟨_, rfl, .ren (by first | (rw [if_pos (by omega)]; rfl) | (rw [if_neg (by omega)]; rfl))⟩, ⟨_, rfl, .ren rfl⟩, ⟨_, rfl, .ren rfl⟩, trivial⟩⟩
        · first | refine r_lda ty_37 rfl rfl rfl rfl ⟨_, rfl, rfl⟩ rfl ?_ | refine r_ldra ty_37 rfl rfl rfl ⟨_, rfl, rfl⟩ rfl ?_ | refine r_ldoa ty_37 rfl rfl (by first | rfl | assumption) rfl rfl ⟨_, rfl, rfl⟩ rfl ?_
          refine r_call (pline_ok (eventP (lnOf x.1)) (by omega)) cb_13 rfl rfl rfl ?_ ⟨_, rfl, rfl⟩ rfl ?_
          · (repeat (first | exact .nil | refine .cons .fv ?_ | refine .cons (.aggf' rfl) ?_ | refine .cons .nil ?_ | refine .cons (.ren rfl) ?_))
          refine r_mv rfl ⟨_, rfl, rfl⟩ rfl ?_
          refine r_nestr rfl rfl ⟨_, rfl, rfl⟩ rfl ?_
          refine r_pkf rfl rfl trivial rfl ?_
          refine reg_nil ?_
          first | refine awp_cond_dec rfl (fun h4 => ?_) (fun h4 => ?_) | refine awp_cond rfl (fun h4 => ?_) (fun h4 => ?_)
          · refine awp_seq ?_
            refine awp_draw mix rfl ?_
            first | refine r_ld ty_22 rfl rfl rfl trivial rfl ?_ | refine r_ldr ty_22 rfl rfl trivial rfl ?_ | refine r_ldo ty_22 rfl rfl (by first | rfl | assumption) rfl trivial rfl ?_
            first | refine r_lenr sl_22 rfl trivial rfl ?_ | refine r_lenw sl_22 rfl trivial rfl ?_ | refine r_len0 sl_22 rfl trivial rfl ?_
            first | refine r_st ty_22 rfl rfl rfl rfl rfl rfl rfl trivial ?_ | refine r_sto ty_22 rfl rfl rfl rfl (by first | rfl | assumption) rfl rfl trivial ?_
            first | refine r_st ty_3 rfl rfl rfl rfl rfl rfl rfl trivial ?_ | refine r_sto ty_3 rfl rfl rfl rfl (by first | rfl | assumption) rfl rfl trivial ?_
            first | refine r_st ty_24 rfl rfl rfl rfl rfl rfl rfl trivial ?_ | refine r_sto ty_24 rfl rfl rfl rfl (by first | rfl | assumption) rfl rfl trivial ?_
            refine reg_nil ⟨rfl, ?_⟩
            refine awp_ret ?_
            first | exact .inr ⟨rfl, goR_f1 (by assumption), le_mk [] rfl hz1 (show 5 ≤ 6 by decide) ⟨⟩ ⟨⟨_, rfl, .ren (by first | (rw [if_pos (by omega)]; rfl) | (rw [if_neg (by omega)]; rfl))⟩, ⟨_, rfl, .ren rfl⟩, ⟨_, rfl, .ren rfl⟩, trivial⟩⟩ | exact .inr ⟨rfl, goR_f2 (by assumption), le_mk [] rfl hz1 (show 5 ≤ 6 by decide) ⟨⟩ ⟨⟨_, rfl, .ren (by first | (rw [if_pos (by omega)]; rfl) | (rw [if_neg (by omega)]; rfl))⟩, ⟨_, rfl, .ren rfl⟩, ⟨_, rfl, .ren rfl⟩, trivial⟩⟩ | exact .inr ⟨rfl, goR_f3 (by assumption), le_mk [] rfl hz1 (show 5 ≤ 6 by decide) ⟨⟩ ⟨⟨_, rfl, .ren (by first | (rw [if_pos (by omega)]; rfl) | (rw [if_neg (by omega)]; rfl))⟩, ⟨_, rfl, .ren rfl⟩, ⟨_, rfl, .ren rfl⟩, trivial⟩⟩
          · refine awp_skip ?_
            refine awp_region ?_
            first | refine r_ld ty_22 rfl rfl rfl trivial rfl ?_ | refine r_ldr ty_22 rfl rfl trivial rfl ?_ | refine r_ldo ty_22 rfl rfl (by first | rfl | assumption) rfl trivial rfl ?_
            first | refine r_lda ty_37 rfl rfl rfl rfl trivial rfl ?_ | refine r_ldra ty_37 rfl rfl rfl trivial rfl ?_ | refine r_ldoa ty_37 rfl rfl (by first | rfl | assumption) rfl rfl trivial rfl ?_
            refine r_bslice (rs := [[_, _, _, _, _, _, _, _]]) sl_22 ty_37 rfl z_37 rfl rfl rfl rfl rfl rfl rfl trivial rfl ?_
            first | refine r_appr sl_22 ty_37 rfl z_37 rfl rfl rfl (by simp) (by simp [maxLen_eq]; omega) (by simp; omega) trivial rfl ?_ | refine r_appw sl_22 ty_37 rfl z_37 rfl rfl rfl rfl (by simp) rfl rfl (by simp [maxLen_eq]; omega) (by simp; omega) trivial rfl ?_
            first | refine r_st ty_22 rfl rfl rfl rfl rfl rfl rfl trivial ?_ | refine r_sto ty_22 rfl rfl rfl rfl (by first | rfl | assumption) rfl rfl trivial ?_
            refine reg_nil ?_
            exact .inl ⟨rfl, goR_t (by assumption) (by omega) (Classical.not_not.1 (by assumption)), le_mk [(5, 8)] rfl hz1 (show 5 ≤ 6 by decide) ⟨⟩ ⟨⟨_, rfl, .ren rfl⟩, ⟨_, rfl, .ren (by simp [Blk.ren, AV.ren, ren] <;> rfl)⟩, ⟨_, rfl, .ren (by simp [Blk.ren] <;> rfl)⟩, ⟨_, rfl, .ren rfl⟩, ⟨_, rfl, .ren rfl⟩, ⟨_, rfl, .ren rfl⟩, trivial⟩⟩
    · intro x hx
      refine awp_seq ?_
      refine awp_region ?_
      first | refine r_ld ty_22 rfl rfl rfl trivial rfl ?_ | refine r_ldr ty_22 rfl rfl trivial rfl ?_ | refine r_ldo ty_22 rfl rfl (by first | rfl | assumption) rfl trivial rfl ?_
      first | refine r_st ty_22 rfl rfl rfl rfl rfl rfl rfl trivial ?_ | refine r_sto ty_22 rfl rfl rfl rfl (by first | rfl | assumption) rfl rfl trivial ?_
      first | refine r_st ty_3 rfl rfl rfl rfl rfl rfl rfl trivial ?_ | refine r_sto ty_3 rfl rfl rfl rfl (by first | rfl | assumption) rfl rfl trivial ?_
      first | refine r_st ty_24 rfl rfl rfl rfl rfl rfl rfl trivial ?_ | refine r_sto ty_24 rfl rfl rfl rfl (by first | rfl | assumption) rfl rfl trivial ?_
      refine reg_nil ?_
      refine awp_ret ?_
      refine fin0 (.cons (.one rfl rfl ty_22 rfl) (.cons (.one rfl rfl ty_3 rfl) (.cons (.one rfl rfl ty_24 rfl) .nil))) (.tup (.cons (.frz rfl (by simp) trivial) (.cons .fv (.cons .fv .nil)))) ?_
      (rw [rp_done hx.1 (by omega) hx.2])
    · intro x hx hgo
      refine fin0 (.cons (.one rfl rfl ty_22 rfl) (.cons (.one rfl rfl ty_3 rfl) (.cons (.one rfl rfl ty_24 rfl) .nil))) (.tup (.cons (Cv.nil (k := 8)) (.cons .fv (.cons .fv .nil)))) ?_
      (by_cases hn : x.2.length = 4000
       · rw [rp_full hx.1 (by omega) hx.2 hn, if_pos hn, hn]; rfl
       · rw [rp_bad hx.1 (by omega) hx.2 hn (by cases hg : gd (lnOf x.1) with
           | true => simp [goR, hn, hg] at hgo
           | false => rfl), if_neg hn]; rfl)
end Go.Uw.D
namespace Go.Uw.D
open Go Go.Uw Go.Proofs

set_option maxRecDepth 100000 in
theorem linesReads_ok (l : List UInt8) : Fun Tryd.prog 4 [sA l] [] [] (bA true) [] := by
  refine fun_of_awp (rl := [.tmp 2]) Tryd.func4 rfl Tryd.results4 Tryd.ntmps4 0 rfl (by simp) ?_
  intro w0 own0 ρ0 F hz
  refine awp_seq ?_
  refine awp_region ?_
  refine r_as rfl trivial rfl ?_
  refine reg_nil ?_
  refine awp_seq ?_
  refine awp_region ?_
  refine r_mv rfl trivial rfl ?_
  refine r_call (read_ok l) cb_9 rfl rfl rfl ?_ trivial rfl ?_
  · (repeat (first | exact .nil | refine .cons .fv ?_ | refine .cons (.aggf' rfl) ?_ | refine .cons .nil ?_ | refine .cons (.ren rfl) ?_))
  refine r_mv rfl trivial rfl ?_
  refine r_ext rfl rfl trivial rfl ?_
  refine r_ext rfl rfl trivial rfl ?_
  refine r_ext rfl rfl trivial rfl ?_
  refine r_as rfl trivial rfl ?_
  refine r_as rfl trivial rfl ?_
  refine r_as rfl trivial rfl ?_
  refine reg_nil ?_
  refine awp_seq ?_
  refine awp_region ?_
  refine r_mv rfl trivial rfl ?_
  refine r_call (eventsRead_ok l) cb_10 rfl rfl rfl ?_ trivial rfl ?_
  · (repeat (first | exact .nil | refine .cons .fv ?_ | refine .cons (.aggf' rfl) ?_ | refine .cons .nil ?_ | refine .cons (.ren rfl) ?_))
  refine r_mv rfl trivial rfl ?_
  refine r_ext rfl rfl trivial rfl ?_
  refine r_ext rfl rfl trivial rfl ?_
  refine r_ext rfl rfl trivial rfl ?_
  refine r_as rfl trivial rfl ?_
  refine r_as rfl trivial rfl ?_
  refine r_as rfl trivial rfl ?_
  refine reg_nil ?_
  refine awp_seq ?_
  refine awp_region ?_
  refine r_mv rfl trivial rfl ?_
  refine r_mv rfl trivial rfl ?_
  refine r_eqi rfl rfl trivial rfl ?_
  refine r_mv rfl trivial rfl ?_
  first | refine reg_split_dec 24 rfl (fun h1 => ?_) (fun h1 => ?_) | refine reg_split 24 rfl (fun h1 => ?_) (fun h1 => ?_)
  · refine r_mv rfl ⟨_, rfl, rfl⟩ rfl ?_
    refine r_mv rfl ⟨_, rfl, rfl⟩ rfl ?_
    refine r_eqi rfl rfl ⟨_, rfl, rfl⟩ rfl ?_
    refine r_pkt rfl rfl trivial rfl ?_
    refine r_mv rfl trivial rfl ?_
    first | refine reg_split_dec 29 rfl (fun h2 => ?_) (fun h2 => ?_) | refine reg_split 29 rfl (fun h2 => ?_) (fun h2 => ?_)
    · refine r_mv rfl ⟨_, rfl, rfl⟩ rfl ?_
      refine r_mv rfl ⟨_, rfl, rfl⟩ rfl ?_
      refine r_call (same_ok (readR l).1) cb_8 rfl rfl rfl ?_ ⟨_, rfl, rfl⟩ rfl ?_
      · (repeat (first | exact .nil | refine .cons .fv ?_ | refine .cons (.aggf' rfl) ?_ | refine .cons .nil ?_ | refine .cons (.ren rfl) ?_))
      refine r_pkt rfl rfl trivial rfl ?_
      refine r_as rfl trivial rfl ?_
      refine reg_nil ?_
      refine awp_ret ?_
      refine fin0 (.cons (.tmp rfl) .nil) (by first | exact .fv | exact .frz rfl rfl trivial | exact .nil | exact .aggf' rfl | exact .aggf) ?_
      simp_all
    · refine r_skip ⟨_, rfl, .inl rfl⟩ rfl ?_
      refine r_skip ⟨_, rfl, .inl rfl⟩ rfl ?_
      refine r_skip ⟨_, rfl, .inl rfl⟩ rfl ?_
      refine r_pkf rfl rfl trivial rfl ?_
      refine r_as rfl trivial rfl ?_
      refine reg_nil ?_
      refine awp_ret ?_
      refine fin0 (.cons (.tmp rfl) .nil) (by first | exact .fv | exact .frz rfl rfl trivial | exact .nil | exact .aggf' rfl | exact .aggf) ?_
      simp_all
  · refine r_skip ⟨_, rfl, .inl rfl⟩ rfl ?_
    refine r_skip ⟨_, rfl, .inl rfl⟩ rfl ?_
    refine r_skip ⟨_, rfl, .inl rfl⟩ rfl ?_
    refine r_pkf rfl rfl trivial rfl ?_
    refine r_mv rfl trivial rfl ?_
    refine r_skip ⟨_, rfl, .inl rfl⟩ rfl ?_
    refine r_skip ⟨_, rfl, .inl rfl⟩ rfl ?_
    refine r_skip ⟨_, rfl, .inl rfl⟩ rfl ?_
    refine r_pkf rfl rfl trivial rfl ?_
    refine r_as rfl trivial rfl ?_
    refine reg_nil ?_
    refine awp_ret ?_
    refine fin0 (.cons (.tmp rfl) .nil) (by first | exact .fv | exact .frz rfl rfl trivial | exact .nil | exact .aggf' rfl | exact .aggf) ?_
    simp_all
end Go.Uw.D
