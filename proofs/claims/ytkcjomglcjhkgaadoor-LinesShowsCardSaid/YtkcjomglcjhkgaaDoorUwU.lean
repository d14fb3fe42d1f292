/- append onto nil. Own work. -/
import Derived.Test.YtkcjomglcjhkgaaDoorUwT
set_option linter.unusedVariables false
set_option linter.unusedSimpArgs false
set_option linter.unusedVariables false
set_option linter.unusedSimpArgs false
namespace Go.Uw
open Go

theorem bytesF_app (a b : List UInt8) : bytesF (a ++ b) = bytesF a ++ bytesF b := by simp [bytesF]
theorem bytesF_len (a : List UInt8) : (bytesF a).length = a.length := by simp [bytesF]

/-- nothing, under a new name -/
theorem Out.virt {F : Nat → Prop} {w : World} {ρ : Names} {h : Nat → Option Blk} (hh : HR F w ρ h) {n e k : Nat} (hn : ρ n = none) :
    Out F w ρ h [n] (.rw n k 0 0) [(n, some (.rows e k []))] w (.slice none 0 0) := by
  have hsub : ∀ b, own (rput ρ n 0) (happ [(n, some (.rows e k []))] h) b → own ρ h b := by
    rintro b ⟨i, h1, h2⟩
    by_cases hi : n = i
    · subst hi; rw [rput_same] at h2; cases h2
    · rw [happ1_other hi] at h1; rw [rput_other hi] at h2; exact ⟨i, h1, h2⟩
  have hE : Ext w (own ρ h) ρ w (own (rput ρ n 0) (happ [(n, some (.rows e k []))] h)) (rput ρ n 0) := by
    refine ⟨rfl, rfl, rfl, Nat.le_refl _, fun b _ hb => ⟨rfl, fun h' => hb (hsub b h')⟩, fun b c e hc => ⟨c, hc, rfl⟩, fun i b hi => ?_⟩
    rw [rput_other]; exact hi
    rintro rfl; rw [hn] at hi; cases hi
  refine ⟨rput ρ n 0, ⟨fun i x hx => ?_, fun b hb => ⟨(hh.far b hb).1, fun ho => (hh.far b hb).2 (hsub b ho)⟩, fun i i' b h1 h2 h3 h4 => ?_, hh.gl.ext hE.sh⟩, by simp [AV.rep, rput_same], hE, fun i hi => rput_other (by simpa using Ne.symm (by simpa using hi)), fun i b h1 h2 => .inl (hsub b ⟨i, h1, h2⟩)⟩
  · by_cases hi : n = i
    · subst hi
      rw [happ1_same] at hx; cases hx
      exact ⟨0, rput_same, e, k, rfl⟩
    · rw [happ1_other hi] at hx
      obtain ⟨m, h1, h2⟩ := hh.blk i x hx
      refine ⟨m, by rw [rput_other hi]; exact h1, ?_⟩
      cases m with
      | zero => exact h2
      | succ b => exact Blk.rep_ext hE.sh rfl x h2
  · by_cases hi : n = i
    · subst hi; rw [rput_same] at h3; cases h3
    · by_cases hi' : n = i'
      · subst hi'; rw [rput_same] at h4; cases h4
      · rw [happ1_other hi] at h1; rw [happ1_other hi'] at h2; rw [rput_other hi] at h3; rw [rput_other hi'] at h4
        exact hh.inj i i' b h1 h2 h3 h4

section
variable {P : Program} {dst : Option Tmp} {ty : TypeId} {pos : String} {af : Array Edge} {g : Option (Nat × Bool)}

theorem ltr_appn {T e k n m : Nat} {gg : Bool} {zs : List Value} {s x : Operand} {news : List (List FV)} (hT : slB P T = some e) (he : tyB P e = some (gg, k, n)) (hk : 0 < k) (hz : zeroB P e = some zs)
    (hs : EvAt s (lit (.slice none 0 0))) (hx : EvAt x (.fv (.ro k news))) (h63 : news.length ≤ maxLen) (hb : news.length * n ≤ 281474976710656) :
    LTr P ⟨dst, .call ⟨.builtin .append, ⟨[s, x]⟩, ⟨[T, T]⟩⟩, ty, pos, af, g⟩ (foot s (lit (.slice none 0 0)) ++ foot x (.fv (.ro k news))) [] [m]
      (.rw m k 0 news.length) [(m, some (.rows e k news))] :=
  LTr.of_run fun F ρ h a w hh hH hn hT' => by
    have h1 := (rep_lit (eval_rep hs sub1 hT')).1
    have h2 := eval_rep hx sub2 hT'
    have hm := hn m (by simp)
    obtain ⟨d, i, h3, h4, h5, h6, h7⟩ := tyB_spec he
    obtain ⟨i', z, h8, h9, h10, h11, h12⟩ := zeroB_spec hz
    rw [h4] at h8; cases h8
    subst h6; subst h7
    simp only [AV.rep, FV.rep] at h2
    obtain ⟨ad, len, cap, e1, e2, e3, e4, e5, e6⟩ := h2
    subst e2
    by_cases hnz : news.length = 0
    · have hnn : news = [] := List.eq_nil_of_length_eq_zero hnz
      subst hnn
      refine ⟨.slice none 0 0, w, .inl (run_appendOp ?_), by simpa using Out.virt hh hm⟩
      rw [h1, e1]
      cases ad <;> simp [Builtin.append_, run_underlying (slB_spec hT), sizeOf, typeInfo, h4, Builtin.lenOf, Builtin.firstCells, loadCells, loadCellsFrom]
    · cases ad with
      | none => have := e5 rfl; omega
      | some ad =>
        obtain ⟨g1', g2⟩ := e6 ad rfl
        have g1 := g1' (by rintro rfl; exact hnz rfl)
        obtain ⟨ys, y1, y2, y3⟩ := flat_of_repRows (ρ := ρ) g2
        rw [addr_eta g1] at e1
        have hml : maxLen = 9223372036854775807 := rfl
        have hr := run_append_nil (P := P) w T ty e i z (slB_spec hT) h4 h9 ⟨ad.block, ad.off, none⟩ news.length cap ys y2 (fun j v hj => by rw [add_none]; exact y3 j v hj) (by omega) (by omega) (by omega)
        have hge := grownCap_ge w news.length 0 e
        have hcm := grownCap_le_maxLen w news.length 0 e h63
        have hrk := repRows_k g2
        have hsz : (ys.toArray ++ Builtin.zeroCells z.cells (grownCap w news.length 0 e - news.length)).size = grownCap w news.length 0 e * i.size := by
          rw [Array.size_append, size_zeroCells, h10]
          simp only [List.size_toArray, y2, h11, ← Nat.add_mul]
          congr 1; omega
        refine ⟨_, _, .inl (run_appendOp (by rw [h1, e1]; exact hr)), ?_⟩
        have o1 : Out F w ρ h [] .undef [] w.drew undef := Out.draw hh
        have o2 := o1.trans (nid2 := [m]) (v2 := .rw m i.size 0 news.length) (p2 := [(m, some (.rows e i.size news))])
          (w2 := w.drew.alloc (.cells (ys.toArray ++ Builtin.zeroCells z.cells (grownCap w news.length 0 e - news.length)) e (0, 0))) (u2 := .slice (some ⟨w.heap.size, 0, none⟩) news.length (grownCap w news.length 0 e)) (fun ρ1 hh1 hρ _ hE => by
            have hy1 := repL_ext hE.sh _ _ y1
            refine Out.new hh1 (by rw [hρ m (by simp)]; exact hm) (fun own' ρ' hE' => ?_) (fun own' ρ' hE' hnn => ?_)
            · simp only [Blk.rep]
              refine ⟨_, heap_alloc_new w.drew _, by rw [hsz]; exact Nat.mul_le_mul_right _ hge, ownRows_of_flat (ρ := ρ') hrk (repL_ext hE' _ _ hy1) fun j v hj => ?_⟩
              rw [Nat.zero_add, cell_of_heap (heap_alloc_new w.drew _)]
              have hlt := (List.getElem?_eq_some_iff.1 hj).1
              rw [Array.getElem?_append_left (by simpa using hlt)]
              simpa using hj
            · simp only [AV.rep]
              exact .inr ⟨w.heap.size, _, _, e, hnn, by simp, hge, hcm, ⟨_, heap_alloc_new w.drew _⟩, by rw [hsz, Nat.zero_add]⟩)
        simpa using o2
end

section
variable {P : Program} {nt : Nat} {ops : Array Oper} {rest : List Oper} {t : List (Nat × AV)} {h : List (Nat × Option Blk)} {n : Nat} {K : List Rec → St → Prop}
variable {d : Tmp} {ty : TypeId} {pos : String} {af : Array Edge} {g : Option (Nat × Bool)}
theorem r_appn {T e k' nb : Nat} {gg : Bool} {zs : List Value} {s x : Operand} {news : List (List FV)} (hT : slB P T = some e) (he : tyB P e = some (gg, k', nb)) (hk : Nat.blt 0 k' = true) (hz : zeroB P e = some zs)
    (hs : evF t s = some (lit (.slice none 0 0))) (hx : evF t x = some (.fv (.ro k' news))) (h63 : news.length ≤ maxLen) (hbb : news.length * nb ≤ 281474976710656) (hw : wantedS ops t g) (hd : Nat.blt d nt = true)
    (k : Reg P nt ops rest ⟨(d, .rw n k' 0 news.length) :: t, (n, some (.rows e k' news)) :: h, n + 1⟩ (fun tr s' => K (⟨(foot s (lit (.slice none 0 0)) ++ foot x (.fv (.ro k' news))).map (·.1), [], [n], [n]⟩ :: tr) s')) :
    Reg P nt ops (⟨some d, .call ⟨.builtin .append, ⟨[s, x]⟩, ⟨[T, T]⟩⟩, ty, pos, af, g⟩ :: rest) ⟨t, h, n⟩ K :=
  reg_of (ltr_appn (m := n) hT he (by rwa [Nat.blt_eq] at hk) hz (evAt_of hs) (evAt_of hx) h63 hbb) hw (foot_ok2 hs hx) (by simp) (mem1 ⟨Nat.le_refl _, Nat.lt_succ_self _⟩) (Nat.le_succ _) hd k
end
end Go.Uw
namespace Go.Uw
theorem awp_loopQ {P : Program} {E : Env} {K : Exit → St → Prop} {s : St} {X : Type} (Q : X → Prop) (Inv : X → St) (μ : X → Nat) {c : Code} (x0 : X) (hq : Q x0) (h0 : Le E s (Inv x0))
    (hr : ∀ x, Q x → AWP P E c (thenK (fun s' => ∃ x', Q x' ∧ Le E s' (Inv x') ∧ μ x' < μ x) K) (Inv x)) : AWP P E (.loop c) K s :=
  awp_loop (X := {x : X // Q x}) (fun x => Inv x.1) (fun x => μ x.1) ⟨x0, hq⟩ h0 fun x => awp_mono (hr x.1 x.2) fun e s' h => by
    cases e with
    | normal => obtain ⟨x', h1, h2, h3⟩ := h; exact ⟨⟨x', h1⟩, h2, h3⟩
    | _ => exact h
end Go.Uw
