/- Which events clash, and how. -/
import Derived.Test.YtbhmplbckkipjaaData
import Derived.Test.YtbhmplbckkipjaaEngY
import Derived.Test.YtbhmplbckkipjaaEngZ
import Derived.Test.YtbhmplbckkipjaaTab
namespace Go.Proofs.Ytbhmplbckkipjaa
open Go Go.Eng Go.RowKit
set_option maxRecDepth 100000
set_option maxHeartbeats 4000000
set_option linter.unusedVariables false
set_option linter.unusedSimpArgs false
def MayP (p : Pth) : Prop := 1 ≤ p.n ∧ p.n ≤ 4 ∧ 0 ≤ p.a ∧ p.a ≤ 999 ∧ 0 ≤ p.b ∧ p.b ≤ 999 ∧ (2 ≤ p.n ∨ p.b = 0) ∧ 0 ≤ p.c ∧ p.c ≤ 999 ∧ (3 ≤ p.n ∨ p.c = 0) ∧ 0 ≤ p.d ∧ p.d ≤ 999 ∧ (4 ≤ p.n ∨ p.d = 0)
instance (p : Pth) : Decidable (MayP p) := by unfold MayP; infer_instance
theorem may_fn (p : Pth) : Eng.Fn Try.prog 85 [.a (encP p)] (Tells (.c (.b (decide (MayP p))))) := by
  refine Eng.Fn.of tab_ok Try.func85 (by kernel_rfl) (by kernel_rfl) (fun w0 => ?_)
  conv => whnf
  repeat' (first | (refine loopx_rounds tab_ok 5 ?_; conv => whnf) | (apply And.intro <;> intro h <;> conv => whnf))
  all_goals simp only [decide_eq_true_eq, decide_eq_false_iff_not, bne_iff_ne, ne_eq, bne_eq_false_iff_eq, IntKind.wrap_i64] at *
  all_goals (unfold MayP; omega)
def cutP (p : Pth) (k : Int) : Pth := ⟨if 1 ≤ k then p.a else 0, if 2 ≤ k then p.b else 0, if 3 ≤ k then p.c else 0, if 4 ≤ k then p.d else 0, k⟩
theorem cut_fn (p : Pth) (k : Int) (hk : 1 ≤ k ∧ k ≤ 4) : Eng.Fn Try.prog 118 [.a (encP p), .c (.i .i64 k)] (Tells (.a (encP (cutP p k)))) := by
  have : k = 1 ∨ k = 2 ∨ k = 3 ∨ k = 4 := by omega
  rcases this with rfl | rfl | rfl | rfl
  all_goals
    refine Eng.Fn.of tab_ok Try.func118 (by kernel_rfl) (by kernel_rfl) (fun w0 => ?_)
    conv => whnf
    refine drawx_plan tab_ok [0, 2] (.take 0 (.take 1 (.take 2 (.take 3 (.take 4 (.take 5 (.one 6 .done))))))) (by kernel_rfl) (by kernel_rfl) (by kernel_rfl) ?_
    conv => whnf
    refine ⟨by decide, ?_⟩
    conv => whnf
    refine ⟨by decide, ?_⟩
    conv => whnf
    repeat' (first | exact trivial | exact ⟨rfl, rfl⟩ | rfl | apply And.intro)
def withinB (p q : Pth) : Bool := decide (MayP p ∧ MayP q ∧ q.n ≤ p.n ∧ cutP p q.n = q)
theorem within_fn (p q : Pth) : Eng.Fn Try.prog 81 [.a (encP p), .a (encP q)] (Tells (.c (.b (withinB p q)))) := by
  refine Eng.Fn.of tab_ok Try.func81 (by kernel_rfl) (by kernel_rfl) (fun w0 => ?_)
  conv => whnf
  refine drawx_pure tab_ok (by kernel_rfl) (by kernel_rfl) ?_
  conv => whnf
  refine callp_tells (may_fn p) rfl trivial ?_
  conv => whnf
  apply And.intro <;> intro h1 <;> conv => whnf
  · refine callp_tells (may_fn q) rfl trivial ?_
    conv => whnf
    apply And.intro <;> intro h2 <;> conv => whnf
    · apply And.intro <;> intro h3 <;> conv => whnf
      · simp only [decide_eq_true_eq] at h1 h2 h3
        have hq : 1 ≤ q.n ∧ q.n ≤ 4 := ⟨h2.1, h2.2.1⟩
        refine callp_tells (cut_fn p q.n hq) rfl (allSt_iff rfl) ?_
        conv => whnf
        unfold withinB
        refine Bool.eq_iff_iff.2 ?_
        simp only [Bool.and_eq_true, beq_iff_eq, Pth.eq_iff, decide_eq_true_eq]
        exact ⟨fun h => ⟨h1, h2, h3, h⟩, fun h => h.2.2.2⟩
      · simp_all [withinB]
        intro h4; omega
    · simp_all [withinB]
  · simp_all [withinB]
def wrB (e : Ev) : Bool := e.kind == 7 || e.kind == 10
def accB (e : Ev) : Bool := wrB e || e.kind == 6 || e.kind == 8
theorem writes_fn (e : Ev) : Eng.Fn Try.prog 107 [.a (encEv e)] (Tells (.c (.b (wrB e)))) := by
  refine Eng.Fn.of tab_ok Try.func107 (by kernel_rfl) (by kernel_rfl) (fun w0 => ?_)
  conv => whnf
  repeat' (apply And.intro <;> intro h <;> conv => whnf)
  all_goals simp_all [wrB]
theorem hwrites_fn (e : Ev) : Eng.Fn Try.prog 126 [.a (encEv e)] (Tells (.c (.b (wrB e)))) := by
  refine Eng.Fn.of tab_ok Try.func126 (by kernel_rfl) (by kernel_rfl) (fun w0 => ?_)
  conv => whnf
  repeat' (apply And.intro <;> intro h <;> conv => whnf)
  all_goals simp_all [wrB]
theorem access_fn (e : Ev) : Eng.Fn Try.prog 125 [.a (encEv e)] (Tells (.c (.b (accB e)))) := by
  refine Eng.Fn.of tab_ok Try.func125 (by kernel_rfl) (by kernel_rfl) (fun w0 => ?_)
  conv => whnf
  refine callx_tells (hwrites_fn e) rfl trivial ?_
  conv => whnf
  repeat' (apply And.intro <;> intro h <;> conv => whnf)
  all_goals simp_all [accB]
def clashB (a b : Ev) : Bool := !(a.tx == b.tx || !accB a || !accB b || (!wrB a && !wrB b)) && (withinB a.p b.p || withinB b.p a.p)
theorem clash_fn (a b : Ev) : Eng.Fn Try.prog 106 [.a (encEv a), .a (encEv b)] (Tells (.c (.b (clashB a b)))) := by
  refine Eng.Fn.of tab_ok Try.func106 (by kernel_rfl) (by kernel_rfl) (fun w0 => ?_)
  conv => whnf
  repeat' (first
    | (refine callx_tells (access_fn a) rfl trivial ?_; conv => whnf)
    | (refine callx_tells (access_fn b) rfl trivial ?_; conv => whnf)
    | (refine callx_tells (hwrites_fn a) rfl trivial ?_; conv => whnf)
    | (refine callx_tells (hwrites_fn b) rfl trivial ?_; conv => whnf)
    | (refine callx_tells (within_fn a.p b.p) rfl trivial ?_; conv => whnf)
    | (refine callx_tells (within_fn b.p a.p) rfl trivial ?_; conv => whnf)
    | (apply And.intro <;> intro h <;> conv => whnf))
  all_goals simp_all [clashB]
def kindI (a b : Ev) : Int := if clashB a b = false then 0 else if wrB a = true ∧ wrB b = true then 2 else if wrB a = true then 1 else 3
theorem kind_fn (a b : Ev) : Eng.Fn Try.prog 65 [.a (encEv a), .a (encEv b)] (Tells (.c (.i .i64 (kindI a b)))) := by
  refine Eng.Fn.of tab_ok Try.func65 (by kernel_rfl) (by kernel_rfl) (fun w0 => ?_)
  conv => whnf
  repeat' (first
    | (refine callx_tells (clash_fn a b) rfl trivial ?_; conv => whnf)
    | (refine callx_tells (writes_fn a) rfl trivial ?_; conv => whnf)
    | (refine callx_tells (writes_fn b) rfl trivial ?_; conv => whnf)
    | (apply And.intro <;> intro h <;> conv => whnf))
  all_goals simp_all [kindI]
def placeP (a b : Ev) : Pth := if wrB b = true then b.p else a.p
theorem place_fn (a b : Ev) : Eng.Fn Try.prog 103 [.a (encEv a), .a (encEv b)] (Tells (.a (encP (placeP a b)))) := by
  refine Eng.Fn.of tab_ok Try.func103 (by kernel_rfl) (by kernel_rfl) (fun w0 => ?_)
  conv => whnf
  refine callx_tells (writes_fn b) rfl trivial ?_
  conv => whnf
  apply And.intro <;> intro h <;> conv => whnf
  · rw [placeP, if_pos h]; exact ⟨entC_refl _, entL_refl _⟩
  · rw [placeP, if_neg (by rw [h]; decide)]; exact ⟨entC_refl _, entL_refl _⟩
end Go.Proofs.Ytbhmplbckkipjaa
