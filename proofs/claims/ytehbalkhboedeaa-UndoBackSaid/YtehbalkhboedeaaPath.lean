/- Paths: which may be. -/
import Derived.Test.YtehbalkhboedeaaTab
import Derived.Test.YtehbalkhboedeaaEngP3
namespace Go.Proofs.Ytehbalkhboedeaa
open Go Go.Eng Go.RowKit
set_option maxRecDepth 100000
set_option maxHeartbeats 4000000
set_option linter.unusedVariables false
def MayP (a b c d n : Int) : Prop := 1 ≤ n ∧ n ≤ 4 ∧ 0 ≤ a ∧ a ≤ 999 ∧ 0 ≤ b ∧ b ≤ 999 ∧ (2 ≤ n ∨ b = 0) ∧ 0 ≤ c ∧ c ≤ 999 ∧ (3 ≤ n ∨ c = 0) ∧ 0 ≤ d ∧ d ≤ 999 ∧ (4 ≤ n ∨ d = 0)
instance (a b c d n : Int) : Decidable (MayP a b c d n) := by unfold MayP; infer_instance
theorem pathMay_fn (a b c d n : Int) : Eng.Fn Try.prog 46 [.a [.i .i64 a, .i .i64 b, .i .i64 c, .i .i64 d, .i .i64 n]] (Tells (.c (.b (decide (MayP a b c d n))))) := by
  refine Eng.Fn.of tab_ok Try.func46 (by kernel_rfl) (by kernel_rfl) (fun w0 => ?_)
  conv => whnf
  repeat' (first | (refine loopx_rounds tab_ok 5 ?_; conv => whnf) | (apply And.intro <;> intro h <;> conv => whnf))
  all_goals simp only [decide_eq_true_eq, decide_eq_false_iff_not, bne_iff_ne, ne_eq, bne_eq_false_iff_eq, IntKind.wrap_i64] at *
  all_goals (unfold MayP; omega)
end Go.Proofs.Ytehbalkhboedeaa
