/- Which operations are legal, and where they begin. -/
import Derived.Test.YtcagncomnjeinaaLaw27
import Derived.Test.YtcagncomnjeinaaOpOk
import Derived.Test.YtcagncomnjeinaaEngQ
namespace Go.Proofs.Ytcagncomnjeinaa
open Go Go.Eng Go.RowKit
set_option maxRecDepth 100000
set_option maxHeartbeats 4000000
set_option linter.unusedVariables false
set_option linter.unusedSimpArgs false
theorem m01 : mayB 0 1 = true := by decide
theorem m09 : mayB 0 9 = true := by decide
theorem m08 : mayB 0 8 = true := by decide
theorem m00 : mayB 0 0 = true := by decide
theorem clientOps_fn (k a b c d n v : Int) (i : Bool) (y : Int) : Eng.Fn Try.prog 11 (opXs k a b c d n v ++ [.c (.b i), .c (.i .i64 y)]) (Tells (.c (.b true))) := by
  refine Eng.Fn.of tab_ok Try.func11 (by kernel_rfl) (by kernel_rfl) (fun w0 => ?_)
  conv => whnf
  refine callx_as (.c .bt) awake_fn rfl rfl trivial ?_
  conv => whnf
  repeat' (apply And.intro <;> intro h <;> conv => whnf)
  all_goals
    refine drawx_quiet tab_ok (by kernel_rfl) (by kernel_rfl) ?_
    conv => whnf
    refine callq_tells (legal_fn _ _ _ _ _ _ _ _) rfl rfl ?_
    conv => whnf
    refine callq_tells (refLegal_fn _ _ _ _ _ _ _ _) rfl rfl ?_
    conv => whnf
    repeat' (first
      | (refine callq_tells (first_fn _ _ _ _ _ _ _) rfl rfl ?_; conv => whnf)
      | (refine callq_tells (why_fn _ _ _ _ _ _ _ _) rfl rfl ?_; conv => whnf)
      | (refine callq_tells (may_fn _ _) rfl rfl ?_; conv => whnf)
      | (refine callq_tells (locks_fn _ _ _ _ _ _ _) rfl rfl ?_; conv => whnf)
      | (apply And.intro <;> intro h <;> conv => whnf))
  all_goals
    first
      | (exfalso; rename _ = false => hf; simp only [beq_self_eq_true] at hf; cases hf; done)
      | (exfalso; rw [m01] at *; simp only [Bool.true_eq_false] at *; done)
      | (exfalso; rw [m09] at *; simp only [Bool.true_eq_false] at *; done)
      | (exfalso; rw [m08] at *; simp only [Bool.true_eq_false] at *; done)
      | (exfalso; rw [m00] at *; simp only [Bool.true_eq_false] at *; done)
      | (simp only [firstI, whyI, locksB, beq_iff_eq, beq_eq_false_iff_ne, decide_eq_true_eq, decide_eq_false_iff_not, ne_eq, Bool.beq_eq_decide_eq] at *; (repeat' split at *) <;> first | omega | (simp_all; done) | (simp_all; omega))
end Go.Proofs.Ytcagncomnjeinaa
