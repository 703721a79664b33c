/- What an operation touches, and what clashes. -/
import Derived.Test.YtbhmplbckkipjaaOpWord
namespace Go.Proofs.Ytbhmplbckkipjaa
open Go Go.Eng Go.RowKit
set_option maxRecDepth 100000
set_option maxHeartbeats 4000000
set_option linter.unusedVariables false
set_option linter.unusedSimpArgs false
structure Ft where
  p : Pth
  lv : Int
instance : Inhabited Ft := ⟨⟨default, 0⟩⟩
def encF (f : Ft) : List XC := [.i .i64 f.p.a, .i .i64 f.p.b, .i .i64 f.p.c, .i .i64 f.p.d, .i .i64 f.p.n, .i .i64 f.lv]
theorem fmay_fn (n : Int) : Eng.Fn Try.prog 80 [.c (.i .i64 n)] (Tells (.c (.b (decide (1 ≤ n ∧ n ≤ 3))))) := by
  refine Eng.Fn.of tab_ok Try.func80 (by kernel_rfl) (by kernel_rfl) (fun w0 => ?_)
  conv => whnf
  repeat' (apply And.intro <;> intro h <;> conv => whnf)
  all_goals
    simp only [decide_eq_true_eq, decide_eq_false_iff_not] at *
    first
      | omega
      | (rw [Bool.eq_iff_iff]; simp only [decide_eq_true_eq]; omega)
def meetB (a b : Ft) : Bool := withinB a.p b.p || withinB b.p a.p
theorem meet_fn (a b : Ft) : Eng.Fn Try.prog 25 [.a (encF a), .a (encF b)] (Tells (.c (.b (meetB a b)))) := by
  refine Eng.Fn.of tab_ok Try.func25 (by kernel_rfl) (by kernel_rfl) (fun w0 => ?_)
  conv => whnf
  repeat' (first
    | (refine callx_tells (within_fn a.p b.p) rfl trivial ?_; conv => whnf)
    | (refine callx_tells (within_fn b.p a.p) rfl trivial ?_; conv => whnf)
    | (apply And.intro <;> intro h <;> conv => whnf))
  all_goals simp_all [meetB]
def FcP (a b : Ft) : Prop := 1 ≤ a.lv ∧ a.lv ≤ 3 ∧ 1 ≤ b.lv ∧ b.lv ≤ 3 ∧ (a.lv > 1 ∨ b.lv > 1)
instance (a b : Ft) : Decidable (FcP a b) := by unfold FcP; infer_instance
def fclashB (a b : Ft) : Bool := decide (FcP a b) && meetB a b
theorem fclash_no {a b : Ft} (h : ¬ FcP a b) : fclashB a b = false := by simp [fclashB, h]
theorem fclash_yes {a b : Ft} (h : FcP a b) : fclashB a b = meetB a b := by simp [fclashB, h]
theorem fclash_fn (a b : Ft) : Eng.Fn Try.prog 24 [.a (encF a), .a (encF b)] (Tells (.c (.b (fclashB a b)))) := by
  refine Eng.Fn.of tab_ok Try.func24 (by kernel_rfl) (by kernel_rfl) (fun w0 => ?_)
  conv => whnf
  have hmx : ∀ x y : Int, decide ((if y > x then y else x) > 1) = decide (x > 1 ∨ y > 1) := fun x y => by
    rw [Bool.eq_iff_iff]; simp only [decide_eq_true_eq]; split <;> omega
  repeat' (first
    | (refine callx_tells (fmay_fn a.lv) rfl trivial ?_; conv => whnf)
    | (refine callx_tells (fmay_fn b.lv) rfl trivial ?_; conv => whnf)
    | (refine callx_tells (meet_fn a b) rfl trivial ?_; conv => whnf)
    | (apply And.intro <;> intro h <;> conv => whnf))
  all_goals
    simp only [hmx, decide_eq_true_eq, decide_eq_false_iff_not] at *
    first
      | (rw [fclash_no (by unfold FcP; omega)]; done)
      | (rw [fclash_yes (by unfold FcP; omega)]; done)
theorem refClash_fn (a b : Ft) (hw : ∀ p q : Pth, Eng.Fn Try.prog 79 [.a (encP p), .a (encP q)] (Tells (.c (.b (withinB p q))))) : Eng.Fn Try.prog 23 [.a (encF a), .a (encF b)] (Tells (.c (.b (fclashB a b)))) := by
  refine Eng.Fn.of tab_ok Try.func23 (by kernel_rfl) (by kernel_rfl) (fun w0 => ?_)
  conv => whnf
  repeat' (first
    | (refine callx_tells (hw a.p b.p) rfl trivial ?_; conv => whnf)
    | (refine callx_tells (hw b.p a.p) rfl trivial ?_; conv => whnf)
    | (apply And.intro <;> intro h <;> conv => whnf))
  all_goals
    simp only [decide_eq_true_eq, decide_eq_false_iff_not, beq_iff_eq, beq_eq_false_iff_ne] at *
    first
      | (rw [fclash_no (by unfold FcP; omega)]; done)
      | (rw [fclash_yes (by unfold FcP; omega)]; simp_all [meetB]; done)
end Go.Proofs.Ytbhmplbckkipjaa
