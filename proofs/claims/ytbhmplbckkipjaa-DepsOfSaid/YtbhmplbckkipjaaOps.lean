/- Operations: whether one may be, its mode. -/
import Derived.Test.YtbhmplbckkipjaaDeps
namespace Go.Proofs.Ytbhmplbckkipjaa
open Go Go.Eng Go.RowKit
set_option maxRecDepth 100000
set_option maxHeartbeats 4000000
set_option linter.unusedVariables false
set_option linter.unusedSimpArgs false
structure Opr where
  k : Int
  p : Pth
  v : Int
theorem Opr.eq_iff {p q : Opr} : p = q ↔ p.k = q.k ∧ p.p = q.p ∧ p.v = q.v := by cases p; cases q; simp
instance : DecidableEq Opr := fun p q => decidable_of_iff _ Opr.eq_iff.symm
instance : Inhabited Opr := ⟨⟨0, default, 0⟩⟩
def encO (o : Opr) : List XC := [.i .i64 o.k, .i .i64 o.p.a, .i .i64 o.p.b, .i .i64 o.p.c, .i .i64 o.p.d, .i .i64 o.p.n, .i .i64 o.v]
theorem right_fn (p : Pth) : Eng.Fn Try.prog 114 [.a (encP p)] (Tells (.c (.b (decide (MayP p))))) := by
  refine Eng.Fn.of tab_ok Try.func114 (by kernel_rfl) (by kernel_rfl) (fun w0 => ?_)
  conv => whnf
  repeat' (first | (refine loopx_rounds tab_ok 5 ?_; conv => whnf) | (apply And.intro <;> intro h <;> conv => whnf))
  all_goals simp only [decide_eq_true_eq, decide_eq_false_iff_not, bne_iff_ne, ne_eq, bne_eq_false_iff_eq, IntKind.wrap_i64] at *
  all_goals (unfold MayP; omega)
def OkP (o : Opr) : Prop := ((o.k = 1 ∨ o.k = 6 ∨ o.k = 7) ∧ (o.p.a = 0 ∧ o.p.b = 0 ∧ o.p.c = 0 ∧ o.p.d = 0 ∧ o.p.n = 0) ∧ o.v = 0) ∨ (o.k = 5 ∧ MayP o.p ∧ o.v = 0) ∨ ((o.k = 2 ∨ o.k = 3) ∧ MayP o.p ∧ o.p.n = 4 ∧ o.v = 0) ∨ (o.k = 4 ∧ MayP o.p ∧ o.p.n = 4 ∧ 0 ≤ o.v ∧ o.v ≤ 1073741824)
instance (o : Opr) : Decidable (OkP o) := by unfold OkP; infer_instance
def okI (o : Opr) : Int := if OkP o then 0 else 60
/-- The same, what is said of a path behind a number. -/
def OkM (m : Int) (o : Opr) : Prop := ((o.k = 1 ∨ o.k = 6 ∨ o.k = 7) ∧ (o.p.a = 0 ∧ o.p.b = 0 ∧ o.p.c = 0 ∧ o.p.d = 0 ∧ o.p.n = 0) ∧ o.v = 0) ∨ (o.k = 5 ∧ m = 1 ∧ o.v = 0) ∨ ((o.k = 2 ∨ o.k = 3) ∧ m = 1 ∧ o.p.n = 4 ∧ o.v = 0) ∨ (o.k = 4 ∧ m = 1 ∧ o.p.n = 4 ∧ 0 ≤ o.v ∧ o.v ≤ 1073741824)
theorem may_int (o : Opr) : ∃ m : Int, (MayP o.p ↔ m = 1) ∧ (OkM m o → 0 = okI o) ∧ (¬ OkM m o → 60 = okI o) := by
  have key : ∀ m : Int, (MayP o.p ↔ m = 1) → (MayP o.p ↔ m = 1) ∧ (OkM m o → 0 = okI o) ∧ (¬ OkM m o → 60 = okI o) := by
    intro m hm
    have e : OkP o ↔ OkM m o := by unfold OkP OkM; rw [hm]
    exact ⟨hm, fun h => (if_pos (e.2 h)).symm, fun h => (if_neg (fun h' => h (e.1 h'))).symm⟩
  by_cases h : MayP o.p
  · exact ⟨1, key 1 (by simp [h])⟩
  · exact ⟨0, key 0 (by simp [h])⟩
theorem check_fn (o : Opr) : Eng.Fn Try.prog 32 [.a (encO o)] (Tells (.c (.i .i64 (okI o)))) := by
  refine Eng.Fn.of tab_ok Try.func32 (by kernel_rfl) (by kernel_rfl) (fun w0 => ?_)
  obtain ⟨m, hm, e0, e1⟩ := may_int o
  conv => whnf
  repeat' (first | (refine callx_tells (may_fn o.p) rfl trivial ?_; conv => whnf) | (apply And.intro <;> intro h <;> conv => whnf))
  all_goals
    simp only [decide_eq_true_eq, decide_eq_false_iff_not, beq_iff_eq, beq_eq_false_iff_ne, Bool.and_eq_true, Bool.and_eq_false_iff, Bool.not_eq_true', Bool.not_eq_false', ne_eq, hm] at *
    refine ⟨trivial, ?_⟩
    first
      | exact e1 (by unfold OkM; omega)
      | exact e0 (by unfold OkM; omega)
theorem refCheck_fn (o : Opr) : Eng.Fn Try.prog 75 [.a (encO o)] (Tells (.c (.i .i64 (okI o)))) := by
  refine Eng.Fn.of tab_ok Try.func75 (by kernel_rfl) (by kernel_rfl) (fun w0 => ?_)
  obtain ⟨m, hm, e0, e1⟩ := may_int o
  conv => whnf
  repeat' (first | (refine callx_tells (right_fn o.p) rfl trivial ?_; conv => whnf) | (apply And.intro <;> intro h <;> conv => whnf))
  all_goals
    simp only [decide_eq_true_eq, decide_eq_false_iff_not, beq_iff_eq, beq_eq_false_iff_ne, Bool.and_eq_true, Bool.and_eq_false_iff, Bool.not_eq_true', Bool.not_eq_false', ne_eq, hm] at *
    refine ⟨trivial, ?_⟩
    first
      | exact e1 (by unfold OkM; omega)
      | exact e0 (by unfold OkM; omega)
def modeI (k : Int) : Int := if k = 2 ∨ k = 5 then 3 else if k = 3 then 5 else if k = 4 then 6 else 0
def locksB (k : Int) : Bool := decide (2 ≤ k ∧ k ≤ 5)
end Go.Proofs.Ytbhmplbckkipjaa
