/- Operations: whether one may be, its mode, whether it is legal, where it begins. -/
import Derived.Test.YtcagncomnjeinaaPath
namespace Go.Proofs.Ytcagncomnjeinaa
open Go Go.Eng Go.RowKit
set_option maxRecDepth 100000
set_option maxHeartbeats 4000000
set_option linter.unusedVariables false
set_option linter.unusedSimpArgs false
def OkP (k a b c d n v : Int) : Prop := ((k = 1 ∨ k = 6 ∨ k = 7) ∧ (a = 0 ∧ b = 0 ∧ c = 0 ∧ d = 0 ∧ n = 0) ∧ v = 0) ∨ (k = 5 ∧ MayP a b c d n ∧ v = 0) ∨ ((k = 2 ∨ k = 3) ∧ MayP a b c d n ∧ n = 4 ∧ v = 0) ∨ (k = 4 ∧ MayP a b c d n ∧ n = 4 ∧ 0 ≤ v ∧ v ≤ 1073741824)
instance (k a b c d n v : Int) : Decidable (OkP k a b c d n v) := by unfold OkP; infer_instance
def okI (k a b c d n v : Int) : Int := if OkP k a b c d n v then 0 else 60
abbrev opXs (k a b c d n v : Int) : List XV := [.a [.i .i64 k, .i .i64 a, .i .i64 b, .i .i64 c, .i .i64 d, .i .i64 n, .i .i64 v]]
/-- The same, what is said of a path behind a number. -/
def OkM (m k a b c d n v : Int) : Prop := ((k = 1 ∨ k = 6 ∨ k = 7) ∧ (a = 0 ∧ b = 0 ∧ c = 0 ∧ d = 0 ∧ n = 0) ∧ v = 0) ∨ (k = 5 ∧ m = 1 ∧ v = 0) ∨ ((k = 2 ∨ k = 3) ∧ m = 1 ∧ n = 4 ∧ v = 0) ∨ (k = 4 ∧ m = 1 ∧ n = 4 ∧ 0 ≤ v ∧ v ≤ 1073741824)
theorem may_int (k a b c d n v : Int) : ∃ m : Int, (MayP a b c d n ↔ m = 1) ∧ (OkM m k a b c d n v → 0 = okI k a b c d n v) ∧ (¬ OkM m k a b c d n v → 60 = okI k a b c d n v) := by
  have key : ∀ m : Int, (MayP a b c d n ↔ m = 1) → (MayP a b c d n ↔ m = 1) ∧ (OkM m k a b c d n v → 0 = okI k a b c d n v) ∧ (¬ OkM m k a b c d n v → 60 = okI k a b c d n v) := by
    intro m hm
    have e : OkP k a b c d n v ↔ OkM m k a b c d n v := by unfold OkP OkM; rw [hm]
    exact ⟨hm, fun h => (if_pos (e.2 h)).symm, fun h => (if_neg (fun h' => h (e.1 h'))).symm⟩
  by_cases h : MayP a b c d n
  · exact ⟨1, key 1 (by simp [h])⟩
  · exact ⟨0, key 0 (by simp [h])⟩
theorem check_fn (k a b c d n v : Int) : Eng.Fn Try.prog 36 (opXs k a b c d n v) (Tells (.c (.i .i64 (okI k a b c d n v)))) := by
  refine Eng.Fn.of tab_ok Try.func36 (by kernel_rfl) (by kernel_rfl) (fun w0 => ?_)
  obtain ⟨m, hm, e0, e1⟩ := may_int k a b c d n v
  conv => whnf
  repeat' (first | (refine callx_tells (pathMay_fn _ _ _ _ _) rfl trivial ?_; conv => whnf) | (apply And.intro <;> intro h <;> conv => whnf))
  all_goals
    simp only [decide_eq_true_eq, decide_eq_false_iff_not, beq_iff_eq, beq_eq_false_iff_ne, Bool.and_eq_true, Bool.and_eq_false_iff, Bool.not_eq_true', Bool.not_eq_false', ne_eq, hm] at *
    refine ⟨trivial, ?_⟩
    first
      | exact e1 (by unfold OkM; omega)
      | exact e0 (by unfold OkM; omega)
theorem refCheck_fn (k a b c d n v : Int) : Eng.Fn Try.prog 47 (opXs k a b c d n v) (Tells (.c (.i .i64 (okI k a b c d n v)))) := by
  refine Eng.Fn.of tab_ok Try.func47 (by kernel_rfl) (by kernel_rfl) (fun w0 => ?_)
  obtain ⟨m, hm, e0, e1⟩ := may_int k a b c d n v
  conv => whnf
  repeat' (first | (refine callx_tells (right_fn _ _ _ _ _) rfl trivial ?_; conv => whnf) | (apply And.intro <;> intro h <;> conv => whnf))
  all_goals
    simp only [decide_eq_true_eq, decide_eq_false_iff_not, beq_iff_eq, beq_eq_false_iff_ne, Bool.and_eq_true, Bool.and_eq_false_iff, Bool.not_eq_true', Bool.not_eq_false', ne_eq, hm] at *
    refine ⟨trivial, ?_⟩
    first
      | exact e1 (by unfold OkM; omega)
      | exact e0 (by unfold OkM; omega)
def modeI (k : Int) : Int := if k = 2 ∨ k = 5 then 3 else if k = 3 then 5 else if k = 4 then 6 else 0
theorem mode_fn (k a b c d n v : Int) : Eng.Fn Try.prog 50 (opXs k a b c d n v) (Tells (.c (.i .i64 (modeI k)))) := by
  refine Eng.Fn.of tab_ok Try.func50 (by kernel_rfl) (by kernel_rfl) (fun w0 => ?_)
  conv => whnf
  repeat' (apply And.intro <;> intro h <;> conv => whnf)
  all_goals
    simp only [beq_iff_eq, beq_eq_false_iff_ne, ne_eq] at *
    refine ⟨trivial, ?_⟩
    first | (simp [modeI, *]; done) | (simp_all; done) | (unfold modeI; repeat' split <;> omega)
def locksB (k : Int) : Bool := decide (2 ≤ k ∧ k ≤ 5)
theorem locks_fn (k a b c d n v : Int) : Eng.Fn Try.prog 43 (opXs k a b c d n v) (Tells (.c (.b (locksB k)))) := by
  refine Eng.Fn.of tab_ok Try.func43 (by kernel_rfl) (by kernel_rfl) (fun w0 => ?_)
  conv => whnf
  refine callx_tells (mode_fn _ _ _ _ _ _ _) rfl trivial ?_
  conv => whnf
  rw [Bool.eq_iff_iff]
  simp only [locksB, bne_iff_ne, ne_eq, decide_eq_true_eq]
  unfold modeI
  repeat' split
  all_goals omega
def firstI (k : Int) : Int := if locksB k then 1 else if k = 6 then 9 else if k = 7 then 8 else 0
theorem first_fn (k a b c d n v : Int) : Eng.Fn Try.prog 41 (opXs k a b c d n v) (Tells (.c (.i .i64 (firstI k)))) := by
  refine Eng.Fn.of tab_ok Try.func41 (by kernel_rfl) (by kernel_rfl) (fun w0 => ?_)
  conv => whnf
  refine callx_tells (locks_fn _ _ _ _ _ _ _) rfl trivial ?_
  conv => whnf
  repeat' (apply And.intro <;> intro h <;> conv => whnf)
  all_goals
    simp only [beq_iff_eq, beq_eq_false_iff_ne, ne_eq] at *
    refine ⟨trivial, ?_⟩
    first | (simp [firstI, *]; done) | (unfold firstI; rw [‹locksB k = false›]; simp [*])
def whyI (k y : Int) : Int := if k = 7 then 0 else y
theorem why_fn (k a b c d n v y : Int) : Eng.Fn Try.prog 42 (opXs k a b c d n v ++ [.c (.i .i64 y)]) (Tells (.c (.i .i64 (whyI k y)))) := by
  refine Eng.Fn.of tab_ok Try.func42 (by kernel_rfl) (by kernel_rfl) (fun w0 => ?_)
  conv => whnf
  repeat' (apply And.intro <;> intro h <;> conv => whnf)
  all_goals
    simp only [beq_iff_eq, beq_eq_false_iff_ne, ne_eq] at *
    refine ⟨trivial, ?_⟩
    simp [whyI, *]
def legalI (k a b c d n v : Int) (i : Bool) : Int := if okI k a b c d n v = 0 then (if (k == 1) == i then 50 else 0) else 60
theorem okI_cases (k a b c d n v : Int) : okI k a b c d n v = 0 ∨ okI k a b c d n v = 60 := by
  unfold okI; split <;> simp
theorem legal_fn (k a b c d n v : Int) (i : Bool) : Eng.Fn Try.prog 39 (opXs k a b c d n v ++ [.c (.b i)]) (Tells (.c (.i .i64 (legalI k a b c d n v i)))) := by
  refine Eng.Fn.of tab_ok Try.func39 (by kernel_rfl) (by kernel_rfl) (fun w0 => ?_)
  conv => whnf
  refine callx_tells (check_fn _ _ _ _ _ _ _) rfl trivial ?_
  conv => whnf
  have ho := okI_cases k a b c d n v
  repeat' (apply And.intro <;> intro h <;> conv => whnf)
  all_goals
    refine ⟨rfl, ?_⟩
    unfold legalI
    generalize okI k a b c d n v = o at *
    rcases ho with rfl | rfl <;> simp_all
theorem refLegal_fn (k a b c d n v : Int) (i : Bool) : Eng.Fn Try.prog 40 (opXs k a b c d n v ++ [.c (.b i)]) (Tells (.c (.i .i64 (legalI k a b c d n v i)))) := by
  refine Eng.Fn.of tab_ok Try.func40 (by kernel_rfl) (by kernel_rfl) (fun w0 => ?_)
  conv => whnf
  refine callx_tells (refCheck_fn _ _ _ _ _ _ _) rfl trivial ?_
  conv => whnf
  have ho := okI_cases k a b c d n v
  repeat' (apply And.intro <;> intro h <;> conv => whnf)
  all_goals
    refine ⟨rfl, ?_⟩
    unfold legalI
    generalize okI k a b c d n v = o at *
    rcases ho with rfl | rfl <;> cases i <;> simp_all
end Go.Proofs.Ytcagncomnjeinaa
