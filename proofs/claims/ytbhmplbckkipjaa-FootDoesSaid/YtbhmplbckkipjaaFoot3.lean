/- What an operation touches. -/
import Derived.Test.YtbhmplbckkipjaaFoot2
namespace Go.Proofs.Ytbhmplbckkipjaa
open Go Go.Eng Go.RowKit
set_option maxRecDepth 100000
set_option maxHeartbeats 4000000
set_option linter.unusedVariables false
set_option linter.unusedSimpArgs false
def lvI (k : Int) : Int := if k = 2 ∨ k = 5 then 1 else if k = 3 then 2 else if k = 4 then 3 else 0
def footO (o : Opr) : Ft × Bool := if OkP o ∧ lvI o.k ≠ 0 then (⟨o.p, lvI o.k⟩, true) else (default, false)
theorem footO_at {o : Opr} {v : Int} (h1 : OkP o) (hl : lvI o.k = v) (hv : v ≠ 0) : footO o = (⟨o.p, v⟩, true) := by
  rw [footO, hl, if_pos ⟨h1, hv⟩]
theorem footO_no {o : Opr} (hl : lvI o.k = 0) : footO o = (default, false) := by
  rw [footO, hl, if_neg (fun h => h.2 rfl)]
theorem lv1 {k : Int} (h : k = 2 ∨ k = 5) : lvI k = 1 := by unfold lvI; rw [if_pos h]
theorem lv2 {k : Int} (h : k = 3) : lvI k = 2 := by subst h; rfl
theorem lv3 {k : Int} (h : k = 4) : lvI k = 3 := by subst h; rfl
theorem lv0 {k : Int} (h : k < 2 ∨ 5 < k) : lvI k = 0 := by unfold lvI; rw [if_neg (by omega), if_neg (by omega), if_neg (by omega)]
theorem footOf_fn (o : Opr) : Eng.Fn Try.prog 18 [.a (encO o)] (Tells (.t [.a (encF (footO o).1), .c (.b (footO o).2)])) := by
  refine Eng.Fn.of tab_ok Try.func18 (by kernel_rfl) (by kernel_rfl) (fun w0 => ?_)
  conv => whnf
  refine callx_tells (check_fn o) rfl trivial ?_
  conv => whnf
  refine And.intro (fun h1 => ?_) (fun h1 => ?_)
  · have h1 : ¬ OkP o := fun h => by simp [okI, h] at h1
    conv => whnf
    rw [footO, if_neg (fun h => h1 h.1)]
    repeat' (first | exact trivial | exact ⟨rfl, rfl⟩ | exact rfl | apply And.intro)
  · have h1 : OkP o := by
      by_cases h : OkP o
      · exact h
      · simp [okI, h] at h1
    conv => whnf
    repeat' (apply And.intro <;> intro h <;> conv => whnf)
    all_goals
      simp only [beq_iff_eq, beq_eq_false_iff_ne, ne_eq] at *
      first
        | (exfalso; omega)
        | rw [footO_at h1 (lv1 (by omega)) (by decide)]
        | rw [footO_at h1 (lv2 (by omega)) (by decide)]
        | rw [footO_at h1 (lv3 (by omega)) (by decide)]
        | rw [footO_no (lv0 (by have := h1.nums.2.1; omega))]
      repeat' (first | exact trivial | exact ⟨rfl, rfl⟩ | exact rfl | apply And.intro)
theorem rmay_fn (m : Int) : Eng.Fn Try.prog 116 [.c (.i .i64 m)] (Tells (.c (.b (decide (0 ≤ m ∧ m ≤ 6))))) := by
  refine Eng.Fn.of tab_ok Try.func116 (by kernel_rfl) (by kernel_rfl) (fun w0 => ?_)
  conv => whnf
  repeat' (apply And.intro <;> intro h <;> conv => whnf)
  all_goals
    simp only [decide_eq_true_eq, decide_eq_false_iff_not] at *
    first
      | omega
      | (rw [Bool.eq_iff_iff]; simp only [decide_eq_true_eq]; omega)
def reI (m : Int) : Int := if m = 3 ∨ m = 4 then 1 else if m = 5 then 2 else if m = 6 then 3 else 0
theorem re_fn (m : Int) (hm : 0 ≤ m ∧ m ≤ 6) : Eng.Fn Try.prog 77 [.c (.i .i64 m)] (Tells (.c (.i .i64 (reI m)))) := by
  have : m = 0 ∨ m = 1 ∨ m = 2 ∨ m = 3 ∨ m = 4 ∨ m = 5 ∨ m = 6 := by omega
  rcases this with rfl | rfl | rfl | rfl | rfl | rfl | rfl
  all_goals
    refine Eng.Fn.of tab_ok Try.func77 (by kernel_rfl) (by kernel_rfl) (fun w0 => ?_)
    conv => whnf
    refine callx_tells (rmay_fn _) rfl trivial ?_
    conv => whnf
    refine And.intro (fun h => absurd h (by decide)) (fun h => ?_)
    conv => whnf
    refine ⟨by simp, ?_⟩
    conv => whnf
    refine ⟨_, rfl, ?_⟩
    exact ⟨rfl, rfl⟩
theorem lv_re {k : Int} : lvI k = reI (modeI k) := by
  unfold lvI reI modeI; repeat' split <;> omega
theorem mode0 {k : Int} : modeI k = 0 ↔ lvI k = 0 := by
  unfold lvI modeI; repeat' split <;> omega
theorem modeB (k : Int) : 0 ≤ modeI k ∧ modeI k ≤ 6 := by
  unfold modeI; repeat' split <;> omega
theorem refFoot_fn (o : Opr) : Eng.Fn Try.prog 19 [.a (encO o)] (Tells (.t [.a (encF (footO o).1), .c (.b (footO o).2)])) := by
  refine Eng.Fn.of tab_ok Try.func19 (by kernel_rfl) (by kernel_rfl) (fun w0 => ?_)
  conv => whnf
  refine callx_tells (refCheck_fn o) rfl trivial ?_
  conv => whnf
  have no : ¬ (OkP o ∧ lvI o.k ≠ 0) → footO o = (default, false) := fun h => by rw [footO, if_neg h]
  refine And.intro (fun h1 => ?_) (fun h1 => ?_)
  · have h1 : ¬ OkP o := fun h => by simp [okI, h] at h1
    conv => whnf
    rw [no (fun h => h1 h.1)]
    repeat' (first | exact trivial | exact ⟨rfl, rfl⟩ | exact rfl | apply And.intro)
  · have h1 : OkP o := by
      by_cases h : OkP o
      · exact h
      · simp [okI, h] at h1
    conv => whnf
    refine callx_tells (refMode_fn o) rfl trivial ?_
    conv => whnf
    refine And.intro (fun h2 => ?_) (fun h2 => ?_)
    · have h2 : modeI o.k = 0 := by simpa using h2
      conv => whnf
      rw [no (fun h => h.2 (mode0.1 h2))]
      repeat' (first | exact trivial | exact ⟨rfl, rfl⟩ | exact rfl | apply And.intro)
    · have h2 : modeI o.k ≠ 0 := by simpa using h2
      have h3 : lvI o.k ≠ 0 := fun h => h2 (mode0.2 h)
      conv => whnf
      refine drawx_plan tab_ok [1] (.take 0 (.take 1 (.take 2 (.one 3 (.one 4 (.take 5 (.one 6 (.take 7 (.done))))))))) (by kernel_rfl) (by kernel_rfl) (by kernel_rfl) ?_
      conv => whnf
      refine callf_lend (refMode_fn o) rfl rfl rfl ?_
      conv => whnf
      refine callf_lend (re_fn _ (modeB o.k)) rfl rfl rfl ?_
      conv => whnf
      rw [footO, if_pos ⟨h1, h3⟩, lv_re]
      repeat' (first | exact trivial | exact ⟨rfl, rfl⟩ | exact rfl | apply And.intro)
end Go.Proofs.Ytbhmplbckkipjaa
