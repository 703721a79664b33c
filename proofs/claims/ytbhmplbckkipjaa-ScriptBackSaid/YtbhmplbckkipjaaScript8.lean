/- The bytes of an operation, as a row of its own. -/
import Derived.Test.YtbhmplbckkipjaaOpPut2
import Derived.Test.YtbhmplbckkipjaaEngGn
namespace Go.Proofs.Ytbhmplbckkipjaa
open Go Go.Eng Go.RowKit
set_option maxRecDepth 100000
set_option maxHeartbeats 4000000
set_option linter.unusedVariables false
set_option linter.unusedSimpArgs false
theorem putR_fn (o : Opr) : Eng.Fn Try.prog 90 [.a (encO o)] (RowR 5 1 ((putB o).map fun n => [.i .u8 n])) := by
  by_cases ho : OkP o
  · obtain ⟨hn, hk, ha, hb, hc, hd, hv⟩ := ho.nums
    obtain ⟨k, ⟨a, b, c, d, n⟩, v⟩ := o
    dsimp only at hn hk ha hb hc hd hv
    have hok : okI ⟨k, ⟨a, b, c, d, n⟩, v⟩ = 0 := if_pos ho
    rcases hn with rfl | rfl | rfl | rfl | rfl
    all_goals
      unfold encO
      dsimp only
      refine Eng.Fn.of tab_ok Try.func90 (by kernel_rfl) (by kernel_rfl) (fun w0 => ?_)
      conv => whnf
      refine callx_tells (check_fn ⟨k, ⟨a, b, c, d, _⟩, v⟩) rfl trivial ?_
      conv => whnf
      refine And.intro (fun h => absurd h (by rw [hok]; decide)) (fun _ => ?_)
      conv => whnf
      refine And.intro (by decide) ?_
      conv => whnf
      repeat' (first
        | (refine loopx_rounds tab_ok 6 ?_; conv => whnf)
        | (refine And.intro (fun h => absurd h (by decide)) (fun _ => ?_); conv => whnf)
        | (refine And.intro (fun _ => ?_) (fun h => absurd h (by decide)); conv => whnf)
        | (refine And.intro (by simp only [List.length_cons, List.length_nil, List.length_append]; omega) ?_; conv => whnf)
        | (refine And.intro (by decide) ?_; conv => whnf)
        | (refine And.intro rfl ?_; conv => whnf)
        | (refine callx_inline tab_ok Try.func119 (by kernel_rfl) (by kernel_rfl) (fun vs => ?_); conv => whnf)
        | (apply And.intro <;> intro h4 <;> conv => whnf))
    all_goals
      refine .inr ⟨_, _, rfl, rfl, entLL_of_eq ?_⟩
      rw [putB, if_pos ho]
      simp only [beq_iff_eq, beq_eq_false_iff_ne, ne_eq] at h4
      simp only [h4, if_true, if_false]
      show _ = List.map _ (_ :: _)
      repeat' (first | exact (rfl : ([] : List (List XC)) = []) | refine cons_byte ?_ ?_)
      all_goals first
        | exact hd8 (by omega) (by decide)
        | exact pwr (r := 1) (by decide) (by decide) (by omega) (by omega)
        | exact pwr (r := 256) (by decide) (by decide) (by omega) (by omega)
        | exact pwr (r := 65536) (by decide) (by decide) (by omega) (by omega)
        | exact pwr (r := 16777216) (by decide) (by decide) (by omega) (by omega)
  · refine Eng.Fn.of tab_ok Try.func90 (by kernel_rfl) (by kernel_rfl) (fun w0 => ?_)
    have hok : okI o = 60 := if_neg ho
    conv => whnf
    refine callx_tells (check_fn o) rfl trivial ?_
    conv => whnf
    refine And.intro (fun _ => ?_) (fun h => absurd h (by rw [hok]; decide))
    conv => whnf
    rw [putB, if_neg ho]
    exact .inl ⟨rfl, rfl⟩
theorem refPutR_fn (o : Opr) : Eng.Fn Try.prog 91 [.a (encO o)] (RowR 5 1 ((putB o).map fun n => [.i .u8 n])) := by
  by_cases ho : OkP o
  · obtain ⟨hn, hk, ha, hb, hc, hd, hv⟩ := ho.nums
    obtain ⟨k, ⟨a, b, c, d, n⟩, v⟩ := o
    dsimp only at hn hk ha hb hc hd hv
    have hok : okI ⟨k, ⟨a, b, c, d, n⟩, v⟩ = 0 := if_pos ho
    rcases hn with rfl | rfl | rfl | rfl | rfl
    all_goals
      unfold encO
      dsimp only
      refine Eng.Fn.of tab_ok Try.func91 (by kernel_rfl) (by kernel_rfl) (fun w0 => ?_)
      conv => whnf
      refine callx_tells (refCheck_fn ⟨k, ⟨a, b, c, d, _⟩, v⟩) rfl trivial ?_
      conv => whnf
      refine And.intro (fun h => absurd h (by rw [hok]; decide)) (fun _ => ?_)
      conv => whnf
      repeat' (first
        | (refine loopx_rounds tab_ok 6 ?_; conv => whnf)
        | (refine And.intro (fun h => absurd h (by decide)) (fun _ => ?_); conv => whnf)
        | (refine And.intro (fun _ => ?_) (fun h => absurd h (by decide)); conv => whnf)
        | (refine And.intro (by simp only [List.length_cons, List.length_nil, List.length_append]; omega) ?_; conv => whnf)
        | (refine And.intro (by decide) ?_; conv => whnf)
        | (refine And.intro rfl ?_; conv => whnf)
        | (refine drawx_plan tab_ok [1] (.take 0 (.take 1 (.take 2 (.take 3 (.take 4 (.take 5 (.take 6 (.take 7 (.take 8 (.take 9 (.take 10 (.take 11 (.take 12 (.take 13 (.take 14 (.one 15 (.one 16 (.take 17 .done)))))))))))))))))) (by kernel_rfl) (by kernel_rfl) (by kernel_rfl) ?_; conv => whnf)
        | (apply And.intro <;> intro h4 <;> conv => whnf))
    all_goals
      refine .inr ⟨_, _, rfl, rfl, entLL_of_eq ?_⟩
      rw [putB, if_pos ho]
      simp only [beq_iff_eq, beq_eq_false_iff_ne, ne_eq] at h4
      simp only [h4, if_true, if_false]
      show _ = List.map _ (_ :: _)
      repeat' (first | exact (rfl : ([] : List (List XC)) = []) | refine cons_byte ?_ ?_)
      all_goals first
        | (with_reducible refine hd8' ?_ ?_; all_goals first | omega | decide)
        | (with_reducible refine tm ?_; omega)
        | (with_reducible refine tqm ?_ ?_ rfl ?_; all_goals first | omega | decide)
        | (with_reducible refine tq ?_ ?_ rfl ?_; all_goals first | omega | decide)
  · refine Eng.Fn.of tab_ok Try.func91 (by kernel_rfl) (by kernel_rfl) (fun w0 => ?_)
    have hok : okI o = 60 := if_neg ho
    conv => whnf
    refine callx_tells (refCheck_fn o) rfl trivial ?_
    conv => whnf
    refine And.intro (fun _ => ?_) (fun h => absurd h (by rw [hok]; decide))
    conv => whnf
    rw [putB, if_neg ho]
    exact .inl ⟨rfl, rfl⟩
end Go.Proofs.Ytbhmplbckkipjaa
