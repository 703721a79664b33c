/- The document's bytes of an operation. -/
import Derived.Test.YtbhmplbckkipjaaOpPut
namespace Go.Proofs.Ytbhmplbckkipjaa
open Go Go.Eng Go.RowKit
set_option maxRecDepth 100000
set_option maxHeartbeats 4000000
set_option linter.unusedVariables false
set_option linter.unusedSimpArgs false
theorem hd8' {k n : Int} (hk : 1 ≤ k ∧ k ≤ 7) (hn : 0 ≤ n ∧ n ≤ 4) : IntKind.u8.wrap (IntKind.i64.wrap (IntKind.i64.wrap (k * 8) + n)) = k * 8 + n := by
  simp only [IntKind.wrap_i64, IntKind.wrap_u8]; omega
theorem tq {x r y : Int} (hx : 0 ≤ x ∧ x ≤ 1073741824) (hr : 0 < r) (hy : x / r = y) (h : y ≤ 255) : IntKind.u8.wrap (IntKind.i64.wrap (x.tdiv r)) = y := by
  rw [Int.tdiv_eq_ediv_of_nonneg hx.1, hy]
  have : 0 ≤ y := by rw [← hy]; exact Int.ediv_nonneg hx.1 (by omega)
  simp only [IntKind.wrap_i64, IntKind.wrap_u8]; omega
theorem tm {x : Int} (hx : 0 ≤ x) : IntKind.u8.wrap (x.tmod 256) = x % 256 := by
  rw [Int.tmod_eq_emod_of_nonneg hx]
  simp only [IntKind.wrap_u8]; omega
theorem tqm {x r y : Int} (hx : 0 ≤ x ∧ x ≤ 1073741824) (hr : 0 < r) (hy : x / r = y) (h : y ≤ 1073741824) : IntKind.u8.wrap ((IntKind.i64.wrap (x.tdiv r)).tmod 256) = y % 256 := by
  rw [Int.tdiv_eq_ediv_of_nonneg hx.1, hy]
  have h0 : 0 ≤ y := by rw [← hy]; exact Int.ediv_nonneg hx.1 (by omega)
  have : IntKind.i64.wrap y = y := by rw [IntKind.wrap_i64]; omega
  rw [this]; exact tm h0
theorem refPut_fn (o : Opr) : Eng.Fn Try.prog 91 [.a (encO o)] (Tells (.c (bytesX (putB o)))) := by
  by_cases ho : OkP o
  · obtain ⟨hn, hk, ha, hb, hc, hd, hv⟩ := ho.nums
    obtain ⟨k, ⟨a, b, c, d, n⟩, v⟩ := o
    dsimp only at hn hk ha hb hc hd hv
    have hok : okI ⟨k, ⟨a, b, c, d, n⟩, v⟩ = 0 := if_pos ho
    rcases hn with rfl | rfl | rfl | rfl | rfl
    all_goals
      unfold encO
      dsimp only
      refine Eng.Fn.ofZ tab_ok Try.func91 (by kernel_rfl) (by kernel_rfl) trivial (fun w0 => ?_)
      conv => whnf
      refine callx_tells (refCheck_fn ⟨k, ⟨a, b, c, d, _⟩, v⟩) rfl trivial ?_
      conv => whnf
      refine And.intro (fun h => absurd h (by rw [hok]; decide)) (fun _ => ?_)
      conv => whnf
      repeat' (first
        | (refine loopx_rounds tab_ok 6 ?_; conv => whnf)
        | (refine And.intro (fun h => absurd h (by decide)) (fun _ => ?_); conv => whnf)
        | (refine And.intro (fun _ => ?_) (fun h => absurd h (by decide)); conv => whnf)
        | (refine And.intro (by simp only [List.length_cons, List.length_nil, List.length_append]; omega) ?_; conv => whnf)
        | (refine And.intro (by decide) ?_; conv => whnf)
        | (refine And.intro rfl ?_; conv => whnf)
        | (refine drawx_plan tab_ok [1] (.take 0 (.take 1 (.take 2 (.take 3 (.take 4 (.take 5 (.take 6 (.take 7 (.take 8 (.take 9 (.take 10 (.take 11 (.take 12 (.take 13 (.take 14 (.one 15 (.one 16 (.take 17 .done)))))))))))))))))) (by kernel_rfl) (by kernel_rfl) (by kernel_rfl) ?_; conv => whnf)
        | (apply And.intro <;> intro h4 <;> conv => whnf))
    all_goals
      refine bytes_ent3 ?_
      rw [putB, if_pos ho]
      simp only [beq_iff_eq, beq_eq_false_iff_ne, ne_eq] at h4
      simp only [h4, if_true, if_false]
      show _ = List.map _ (_ :: _)
      repeat' (first | exact (rfl : ([] : List (List XC)) = []) | refine cons_byte ?_ ?_)
      all_goals first
        | (with_reducible refine hd8' ?_ ?_; all_goals first | omega | decide)
        | (with_reducible refine tm ?_; omega)
        | (with_reducible refine tqm ?_ ?_ rfl ?_; all_goals first | omega | decide)
        | (with_reducible refine tq ?_ ?_ rfl ?_; all_goals first | omega | decide)
  · refine Eng.Fn.ofZ tab_ok Try.func91 (by kernel_rfl) (by kernel_rfl) trivial (fun w0 => ?_)
    have hok : okI o = 60 := if_neg ho
    conv => whnf
    refine callx_tells (refCheck_fn o) rfl trivial ?_
    conv => whnf
    refine And.intro (fun _ => ?_) (fun h => absurd h (by rw [hok]; decide))
    conv => whnf
    rw [putB, if_neg ho]
    exact nil_bytes
end Go.Proofs.Ytbhmplbckkipjaa
