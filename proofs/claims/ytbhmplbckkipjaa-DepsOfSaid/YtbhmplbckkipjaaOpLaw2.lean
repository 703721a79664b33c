/- OpOnce: the law. -/
import Derived.Test.YtbhmplbckkipjaaOpLaw
import Derived.Test.YtbhmplbckkipjaaOpPure
namespace Go.Proofs.Ytbhmplbckkipjaa
open Go Go.Eng Go.RowKit
set_option maxRecDepth 100000
set_option maxHeartbeats 4000000
set_option linter.unusedVariables false
set_option linter.unusedSimpArgs false
theorem rowsOf_bytes (l : List Int) : rowsOf l.length 1 (fun i _ => .i .u8 (l.getD i 0)) = l.map fun n => [.i .u8 n] := by
  unfold rowsOf
  apply List.ext_getElem?
  intro j
  simp only [List.getElem?_map]
  by_cases hj : j < l.length
  · rw [List.getElem?_range hj, List.getElem?_eq_getElem hj]
    simp [List.getD_eq_getElem?_getD, List.getElem?_eq_getElem hj, List.range_succ]
  · rw [List.getElem?_eq_none (by simpa using hj), List.getElem?_eq_none (by simpa using hj)]; rfl
theorem putB_mem {o : Opr} {x : Int} (h : x ∈ putB o) : 0 ≤ x ∧ x ≤ 255 := by
  by_cases ho : OkP o
  · obtain ⟨hn, hk, ha, hb, hc, hd, hv⟩ := ho.nums
    rw [putB, if_pos ho] at h
    obtain ⟨k, ⟨a, b, c, d, n⟩, v⟩ := o
    dsimp only at *
    clear ho
    by_cases h4 : k = 4
    · rcases hn with rfl | rfl | rfl | rfl | rfl <;> simp [h4] at h <;> omega
    · rcases hn with rfl | rfl | rfl | rfl | rfl <;> simp [h4] at h <;> omega
  · rw [putB, if_neg ho] at h; cases h
theorem bytes_app {a b : List Int} (ha : ∀ x ∈ a, 0 ≤ x ∧ x ≤ 255) (hb : Bytes b) : Bytes (a ++ b) := fun i => by
  show 0 ≤ (a ++ b).getD i 0 ∧ (a ++ b).getD i 0 ≤ 255
  rw [List.getD_eq_getElem?_getD]
  by_cases hi : i < a.length
  · rw [List.getElem?_append_left hi, List.getElem?_eq_getElem hi]
    exact ha _ (List.getElem_mem hi)
  · rw [List.getElem?_append_right (by omega), ← List.getD_eq_getElem?_getD]
    exact hb _
theorem putB_len (o : Opr) : (putB o).length ≤ 20 := by
  by_cases ho : OkP o
  · obtain ⟨hn, -⟩ := ho.nums
    rw [putB, if_pos ho]
    obtain ⟨k, ⟨a, b, c, d, n⟩, v⟩ := o
    dsimp only at *
    rcases hn with rfl | rfl | rfl | rfl | rfl <;> simp <;> split <;> simp
  · rw [putB, if_neg ho]; simp
end Go.Proofs.Ytbhmplbckkipjaa
