/- How long answers took: the document's functions. -/
import Derived.Test.YtehbalkhboedeaaSorts
import Derived.Test.YtehbalkhboedeaaEngGg
import Derived.Test.YtehbalkhboedeaaEngGh
import Derived.Test.YtehbalkhboedeaaEngY
import Derived.Test.YtehbalkhboedeaaData
import Derived.Test.YtehbalkhboedeaaTab
namespace Go.Proofs.Ytehbalkhboedeaa
open Go Go.Eng Go.RowKit
set_option maxRecDepth 100000
set_option maxHeartbeats 4000000
set_option linter.unusedVariables false
set_option linter.unusedSimpArgs false
theorem sort3 : sortL [3, 1, 2] = [1, 2, 3] := by
  simp [sortL, List.mergeSort, List.MergeSort.Internal.splitInTwo, List.merge]
theorem ints_ent2 {l : List Int} {xs : List (List XC)} (h : entLL xs (l.map fun n => [.i .i64 n])) : entC (rsOf xs 1) (intsX l) := by
  have hl := entLL_len h
  refine ⟨by simpa using hl, rfl, fun i hi j hj => ?_⟩
  have h1 := nthC_ent (nthL_ent h i (by rw [hl]; simpa using hi)) j
  rw [nthL_map _ 0 l i hi] at h1
  obtain rfl : j = 0 := by omega
  exact h1
theorem ints_ent {l : List Int} {xs : List (List XC)} (h : xs = l.map fun n => [.i .i64 n]) : entC (rsOf xs 1) (intsX l) := by
  subst h
  refine ⟨List.length_map .., rfl, fun i hi j hj => ?_⟩
  obtain rfl : j = 0 := by omega
  have hi : i < l.length := hi
  show entC (nthC (nthL (l.map fun n => [XC.i .i64 n]) i) 0) (.i .i64 (l.getD i 0))
  rw [nthL_map _ 0 l i hi]
  exact entC_refl _
def mayQ (l : List Int) (num den : Int) : Prop := l.length ≠ 0 ∧ 1 ≤ den ∧ den ≤ 1000 ∧ 0 ≤ num ∧ num ≤ den
instance (l : List Int) (num den : Int) : Decidable (mayQ l num den) := by unfold mayQ; infer_instance
def quantL (l : List Int) (num den : Int) : Int × Bool := if mayQ l num den then ((sortL l).getD (num * ((l.length : Int) - 1) / den).toNat 0, true) else (0, false)
theorem quant_no {l : List Int} {num den : Int} (h : ¬ mayQ l num den) : quantL l num den = (0, false) := if_neg h
theorem sortL_len (l : List Int) : (sortL l).length = l.length := List.length_mergeSort ..
theorem quant_w {l : List Int} {num den : Int} (h : mayQ l num den) (hl : l.length ≤ 1000000) :
    IntKind.i64.wrap ((l.length : Int) - 1) = (l.length : Int) - 1 ∧ IntKind.i64.wrap (num * ((l.length : Int) - 1)) = num * ((l.length : Int) - 1) ∧ IntKind.i64.wrap ((num * ((l.length : Int) - 1)).tdiv den) = num * ((l.length : Int) - 1) / den ∧ (0 ≤ num * ((l.length : Int) - 1) / den ∧ num * ((l.length : Int) - 1) / den < l.length) := by
  obtain ⟨h0, h1, h2, h3, h4⟩ := h
  have hn : (0 : Int) ≤ (l.length : Int) - 1 := by omega
  have p0 : 0 ≤ num * ((l.length : Int) - 1) := Int.mul_nonneg h3 hn
  have p1 : num * ((l.length : Int) - 1) ≤ den * ((l.length : Int) - 1) := Int.mul_le_mul_of_nonneg_right h4 hn
  have p2 : den * ((l.length : Int) - 1) ≤ 1000 * ((l.length : Int) - 1) := Int.mul_le_mul_of_nonneg_right h2 hn
  have q0 : 0 ≤ num * ((l.length : Int) - 1) / den := Int.ediv_nonneg p0 (by omega)
  have q1 : num * ((l.length : Int) - 1) / den ≤ (l.length : Int) - 1 := Int.ediv_le_of_le_mul (by omega) (by rw [Int.mul_comm ((l.length : Int) - 1)]; exact p1)
  refine ⟨wrap_ok (by omega) (by omega), wrap_ok (by omega) (by omega), ?_, q0, by omega⟩
  rw [Int.tdiv_eq_ediv_of_nonneg p0]
  exact wrap_ok (by omega) (by omega)
end Go.Proofs.Ytehbalkhboedeaa
