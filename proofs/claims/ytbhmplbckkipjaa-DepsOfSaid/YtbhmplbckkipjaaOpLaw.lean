/- OpDoes, OpOnce: the laws. -/
import Derived.Test.YtbhmplbckkipjaaOpOf2
import Derived.Test.YtbhmplbckkipjaaOpPut2
import Derived.Test.YtbhmplbckkipjaaOpWord
import Derived.Test.YtbhmplbckkipjaaEngBs
namespace Go.Proofs.Ytbhmplbckkipjaa
open Go Go.Eng Go.RowKit
set_option maxRecDepth 100000
set_option maxHeartbeats 4000000
set_option linter.unusedVariables false
set_option linter.unusedSimpArgs false
theorem wordO_mode (k : Int) (h : (wordO k != ⟨#[]⟩) = false) : modeI k = 0 := by
  have hm : modeI k = modeI (kindO k) := by unfold kindO modeI; repeat' split <;> omega
  have hk := kindO_in k
  rw [hm]
  unfold wordO at h
  generalize kindO k = k at hk h
  rcases hk with rfl | rfl | rfl | rfl | rfl | rfl | rfl | rfl <;> first | rfl | exact absurd h (by decide)
theorem bao_eq {x y : ByteArray} : (x == y) = true ↔ x = y := by
  cases x; cases y
  rename_i x y
  show (x == y) = true ↔ _
  rw [beq_iff_eq, ByteArray.mk.injEq]
theorem ba_refl (x : ByteArray) : (x == x) = true := bao_eq.2 rfl
theorem locks_mode (k : Int) : (locksB k == (modeI k != 0)) = true := by
  rw [beq_iff_eq, Bool.eq_iff_iff]
  simp only [locksB, bne_iff_ne, ne_eq, decide_eq_true_eq]
  unfold modeI
  repeat' split
  all_goals omega
theorem bytes_listI {n : Nat} {g : Nat → Int} (h : ∀ i, i < n → (Lit.int .u8 (g i)).wf = true) : Bytes (listI n g) := fun i => by
  show 0 ≤ (listI n g).getD i 0 ∧ (listI n g).getD i 0 ≤ 255
  rw [List.getD_eq_getElem?_getD]
  by_cases hi : i < n
  · have h1 := h i hi
    simp [Lit.wf] at h1
    have : (listI n g)[i]? = some (g i) := by simp [listI, hi]
    rw [this]
    have e1 : IntKind.u8.min = 0 := by decide
    have e2 : IntKind.u8.max = 255 := by decide
    rw [e1, e2] at h1
    exact h1
  · have : (listI n g)[i]? = none := List.getElem?_eq_none (by simp [listI]; omega)
    rw [this]; decide
end Go.Proofs.Ytbhmplbckkipjaa
