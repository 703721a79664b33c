/- Lists of things as rows of cells; plain laws of lists. Nothing of any program is proved here. -/
import Derived.Test.YtehbalkhboedeaaEngW
namespace Go.Eng
open Go Go.RowKit
set_option linter.unusedVariables false

/-- A list, as a slice that doesn't turn. -/
def rowX {α : Type} (enc : α → List XC) (d : α) (z : Nat) (l : List α) : XC := .rs l.length z (fun i j => nthC (enc (l.getD i d)) j)
/-- A list of whole numbers. -/
def intsX (l : List Int) : XC := .rs l.length 1 (fun i _ => .i .i64 (l.getD i 0))
def bytesX (l : List Int) : XC := .rs l.length 1 (fun i _ => .i .u8 (l.getD i 0))

theorem nthL_map {α : Type} (enc : α → List XC) (d : α) : ∀ (l : List α) (i : Nat), i < l.length → nthL (l.map enc) i = enc (l.getD i d)
  | x :: l, 0, _ => rfl
  | x :: l, i + 1, h => by
    have := nthL_map enc d l i (by simpa using h)
    simpa [nthL] using this
theorem row_ent {α : Type} {enc : α → List XC} {d : α} {z : Nat} {l : List α} {xs : List (List XC)} (h : xs = l.map enc) : entC (rsOf xs z) (rowX enc d z l) := by
  subst h
  refine ⟨by simp, rfl, fun i hi j hj => ?_⟩
  refine entC_of_eq ?_
  show cell2 _ i j = _
  unfold cell2
  rw [nthL_map enc d l i hi]
theorem ints_ent {l : List Int} {xs : List (List XC)} (h : xs = l.map fun n => [.i .i64 n]) : entC (rsOf xs 1) (intsX l) := by
  subst h
  refine ⟨by simp, rfl, fun i hi j hj => ?_⟩
  refine entC_of_eq ?_
  show cell2 _ i j = _
  unfold cell2
  rw [nthL_map _ 0 l i hi]
  have : j = 0 := by omega
  subst this; rfl
/-- A nil slice is an empty list. -/
theorem nil_row {α : Type} {enc : α → List XC} {d : α} {z : Nat} : entC (.v (.slice none 0 0)) (rowX enc d z []) := ⟨rfl, rfl⟩
theorem nthC_ent : ∀ {l m : List XC}, entL l m → ∀ j, entC (nthC l j) (nthC m j)
  | [], [], _, _ => entC_refl _
  | _ :: _, _ :: _, h, 0 => h.1
  | _ :: _, _ :: _, h, j + 1 => nthC_ent h.2 j
  | [], _ :: _, h, _ => h.elim
  | _ :: _, [], h, _ => h.elim
theorem nthL_ent : ∀ {xs ys : List (List XC)}, entLL xs ys → ∀ i, i < xs.length → entL (nthL xs i) (nthL ys i)
  | _ :: _, _ :: _, h, 0, _ => h.1
  | _ :: _, _ :: _, h, i + 1, hi => nthL_ent h.2 i (by simpa using hi)
  | [], [], _, _, hi => by simp at hi
  | [], _ :: _, h, _, _ => h.elim
  | _ :: _, [], h, _, _ => h.elim
theorem row_ent2 {α : Type} {enc : α → List XC} {d : α} {z : Nat} {l : List α} {xs : List (List XC)} (h : entLL xs (l.map enc)) : entC (rsOf xs z) (rowX enc d z l) := by
  have hl := entLL_len h
  refine ⟨by simpa using hl, rfl, fun i hi j hj => ?_⟩
  have h1 := nthC_ent (nthL_ent h i (by rw [hl]; simpa using hi)) j
  rwa [nthL_map enc d l i hi] at h1
end Go.Eng
