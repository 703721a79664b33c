/- How long answers took: numbers in boxes. -/
import Derived.Test.YtehbalkhboedeaaDelay3
namespace Go.Proofs.Ytehbalkhboedeaa
open Go Go.Eng Go.RowKit
set_option maxRecDepth 100000
set_option maxHeartbeats 4000000
set_option linter.unusedVariables false
set_option linter.unusedSimpArgs false
theorem wrap_all {n : Int} (h0 : -9223372036854775808 ≤ n) (h1 : n ≤ 9223372036854775807) : IntKind.i64.wrap n = n := by
  rw [IntKind.wrap_i64]; omega
theorem eq_of_getD {a b : List Int} (hl : a.length = b.length) (h : ∀ j, j < a.length → a.getD j 0 = b.getD j 0) : a = b := by
  apply List.ext_getElem hl
  intro i h1 h2
  have := h i h1
  rw [List.getD_eq_getElem?_getD, List.getD_eq_getElem?_getD, List.getElem?_eq_getElem h1, List.getElem?_eq_getElem h2] at this
  simpa using this
theorem sameI_fn (a b : List Int) (ha : a.length ≤ 1000000) : Eng.Fn Try.prog 34 [.c (intsX a), .c (intsX b)] (Tells (.c (.b (decide (a = b))))) := by
  refine Eng.Fn.of tab_ok Try.func34 (by kernel_rfl) (by kernel_rfl) (fun w0 => ?_)
  conv => whnf
  refine And.intro (fun h1 => ?_) (fun h1 => ?_)
  · conv => whnf
    have h1 : ¬ a.length = b.length := by simp at h1; omega
    have : ¬ a = b := fun e => h1 (by rw [e])
    simp [this]
  · have h1 : a.length = b.length := by simp at h1; omega
    conv => whnf
    refine loopi tab_ok (fun k => k ≤ a.length ∧ ∀ j, j < k → a.getD j 0 = b.getD j 0) (fun k => [(0, .c (intsX a)), (1, .c (intsX b)), (11, .c (intsX a)), (12, .c (.i .i64 a.length)), (13, .c (.i .i64 k))]) (fun k => []) (fun k => a.length - k) 0 26 rfl ⟨Nat.zero_le _, fun j h => by omega⟩ ?_ (fun k hk => ?_)
    · refine ⟨?_, ?_, rfl⟩ <;> repeat' (first | exact trivial | exact entV_refl _ | exact ⟨rfl, rfl⟩ | rfl | apply And.intro)
    · obtain ⟨hk, hall⟩ := hk
      conv => whnf
      refine And.intro (fun h2 => ?_) (fun h2 => ?_)
      · have h2 : k < a.length := by simp at h2; omega
        conv => whnf
        refine drawx_pure tab_ok (by kernel_rfl) (by kernel_rfl) ?_
        conv => whnf
        refine ⟨by omega, ?_⟩
        conv => whnf
        refine ⟨by omega, ?_⟩
        conv => whnf
        refine And.intro (fun h3 => ?_) (fun h3 => ?_)
        · have h3 : ¬ a.getD k 0 = b.getD k 0 := by simpa using h3
          have : ¬ a = b := fun e => h3 (by rw [e])
          conv => whnf
          simp [this]
        · have h3 : a.getD k 0 = b.getD k 0 := by simpa using h3
          conv => whnf
          refine ⟨k + 1, ⟨by omega, fun j hj => ?_⟩, by omega, rfl, ?_⟩
          · by_cases e : j = k
            · rw [e]; exact h3
            · exact hall j (by omega)
          refine ⟨?_, ?_, rfl⟩ <;> repeat' (first | exact trivial | exact entV_refl _ | exact wrap_succ (by omega) | rfl | apply And.intro)
      · have h2 : k = a.length := by simp at h2; omega
        subst h2
        have : a = b := eq_of_getD h1 hall
        conv => whnf
        simp [this]
theorem box_step (a : List Int) (w x : Int) (m q : Nat) (h0 : x / w = (q : Int)) (h1 : q < m) : boxL (a ++ [x]) w m = (boxL a w m).set q ((boxL a w m).getD q 0 + 1) := by
  apply List.ext_getElem
  · simp [boxL]
  · intro i h2 h3
    have hi : i < m := by simpa [boxL] using h2
    rw [List.getElem_set]
    simp only [boxL, List.getElem_map, List.getElem_range, List.countP_append, List.countP_singleton, List.getD_eq_getElem?_getD, List.getElem?_map, List.getElem?_range h1, Option.map_some, Option.getD_some, h0]
    by_cases e : q = i
    · subst e; simp
    · have : ¬ (q : Int) = (i : Int) := by omega
      simp [this, e]
theorem sort_len0 (l : List Int) : (sortL l).length = l.length := (sort_perm l).length_eq
theorem okB_sort {l : List Int} {w : Int} (h0 : l.length ≠ 0) (hw : 1 ≤ w) : okB l w ↔ 0 ≤ (sortL l).getD 0 0 ∧ (sortL l).getD (l.length - 1) 0 / w < 1000 := by
  have hs := sort_sorted l
  have hn := sort_len0 l
  have hmem : ∀ i, i < l.length → (sortL l).getD i 0 ∈ l := fun i hi => by
    rw [List.getD_eq_getElem?_getD, List.getElem?_eq_getElem (by omega)]
    exact (sort_perm l).mem_iff.1 (List.getElem_mem _)
  constructor
  · rintro ⟨_, _, h⟩
    exact ⟨(h _ (hmem 0 (by omega))).1, (h _ (hmem _ (by omega))).2⟩
  · rintro ⟨h1, h2⟩
    refine ⟨h0, hw, fun x hx => ?_⟩
    obtain ⟨i, hi, rfl⟩ := List.mem_iff_getElem.1 ((sort_perm l).mem_iff.2 hx)
    have e1 := pw_get hs (i := 0) (j := i) (by omega) hi
    have e2 := pw_get hs (i := i) (j := l.length - 1) (by omega) (by omega)
    have e3 : (sortL l).getD i 0 = (sortL l)[i] := by rw [List.getD_eq_getElem?_getD, List.getElem?_eq_getElem hi]; rfl
    rw [e3] at e1 e2
    refine ⟨by omega, ?_⟩
    have : (sortL l)[i] / w ≤ (sortL l).getD (l.length - 1) 0 / w := Int.ediv_le_ediv (by omega) e2
    omega
theorem max_sort {l : List Int} (h0 : l.length ≠ 0) (h : ∀ x ∈ l, 0 ≤ x) : maxL l = (sortL l).getD (l.length - 1) 0 := by
  have hs := sort_sorted l
  have hn := sort_len0 l
  have hmem : (sortL l).getD (l.length - 1) 0 ∈ l := by
    rw [List.getD_eq_getElem?_getD, List.getElem?_eq_getElem (by omega)]
    exact (sort_perm l).mem_iff.1 (List.getElem_mem _)
  obtain ⟨⟨h1, h2⟩, h3⟩ := foldmax l 0
  have h4 := h2 _ hmem
  have h5 : maxL l ≤ (sortL l).getD (l.length - 1) 0 := by
    unfold maxL
    rcases h3 with h3 | h3
    · rw [h3]; exact h _ hmem
    · obtain ⟨i, hi, e⟩ := List.mem_iff_getElem.1 ((sort_perm l).mem_iff.2 h3)
      have e2 := pw_get hs (i := i) (j := l.length - 1) (by omega) (by omega)
      rw [List.getD_eq_getElem?_getD, List.getElem?_eq_getElem hi] at e2
      simp only [Option.getD_some] at e2
      omega
  exact Int.le_antisymm h5 h4
theorem box_perm {a b : List Int} (h : a.Perm b) (w : Int) (m : Nat) : boxL a w m = boxL b w m := by
  unfold boxL
  apply List.map_congr_left
  intro i _
  rw [h.countP_eq]
theorem boxes_no {l : List Int} {w : Int} (h : ¬ okB l w) : boxes l w = [] := if_neg h
theorem boxes_yes {l : List Int} {w : Int} (h : okB l w) : boxes l w = boxL l w (maxL l / w + 1).toNat := if_pos h
theorem boxL_len (l : List Int) (w : Int) (m : Nat) : (boxL l w m).length = m := by simp [boxL]
theorem boxL_nil (w : Int) (m : Nat) : boxL [] w m = List.replicate m 0 := by
  apply List.ext_getElem <;> simp [boxL]
theorem boxL_le (l : List Int) (w : Int) (m q : Nat) : 0 ≤ (boxL l w m).getD q 0 ∧ (boxL l w m).getD q 0 ≤ l.length := by
  rw [List.getD_eq_getElem?_getD]
  by_cases h : q < m
  · simp only [boxL, List.getElem?_map, List.getElem?_range h, Option.map_some, Option.getD_some]
    have := List.countP_le_length (p := fun x => x / w == (q : Int)) (l := l)
    omega
  · rw [List.getElem?_eq_none (by rw [boxL_len]; omega)]
    simp only [Option.getD_none]
    omega
theorem ll_rep (m : Nat) : entLL (List.replicate m [XC.il .i64 0]) (List.replicate m [XC.i .i64 0]) := by
  induction m with
  | zero => exact trivial
  | succ m ih => exact ⟨⟨⟨rfl, rfl⟩, trivial⟩, ih⟩
def maxAt (l : List Int) : Nat → Int
  | 0 => 0
  | k + 1 => if maxAt l k < l.getD k 0 then l.getD k 0 else maxAt l k
theorem maxAt_take (l : List Int) : ∀ k, k ≤ l.length → maxAt l k = maxL (l.take k)
  | 0, _ => rfl
  | k + 1, h => by
    rw [maxAt, maxAt_take l k (by omega), take_snoc 0 (by omega)]
    unfold maxL
    rw [List.foldl_append]
    rfl
end Go.Proofs.Ytehbalkhboedeaa
