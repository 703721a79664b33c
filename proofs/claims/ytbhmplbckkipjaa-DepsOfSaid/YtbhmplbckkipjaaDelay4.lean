/- How long answers took: numbers in boxes. -/
import Derived.Test.YtbhmplbckkipjaaDelay3
namespace Go.Proofs.Ytbhmplbckkipjaa
open Go Go.Eng Go.RowKit
set_option maxRecDepth 100000
set_option maxHeartbeats 4000000
set_option linter.unusedVariables false
set_option linter.unusedSimpArgs false
theorem wrap_all {n : Int} (h0 : -9223372036854775808 ≤ n) (h1 : n ≤ 9223372036854775807) : IntKind.i64.wrap n = n := by
  rw [IntKind.wrap_i64]; omega
theorem eq_of_getD {a b : List Int} (hl : a.length = b.length) (h : ∀ j, j < a.length → a.getD j 0 = b.getD j 0) : a = b := by
  apply List.ext_getElem hl
  intro i h1 h2
  have := h i h1
  rw [List.getD_eq_getElem?_getD, List.getD_eq_getElem?_getD, List.getElem?_eq_getElem h1, List.getElem?_eq_getElem h2] at this
  simpa using this
theorem sameI_fn (a b : List Int) (ha : a.length ≤ 1000000) : Eng.Fn Try.prog 46 [.c (intsX a), .c (intsX b)] (Tells (.c (.b (decide (a = b))))) := by
  refine Eng.Fn.of tab_ok Try.func46 (by kernel_rfl) (by kernel_rfl) (fun w0 => ?_)
  conv => whnf
  refine And.intro (fun h1 => ?_) (fun h1 => ?_)
  · conv => whnf
    have h1 : ¬ a.length = b.length := by simp at h1; omega
    have : ¬ a = b := fun e => h1 (by rw [e])
    simp [this]
  · have h1 : a.length = b.length := by simp at h1; omega
    conv => whnf
    refine loopi tab_ok (fun k => k ≤ a.length ∧ ∀ j, j < k → a.getD j 0 = b.getD j 0) (fun k => [(0, .c (intsX a)), (1, .c (intsX b)), (11, .c (intsX a)), (12, .c (.i .i64 a.length)), (13, .c (.i .i64 k))]) (fun k => []) (fun k => a.length - k) 0 26 rfl ⟨Nat.zero_le _, fun j h => by omega⟩ ?_ (fun k hk => ?_)
    · refine ⟨?_, ?_, rfl⟩ <;> repeat' (first | exact trivial | exact entV_refl _ | exact ⟨rfl, rfl⟩ | rfl | apply And.intro)
    · obtain ⟨hk, hall⟩ := hk
      conv => whnf
      refine And.intro (fun h2 => ?_) (fun h2 => ?_)
      · have h2 : k < a.length := by simp at h2; omega
        conv => whnf
        refine drawx_pure tab_ok (by kernel_rfl) (by kernel_rfl) ?_
        conv => whnf
        refine ⟨by omega, ?_⟩
        conv => whnf
        refine ⟨by omega, ?_⟩
        conv => whnf
        refine And.intro (fun h3 => ?_) (fun h3 => ?_)
        · have h3 : ¬ a.getD k 0 = b.getD k 0 := by simpa using h3
          have : ¬ a = b := fun e => h3 (by rw [e])
          conv => whnf
          simp [this]
        · have h3 : a.getD k 0 = b.getD k 0 := by simpa using h3
          conv => whnf
          refine ⟨k + 1, ⟨by omega, fun j hj => ?_⟩, by omega, rfl, ?_⟩
          · by_cases e : j = k
            · rw [e]; exact h3
            · exact hall j (by omega)
          refine ⟨?_, ?_, rfl⟩ <;> repeat' (first | exact trivial | exact entV_refl _ | exact wrap_succ (by omega) | rfl | apply And.intro)
      · have h2 : k = a.length := by simp at h2; omega
        subst h2
        have : a = b := eq_of_getD h1 hall
        conv => whnf
        simp [this]
theorem box_step (a : List Int) (w x : Int) (m q : Nat) (h0 : x / w = (q : Int)) (h1 : q < m) : boxL (a ++ [x]) w m = (boxL a w m).set q ((boxL a w m).getD q 0 + 1) := by
  apply List.ext_getElem
  · simp [boxL]
  · intro i h2 h3
    have hi : i < m := by simpa [boxL] using h2
    rw [List.getElem_set]
    simp only [boxL, List.getElem_map, List.getElem_range, List.countP_append, List.countP_singleton, List.getD_eq_getElem?_getD, List.getElem?_map, List.getElem?_range h1, Option.map_some, Option.getD_some, h0]
    by_cases e : q = i
    · subst e; simp
    · have : ¬ (q : Int) = (i : Int) := by omega
      simp [this, e]
theorem sort_len0 (l : List Int) : (sortL l).length = l.length := (sort_perm l).length_eq
theorem okB_sort {l : List Int} {w : Int} (h0 : l.length ≠ 0) (hw : 1 ≤ w) : okB l w ↔ 0 ≤ (sortL l).getD 0 0 ∧ (sortL l).getD (l.length - 1) 0 / w < 1000 := by
  have hs := sort_sorted l
  have hn := sort_len0 l
  have hmem : ∀ i, i < l.length → (sortL l).getD i 0 ∈ l := fun i hi => by
    rw [List.getD_eq_getElem?_getD, List.getElem?_eq_getElem (by omega)]
    exact (sort_perm l).mem_iff.1 (List.getElem_mem _)
  constructor
  · rintro ⟨_, _, h⟩
    exact ⟨(h _ (hmem 0 (by omega))).1, (h _ (hmem _ (by omega))).2⟩
  · rintro ⟨h1, h2⟩
    refine ⟨h0, hw, fun x hx => ?_⟩
    obtain ⟨i, hi, rfl⟩ := List.mem_iff_getElem.1 ((sort_perm l).mem_iff.2 hx)
    have e1 := pw_get hs (i := 0) (j := i) (by omega) hi
    have e2 := pw_get hs (i := i) (j := l.length - 1) (by omega) (by omega)
    have e3 : (sortL l).getD i 0 = (sortL l)[i] := by rw [List.getD_eq_getElem?_getD, List.getElem?_eq_getElem hi]; rfl
    rw [e3] at e1 e2
    refine ⟨by omega, ?_⟩
    have : (sortL l)[i] / w ≤ (sortL l).getD (l.length - 1) 0 / w := Int.ediv_le_ediv (by omega) e2
    omega
theorem max_sort {l : List Int} (h0 : l.length ≠ 0) (h : ∀ x ∈ l, 0 ≤ x) : maxL l = (sortL l).getD (l.length - 1) 0 := by
  have hs := sort_sorted l
  have hn := sort_len0 l
  have hmem : (sortL l).getD (l.length - 1) 0 ∈ l := by
    rw [List.getD_eq_getElem?_getD, List.getElem?_eq_getElem (by omega)]
    exact (sort_perm l).mem_iff.1 (List.getElem_mem _)
  obtain ⟨⟨h1, h2⟩, h3⟩ := foldmax l 0
  have h4 := h2 _ hmem
  have h5 : maxL l ≤ (sortL l).getD (l.length - 1) 0 := by
    unfold maxL
    rcases h3 with h3 | h3
    · rw [h3]; exact h _ hmem
    · obtain ⟨i, hi, e⟩ := List.mem_iff_getElem.1 ((sort_perm l).mem_iff.2 h3)
      have e2 := pw_get hs (i := i) (j := l.length - 1) (by omega) (by omega)
      rw [List.getD_eq_getElem?_getD, List.getElem?_eq_getElem hi] at e2
      simp only [Option.getD_some] at e2
      omega
  exact Int.le_antisymm h5 h4
theorem box_perm {a b : List Int} (h : a.Perm b) (w : Int) (m : Nat) : boxL a w m = boxL b w m := by
  unfold boxL
  apply List.map_congr_left
  intro i _
  rw [h.countP_eq]
theorem boxes_no {l : List Int} {w : Int} (h : ¬ okB l w) : boxes l w = [] := if_neg h
theorem boxes_yes {l : List Int} {w : Int} (h : okB l w) : boxes l w = boxL l w (maxL l / w + 1).toNat := if_pos h
theorem boxL_len (l : List Int) (w : Int) (m : Nat) : (boxL l w m).length = m := by simp [boxL]
theorem boxL_nil (w : Int) (m : Nat) : boxL [] w m = List.replicate m 0 := by
  apply List.ext_getElem <;> simp [boxL]
theorem boxL_le (l : List Int) (w : Int) (m q : Nat) : 0 ≤ (boxL l w m).getD q 0 ∧ (boxL l w m).getD q 0 ≤ l.length := by
  rw [List.getD_eq_getElem?_getD]
  by_cases h : q < m
  · simp only [boxL, List.getElem?_map, List.getElem?_range h, Option.map_some, Option.getD_some]
    have := List.countP_le_length (p := fun x => x / w == (q : Int)) (l := l)
    omega
  · rw [List.getElem?_eq_none (by rw [boxL_len]; omega)]
    simp only [Option.getD_none]
    omega
theorem ll_rep (m : Nat) : entLL (List.replicate m [XC.il .i64 0]) (List.replicate m [XC.i .i64 0]) := by
  induction m with
  | zero => exact trivial
  | succ m ih => exact ⟨⟨⟨rfl, rfl⟩, trivial⟩, ih⟩
theorem boxes_fn (l : List Int) (w : Int) (hl : l.length ≤ 1000000) (hr : ∀ x ∈ l, x ≤ 9223372036854775807) : Eng.Fn Try.prog 41 [.c (intsX l), .c (.i .i64 w)] (Tells (.c (intsX (boxes l w)))) := by
  refine Eng.Fn.ofZ tab_ok Try.func41 (by kernel_rfl) (by kernel_rfl) trivial (fun w0 => ?_)
  conv => whnf
  refine And.intro (fun h1 => ?_) (fun h1 => ?_)
  · have h1 : l.length = 0 := by simpa using h1
    conv => whnf
    rw [boxes_no (fun h => h.1 h1)]
    exact ⟨rfl, rfl⟩
  · have h1 : l.length ≠ 0 := by simpa using h1
    conv => whnf
    refine And.intro (fun h2 => ?_) (fun h2 => ?_)
    · have h2 : w < 1 := by simpa using h2
      conv => whnf
      rw [boxes_no (fun h => by have := h.2.1; omega)]
      exact ⟨rfl, rfl⟩
    · have h2 : 1 ≤ w := by simp at h2; omega
      conv => whnf
      refine callx_tells (sorted_fn l hl) rfl trivial ?_
      conv => whnf
      have hn := sort_len0 l
      have hok := okB_sort h1 h2
      have hmx := fun h => max_sort (l := l) h1 h
      refine ⟨by omega, ?_⟩
      conv => whnf
      refine And.intro (fun h3 => ?_) (fun h3 => ?_)
      · have h3 : (sortL l).getD 0 0 < 0 := by simpa using h3
        conv => whnf
        rw [boxes_no (fun h => by have := (hok.1 h).1; omega)]
        exact ⟨rfl, rfl⟩
      · have h3 : ¬ (sortL l).getD 0 0 < 0 := by simpa using h3
        have hw : IntKind.i64.wrap (((sortL l).length : Int) - 1) = ((l.length - 1 : Nat) : Int) := by rw [wrap_ok (by omega) (by omega)]; omega
        conv => whnf
        rw [hw]
        refine ⟨by omega, ?_⟩
        conv => whnf
        refine ⟨by omega, ?_⟩
        have hge : 0 ≤ (sortL l).getD (l.length - 1) 0 := by have := pw_get (sort_sorted l) (i := 0) (j := l.length - 1) (by omega) (by omega); omega
        have hle : (sortL l).getD (l.length - 1) 0 ≤ 9223372036854775807 := by
          rw [List.getD_eq_getElem?_getD, List.getElem?_eq_getElem (by omega)]
          exact hr _ ((sort_perm l).mem_iff.1 (List.getElem_mem _))
        have hq : IntKind.i64.wrap (((sortL l).getD (l.length - 1) 0).tdiv w) = (sortL l).getD (l.length - 1) 0 / w := by
          rw [Int.tdiv_eq_ediv_of_nonneg hge]
          have h5 : 0 ≤ (sortL l).getD (l.length - 1) 0 / w := Int.ediv_nonneg hge (by omega)
          have h6 : (sortL l).getD (l.length - 1) 0 / w ≤ (sortL l).getD (l.length - 1) 0 := Int.ediv_le_self _ hge
          exact wrap_all (by omega) (by omega)
        conv => whnf
        refine And.intro (fun h4 => ?_) (fun h4 => ?_)
        · have h4 : (sortL l).getD (l.length - 1) 0 / w ≥ 1000 := by
            rw [← hq]; simpa using h4
          conv => whnf
          rw [boxes_no (fun h => by have := (hok.1 h).2; omega)]
          exact ⟨rfl, rfl⟩
        · have h4 : (sortL l).getD (l.length - 1) 0 / w < 1000 := by
            rw [← hq]; simp at h4; exact h4
          have hb : okB l w := hok.2 ⟨by omega, h4⟩
          have hm := hmx fun x hx => (hb.2.2 x hx).1
          have h5 : 0 ≤ (sortL l).getD (l.length - 1) 0 / w := Int.ediv_nonneg hge (by omega)
          conv => whnf
          rw [boxes_yes hb, hm]
          rw [hw]
          refine ⟨by omega, ?_⟩
          conv => whnf
          generalize hmm : ((sortL l).getD (l.length - 1) 0 / w + 1).toNat = m
          have hm1 : (sortL l).getD (l.length - 1) 0 / w + 1 = (m : Int) := by omega
          have hw2 : IntKind.i64.wrap (IntKind.i64.wrap (((sortL l).getD (Int.toNat ((l.length - 1 : Nat) : Int)) 0).tdiv w) + 1) = (m : Int) := by
            rw [Int.toNat_natCast, hq, hm1]; exact wrap_ok (by omega) (by omega)
          refine ⟨by omega, ?_⟩
          conv => whnf
          rw [hw2]
          refine ⟨by omega, ?_⟩
          conv => whnf
          refine loopi tab_ok (fun k => k ≤ l.length) (fun k => [(1, .c (.i .i64 w)), (5, .c (intsX (sortL l))), (6, .c (.ow 0)), (43, .c (intsX (sortL l))), (44, .c (.i .i64 l.length)), (45, .c (.i .i64 k))]) (fun k => [rowI 3 (boxL ((sortL l).take k) w m)]) (fun k => l.length - k) 0 _ rfl (Nat.zero_le _) ?_ (fun k hk => ?_)
          · refine ⟨?_, ?_, rfl⟩ <;> repeat' (first | exact trivial | exact entV_refl _ | rfl | apply And.intro)
            · rw [hn]
            · rw [List.take_zero, boxL_nil, Int.toNat_natCast, List.map_replicate]
              exact ll_rep m
          · conv => whnf
            refine And.intro (fun h6 => ?_) (fun h6 => ?_)
            · conv => whnf
              have h6 : k < l.length := by simp at h6; omega
              refine ⟨by omega, ?_⟩
              conv => whnf
              have hxm : (sortL l).getD k 0 ∈ l := by
                rw [List.getD_eq_getElem?_getD, List.getElem?_eq_getElem (by omega)]
                exact (sort_perm l).mem_iff.1 (List.getElem_mem _)
              have hxl : (sortL l).getD k 0 ≤ (sortL l).getD (l.length - 1) 0 := pw_get (sort_sorted l) (by omega) (by omega)
              have htk : (sortL l).take (k + 1) = (sortL l).take k ++ [(sortL l).getD k 0] := take_snoc 0 (by omega)
              have hx0 := (hb.2.2 _ hxm).1
              have hx1 := hr _ hxm
              generalize hxx : (sortL l).getD (Int.toNat (k : Int)) 0 = x
              have hxx : (sortL l).getD k 0 = x := hxx
              rw [hxx] at hxl htk hx0 hx1
              have hd : x / w ≤ (sortL l).getD (l.length - 1) 0 / w := Int.ediv_le_ediv (by omega) hxl
              have hd0 : 0 ≤ x / w := Int.ediv_nonneg hx0 (by omega)
              obtain ⟨q, hq1⟩ : ∃ q : Nat, x / w = (q : Int) := ⟨(x / w).toNat, by omega⟩
              have hqm : q < m := by omega
              have hw3 : IntKind.i64.wrap (x.tdiv w) = (q : Int) := by
                rw [Int.tdiv_eq_ediv_of_nonneg hx0, hq1]; exact wrap_ok (by omega) (by omega)
              have hlen : ((boxL ((sortL l).take k) w m).map fun n => [XC.i .i64 n]).length = m := by rw [List.length_map, boxL_len]
              refine ⟨by omega, ?_⟩
              conv => whnf
              rw [hw3, hlen]
              refine ⟨by omega, ?_⟩
              conv => whnf
              refine ⟨[.i .i64 ((boxL ((sortL l).take k) w m).getD q 0)], ?_, ?_⟩
              · rw [Int.toNat_natCast, List.getElem?_map, List.getElem?_eq_getElem (by rw [boxL_len]; exact hqm)]
                simp [List.getD, boxL_len, hqm]
              conv => whnf
              rw [hlen]
              refine ⟨by omega, ?_⟩
              conv => whnf
              refine ⟨[.i .i64 ((boxL ((sortL l).take k) w m).getD q 0)], ?_, ?_⟩
              · rw [Int.toNat_natCast, List.getElem?_map, List.getElem?_eq_getElem (by rw [boxL_len]; exact hqm)]
                simp [List.getD, boxL_len, hqm]
              conv => whnf
              have hbv := boxL_le ((sortL l).take k) w m q
              have hlt : ((sortL l).take k).length ≤ 1000000 := by rw [List.length_take]; omega
              refine ⟨k + 1, by omega, by omega, rfl, ?_⟩
              rw [htk, box_step _ _ _ _ q hq1 hqm]
              refine ⟨?_, ?_, rfl⟩ <;> repeat' (first | exact trivial | exact entV_refl _ | exact wrap_succ (by omega) | rfl | apply And.intro)
              rw [List.map_set, Int.toNat_natCast, show IntKind.i64.wrap ((boxL ((sortL l).take k) w m).getD q 0 + 1) = (boxL ((sortL l).take k) w m).getD q 0 + 1 from wrap_ok (by omega) (by omega)]
              exact entLL_refl _
            · have h6 : k = l.length := by simp at h6; omega
              subst h6
              conv => whnf
              refine ints_ent ?_
              rw [List.take_of_length_le (by omega), box_perm (sort_perm l)]
def maxAt (l : List Int) : Nat → Int
  | 0 => 0
  | k + 1 => if maxAt l k < l.getD k 0 then l.getD k 0 else maxAt l k
theorem maxAt_take (l : List Int) : ∀ k, k ≤ l.length → maxAt l k = maxL (l.take k)
  | 0, _ => rfl
  | k + 1, h => by
    rw [maxAt, maxAt_take l k (by omega), take_snoc 0 (by omega)]
    unfold maxL
    rw [List.foldl_append]
    rfl
theorem refBoxes_fn (l : List Int) (w : Int) (hl : l.length ≤ 1000000) (hr : ∀ x ∈ l, x ≤ 9223372036854775807) : Eng.Fn Try.prog 48 [.c (intsX l), .c (.i .i64 w)] (Tells (.c (intsX (boxes l w)))) := by
  refine Eng.Fn.ofZ tab_ok Try.func48 (by kernel_rfl) (by kernel_rfl) trivial (fun w0 => ?_)
  conv => whnf
  refine And.intro (fun h2 => ?_) (fun h2 => ?_)
  · have h2 : w < 1 := by simpa using h2
    conv => whnf
    rw [boxes_no (fun h => by have := h.2.1; omega)]
    exact ⟨rfl, rfl⟩
  · have h2 : 1 ≤ w := by simp at h2; omega
    conv => whnf
    refine And.intro (fun h1 => ?_) (fun h1 => ?_)
    · have h1 : l.length = 0 := by simpa using h1
      conv => whnf
      rw [boxes_no (fun h => h.1 h1)]
      exact ⟨rfl, rfl⟩
    · have h1 : l.length ≠ 0 := by simpa using h1
      conv => whnf
      refine loopi tab_ok (fun k => k ≤ l.length ∧ ∀ j, j < k → 0 ≤ l.getD j 0 ∧ l.getD j 0 / w < 1000) (fun k => [(0, .c (intsX l)), (1, .c (.i .i64 w)), (5, .c (.i .i64 (maxAt l k))), (18, .c (intsX l)), (19, .c (.i .i64 l.length)), (20, .c (.i .i64 k))]) (fun k => []) (fun k => l.length - k) 0 _ rfl ⟨Nat.zero_le _, fun j h => by omega⟩ ?_ (fun k hk => ?_)
      · refine ⟨?_, ?_, rfl⟩ <;> repeat' (first | exact trivial | exact entV_refl _ | exact ⟨rfl, rfl⟩ | rfl | apply And.intro)
      · obtain ⟨hk, hall⟩ := hk
        conv => whnf
        refine And.intro (fun h3 => ?_) (fun h3 => ?_)
        · have h3 : k < l.length := by simp at h3; omega
          conv => whnf
          refine ⟨by omega, ?_⟩
          conv => whnf
          have hxm : l.getD k 0 ∈ l := by
            rw [List.getD_eq_getElem?_getD, List.getElem?_eq_getElem (by omega)]
            exact List.getElem_mem _
          have hx1 := hr _ hxm
          have hbad : ¬ (0 ≤ l.getD k 0 ∧ l.getD k 0 / w < 1000) → ¬ okB l w := fun h h' => h (h'.2.2 _ hxm)
          have hmax : maxAt l (k + 1) = if maxAt l k < l.getD k 0 then l.getD k 0 else maxAt l k := rfl
          generalize hxx : l.getD (Int.toNat (k : Int)) 0 = x
          have hxx : l.getD k 0 = x := hxx
          rw [hxx] at hx1 hbad hmax
          refine And.intro (fun h4 => ?_) (fun h4 => ?_)
          · have h4 : x < 0 := by simpa using h4
            conv => whnf
            rw [boxes_no (hbad (by omega))]
            exact ⟨rfl, rfl⟩
          · have h4 : 0 ≤ x := by simp at h4; omega
            have hw3 : IntKind.i64.wrap (x.tdiv w) = x / w := by
              have h5 : 0 ≤ x / w := Int.ediv_nonneg h4 (by omega)
              have h6 : x / w ≤ x := Int.ediv_le_self _ h4
              rw [Int.tdiv_eq_ediv_of_nonneg h4]; exact wrap_all (by omega) (by omega)
            conv => whnf
            refine ⟨by omega, ?_⟩
            conv => whnf
            refine And.intro (fun h5 => ?_) (fun h5 => ?_)
            · have h5 : x / w ≥ 1000 := by rw [← hw3]; simpa using h5
              conv => whnf
              rw [boxes_no (hbad (by omega))]
              exact ⟨rfl, rfl⟩
            · have h5 : x / w < 1000 := by rw [← hw3]; simp at h5; exact h5
              have hall' : ∀ j, j < k + 1 → 0 ≤ l.getD j 0 ∧ l.getD j 0 / w < 1000 := fun j hj => by
                by_cases e : j = k
                · rw [e, hxx]; exact ⟨h4, h5⟩
                · exact hall j (by omega)
              conv => whnf
              refine And.intro (fun h6 => ?_) (fun h6 => ?_)
              · have h6 : maxAt l k < x := by simpa using h6
                rw [if_pos h6] at hmax
                conv => whnf
                refine ⟨k + 1, ⟨by omega, hall'⟩, by omega, rfl, ?_⟩
                rw [hmax]
                refine ⟨?_, ?_, rfl⟩ <;> repeat' (first | exact trivial | exact entV_refl _ | exact wrap_succ (by omega) | rfl | apply And.intro)
              · have h6 : ¬ maxAt l k < x := by simp at h6; omega
                rw [if_neg h6] at hmax
                conv => whnf
                refine ⟨k + 1, ⟨by omega, hall'⟩, by omega, rfl, ?_⟩
                rw [hmax]
                refine ⟨?_, ?_, rfl⟩ <;> repeat' (first | exact trivial | exact entV_refl _ | exact wrap_succ (by omega) | rfl | apply And.intro)
        · have h3 : k = l.length := by simp at h3; omega
          subst h3
          have hb : okB l w := ⟨h1, h2, fun x hx => by
            obtain ⟨i, hi, rfl⟩ := List.mem_iff_getElem.1 hx
            have := hall i hi
            rw [List.getD_eq_getElem?_getD, List.getElem?_eq_getElem hi] at this
            exact this⟩
          have hmt := maxAt_take l l.length (Nat.le_refl _)
          rw [List.take_length] at hmt
          have hfm := foldmax l 0
          have hge : 0 ≤ maxL l := hfm.1.1
          have hle : maxL l ≤ 9223372036854775807 ∧ maxL l / w < 1000 := by
            rcases hfm.2 with h | h
            · have h : maxL l = 0 := h
              rw [h]; simp
            · exact ⟨hr _ h, (hb.2.2 _ h).2⟩
          have hmx2 := hfm.1.2
          have hmx3 : ∀ x ∈ l, x ≤ maxL l := hmx2
          have h5 : 0 ≤ maxL l / w := Int.ediv_nonneg hge (by omega)
          have hq : IntKind.i64.wrap ((maxL l).tdiv w) = maxL l / w := by
            rw [Int.tdiv_eq_ediv_of_nonneg hge]; exact wrap_ok (by omega) (by omega)
          conv => whnf
          rw [boxes_yes hb]
          refine ⟨by omega, ?_⟩
          conv => whnf
          rw [hmt]
          generalize hmm : (maxL l / w + 1).toNat = m
          have hm1 : maxL l / w + 1 = (m : Int) := by omega
          have hw2 : IntKind.i64.wrap (IntKind.i64.wrap ((maxL l).tdiv w) + 1) = (m : Int) := by
            rw [hq, hm1]; exact wrap_ok (by omega) (by omega)
          rw [hw2]
          refine ⟨by omega, ?_⟩
          conv => whnf
          refine loopi tab_ok (fun k => k ≤ l.length) (fun k => [(1, .c (.i .i64 w)), (8, .c (.ow 0)), (42, .c (intsX l)), (43, .c (.i .i64 l.length)), (44, .c (.i .i64 k))]) (fun k => [rowI 3 (boxL (l.take k) w m)]) (fun k => l.length - k) 0 _ rfl (Nat.zero_le _) ?_ (fun k hk => ?_)
          · refine ⟨?_, ?_, rfl⟩ <;> repeat' (first | exact trivial | exact entV_refl _ | exact ⟨rfl, rfl⟩ | rfl | apply And.intro)
            · rw [List.take_zero, boxL_nil, Int.toNat_natCast, List.map_replicate]
              exact ll_rep m
          · conv => whnf
            refine And.intro (fun h6 => ?_) (fun h6 => ?_)
            · conv => whnf
              have h6 : k < l.length := by simp at h6; omega
              refine ⟨by omega, ?_⟩
              conv => whnf
              have hxm : l.getD k 0 ∈ l := by
                rw [List.getD_eq_getElem?_getD, List.getElem?_eq_getElem (by omega)]
                exact List.getElem_mem _
              have hxl := hmx3 _ hxm
              have htk : l.take (k + 1) = l.take k ++ [l.getD k 0] := take_snoc 0 (by omega)
              have hx0 := (hb.2.2 _ hxm).1
              have hx1 := hr _ hxm
              generalize hxx : l.getD (Int.toNat (k : Int)) 0 = x
              have hxx : l.getD k 0 = x := hxx
              rw [hxx] at hxl htk hx0 hx1
              have hd : x / w ≤ maxL l / w := Int.ediv_le_ediv (by omega) hxl
              have hd0 : 0 ≤ x / w := Int.ediv_nonneg hx0 (by omega)
              obtain ⟨q, hq1⟩ : ∃ q : Nat, x / w = (q : Int) := ⟨(x / w).toNat, by omega⟩
              have hqm : q < m := by omega
              have hw3 : IntKind.i64.wrap (x.tdiv w) = (q : Int) := by
                rw [Int.tdiv_eq_ediv_of_nonneg hx0, hq1]; exact wrap_ok (by omega) (by omega)
              have hlen : ((boxL (l.take k) w m).map fun n => [XC.i .i64 n]).length = m := by rw [List.length_map, boxL_len]
              refine ⟨by omega, ?_⟩
              conv => whnf
              rw [hw3, hlen]
              refine ⟨by omega, ?_⟩
              conv => whnf
              refine ⟨[.i .i64 ((boxL (l.take k) w m).getD q 0)], ?_, ?_⟩
              · rw [Int.toNat_natCast, List.getElem?_map, List.getElem?_eq_getElem (by rw [boxL_len]; exact hqm)]
                simp [List.getD, boxL_len, hqm]
              conv => whnf
              rw [hlen]
              refine ⟨by omega, ?_⟩
              conv => whnf
              refine ⟨[.i .i64 ((boxL (l.take k) w m).getD q 0)], ?_, ?_⟩
              · rw [Int.toNat_natCast, List.getElem?_map, List.getElem?_eq_getElem (by rw [boxL_len]; exact hqm)]
                simp [List.getD, boxL_len, hqm]
              conv => whnf
              have hbv := boxL_le (l.take k) w m q
              have hlt : (l.take k).length ≤ 1000000 := by rw [List.length_take]; omega
              refine ⟨k + 1, by omega, by omega, rfl, ?_⟩
              rw [htk, box_step _ _ _ _ q hq1 hqm]
              refine ⟨?_, ?_, rfl⟩ <;> repeat' (first | exact trivial | exact entV_refl _ | exact wrap_succ (by omega) | rfl | apply And.intro)
              rw [List.map_set, Int.toNat_natCast, show IntKind.i64.wrap ((boxL (l.take k) w m).getD q 0 + 1) = (boxL (l.take k) w m).getD q 0 + 1 from wrap_ok (by omega) (by omega)]
              exact entLL_refl _
            · have h6 : k = l.length := by simp at h6; omega
              subst h6
              conv => whnf
              refine ints_ent ?_
              rw [List.take_of_length_le (by omega)]
end Go.Proofs.Ytbhmplbckkipjaa
