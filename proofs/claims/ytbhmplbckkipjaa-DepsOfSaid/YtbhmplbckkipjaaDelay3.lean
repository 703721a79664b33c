/- How long answers took: numbers in order, and in boxes. -/
import Derived.Test.YtbhmplbckkipjaaDelay2
import Derived.Test.YtbhmplbckkipjaaEngGl
namespace Go.Proofs.Ytbhmplbckkipjaa
open Go Go.Eng Go.RowKit
set_option maxRecDepth 100000
set_option maxHeartbeats 4000000
set_option linter.unusedVariables false
set_option linter.unusedSimpArgs false
theorem nil_ints : entC (.v (.slice none 0 0)) (intsX []) := ⟨rfl, rfl⟩
theorem sort_uniq {l m : List Int} (hp : m.Perm l) (hs : m.Pairwise (· ≤ ·)) : m = sortL l := by
  refine List.Perm.eq_of_pairwise (le := (· ≤ ·)) (fun a b _ _ h1 h2 => Int.le_antisymm h1 h2) hs ?_ (hp.trans (List.mergeSort_perm l _).symm)
  have := List.pairwise_mergeSort (le := fun (a b : Int) => decide (a ≤ b)) (fun a b c h1 h2 => by simp at *; omega) (fun a b => by simp; omega) l
  exact this.imp fun h => by simpa using h
theorem sort_sorted (l : List Int) : (sortL l).Pairwise (· ≤ ·) := by
  have := List.pairwise_mergeSort (le := fun (a b : Int) => decide (a ≤ b)) (fun a b c h1 h2 => by simp at *; omega) (fun a b => by simp; omega) l
  exact this.imp fun h => by simpa using h
theorem sort_perm (l : List Int) : (sortL l).Perm l := List.mergeSort_perm l _
def InsI (x : Int) (out : List Int) (i : Nat) : Prop := i ≤ out.length ∧ ∀ j, i ≤ j → j < out.length → x < out.getD j 0
theorem pw_get {l : List Int} (h : l.Pairwise (· ≤ ·)) {i j : Nat} (hij : i ≤ j) (hj : j < l.length) : l.getD i 0 ≤ l.getD j 0 := by
  have hi : i < l.length := by omega
  rw [List.getD_eq_getElem?_getD, List.getD_eq_getElem?_getD, List.getElem?_eq_getElem hi, List.getElem?_eq_getElem hj]
  simp only [Option.getD_some]
  rcases Nat.lt_or_eq_of_le hij with h1 | h1
  · exact List.pairwise_iff_getElem.1 h i j hi hj h1
  · subst h1; exact Int.le_refl _
theorem ins_sorted {x : Int} {out : List Int} {i : Nat} (h : InsI x out i) (hs : out.Pairwise (· ≤ ·)) (hx : i = 0 ∨ out.getD (i - 1) 0 ≤ x) : (out.take i ++ x :: out.drop i).Pairwise (· ≤ ·) := by
  have hs' : (out.take i ++ out.drop i).Pairwise (· ≤ ·) := by rw [List.take_append_drop]; exact hs
  obtain ⟨h1, h2, h3⟩ := List.pairwise_append.1 hs'
  have hxd : ∀ y ∈ out.drop i, x ≤ y := fun y hy => by
    obtain ⟨j, hj, rfl⟩ := List.mem_iff_getElem.1 hy
    simp only [List.length_drop] at hj
    have := h.2 (i + j) (by omega) (by omega)
    rw [List.getD_eq_getElem?_getD, List.getElem?_eq_getElem (by omega)] at this
    simp only [List.getElem_drop]
    simp only [Option.getD_some] at this
    omega
  refine List.pairwise_append.2 ⟨h1, List.pairwise_cons.2 ⟨hxd, h2⟩, fun a ha b hb => ?_⟩
  rcases List.mem_cons.1 hb with rfl | hb
  · obtain ⟨j, hj, rfl⟩ := List.mem_iff_getElem.1 ha
    have hj' : j < i ∧ j < out.length := by rw [List.length_take] at hj; omega
    rcases hx with h0 | h0
    · omega
    · have hi := h.1
      have := pw_get hs (i := j) (j := i - 1) (by omega) (by omega)
      rw [List.getD_eq_getElem?_getD, List.getElem?_eq_getElem hj'.2] at this
      simp only [List.getElem_take]
      simp only [Option.getD_some] at this
      omega
  · exact h3 a ha b hb
theorem ins_perm (x : Int) (out : List Int) (i : Nat) : (out.take i ++ x :: out.drop i).Perm (out ++ [x]) := by
  refine List.perm_middle.trans ?_
  rw [List.take_append_drop]
  exact (List.perm_append_singleton x out).symm
/-- The boxes. -/
def boxL (l : List Int) (w : Int) (m : Nat) : List Int := (List.range m).map fun (i : Nat) => (l.countP (fun x => x / w == (i : Int)) : Int)
def okB (l : List Int) (w : Int) : Prop := l.length ≠ 0 ∧ 1 ≤ w ∧ ∀ x ∈ l, 0 ≤ x ∧ x / w < 1000
def maxL (l : List Int) : Int := l.foldl (fun a x => if a < x then x else a) 0
open Classical in
noncomputable def boxes (l : List Int) (w : Int) : List Int := if okB l w then boxL l w (maxL l / w + 1).toNat else []
theorem foldmax (l : List Int) : ∀ a : Int, (a ≤ l.foldl (fun a x => if a < x then x else a) a ∧ ∀ x ∈ l, x ≤ l.foldl (fun a x => if a < x then x else a) a) ∧ (l.foldl (fun a x => if a < x then x else a) a = a ∨ l.foldl (fun a x => if a < x then x else a) a ∈ l) := by
  induction l with
  | nil => intro a; simp
  | cons x l ih =>
    intro a
    simp only [List.foldl_cons]
    obtain ⟨⟨h1, h2⟩, h3⟩ := ih (if a < x then x else a)
    refine ⟨⟨?_, fun y hy => ?_⟩, ?_⟩
    · split at h1 <;> rename_i hc <;> simp only [hc, if_true, if_false] <;> omega
    · rcases List.mem_cons.1 hy with rfl | hy
      · split at h1 <;> rename_i hc <;> simp only [hc, if_true, if_false] <;> omega
      · exact h2 y hy
    · rcases h3 with h3 | h3
      · by_cases hc : a < x
        · right; rw [h3, if_pos hc]; simp
        · left; rw [h3, if_neg hc]
      · right; simp [h3]
theorem box_sum (w : Int) (m : Nat) : ∀ l : List Int, (∀ x ∈ l, 0 ≤ x / w ∧ x / w < m) → (boxL l w m).sum = l.length := by
  have hz : ∀ (m : Nat), ((List.range m).map fun _ => (0 : Int)).sum = 0 := fun m => by
    induction m with
    | zero => rfl
    | succ m ih => rw [List.range_succ, List.map_append, List.sum_append, ih]; rfl
  have hone : ∀ (m : Nat) (k : Int), 0 ≤ k → ((List.range m).map fun (i : Nat) => if k == (i : Int) then (1 : Int) else 0).sum = if k < m then 1 else 0 := fun m k hk => by
    induction m with
    | zero => simp; omega
    | succ m ih =>
      rw [List.range_succ, List.map_append, List.sum_append, ih]
      simp only [List.map_cons, List.map_nil, List.sum_cons, List.sum_nil, beq_iff_eq]
      repeat' split
      all_goals omega
  have hadd : ∀ (m : Nat) (f g : Nat → Int), ((List.range m).map fun i => f i + g i).sum = ((List.range m).map f).sum + ((List.range m).map g).sum := fun m f g => by
    induction m with
    | zero => rfl
    | succ m ih => simp only [List.range_succ, List.map_append, List.sum_append, ih, List.map_cons, List.map_nil, List.sum_cons, List.sum_nil]; omega
  intro l
  induction l with
  | nil => intro _; simpa [boxL] using hz m
  | cons x l ih =>
    intro h
    have h1 := ih fun y hy => h y (by simp [hy])
    have hx := h x (by simp)
    have : boxL (x :: l) w m = (List.range m).map fun (i : Nat) => ((l.countP (fun y => y / w == (i : Int)) : Nat) : Int) + (if x / w == (i : Int) then (1 : Int) else 0) := by
      unfold boxL
      apply List.map_congr_left
      intro i _
      rw [List.countP_cons]
      split <;> simp
    rw [this, hadd, hone m _ hx.1, if_pos hx.2]
    unfold boxL at h1
    rw [h1]
    simp
theorem boxes_len (l : List Int) (w : Int) : (boxes l w).length = 0 ∨ (boxes l w).sum = l.length := by
  unfold boxes
  split
  · rename_i h
    right
    refine box_sum w _ l fun x hx => ?_
    obtain ⟨h0, h1, h2⟩ := h
    have hm := (foldmax l 0).1.2 x hx
    have h4 : x / w ≤ maxL l / w := Int.ediv_le_ediv (by omega) hm
    have h5 : 0 ≤ x / w := Int.ediv_nonneg (h2 x hx).1 (by omega)
    exact ⟨h5, by omega⟩
  · left; rfl
theorem rowsOf_drop (l : List Int) (i : Nat) : rowsOf (l.length - (i : Int).toNat) 1 (fun j => (fun i _ => XC.i .i64 (l.getD i 0)) ((i : Int).toNat + j)) = (l.drop i).map fun n => [XC.i .i64 n] := by
  apply List.ext_getElem
  · simp [rowsOf]
  · intro j h1 h2
    have hi : i + j < l.length := by simp [rowsOf] at h1; omega
    simp [rowsOf, List.getD, hi]
theorem rowsOf_take (l : List Int) (i : Nat) (h : i ≤ l.length) : rowsOf (i : Int).toNat 1 (fun i _ => XC.i .i64 (l.getD i 0)) = (l.take i).map fun n => [XC.i .i64 n] := by
  apply List.ext_getElem
  · simp [rowsOf]; omega
  · intro j h1 h2
    have hi : j < l.length := by simp [rowsOf] at h1; omega
    simp [rowsOf, List.getD, hi]
theorem refSorted_fn (l : List Int) (hl : l.length ≤ 1000000) : Eng.Fn Try.prog 39 [.c (intsX l)] (Tells (.c (intsX (sortL l)))) := by
  refine Eng.Fn.ofZ tab_ok Try.func39 (by kernel_rfl) (by kernel_rfl) trivial (fun w0 => ?_)
  conv => whnf
  refine loopl tab_ok (fun (i : Nat × List Int) => i.1 ≤ l.length ∧ i.2.Pairwise (· ≤ ·) ∧ i.2.Perm (l.take i.1)) (fun i => [(3, .c (intsX i.2)), (7, .c (intsX l)), (8, .c (.i .i64 l.length)), (9, .c (.i .i64 i.1))]) (fun i => []) (fun i => l.length - i.1) (0, []) 41 rfl ⟨by omega, List.Pairwise.nil, by simp⟩ ?_ (fun i hi => ?_)
  · refine ⟨?_, ?_, rfl⟩ <;> repeat' (first | exact trivial | exact entV_refl _ | exact nil_ints | rfl | apply And.intro)
  · obtain ⟨k, out⟩ := i
    obtain ⟨hk, hs, hp⟩ := hi
    have hk : k ≤ l.length := hk
    have hol : out.length = k := by rw [hp.length_eq]; simp; omega
    conv => whnf
    refine And.intro (fun h1 => ?_) (fun h1 => ?_)
    · conv => whnf
      simp only [decide_eq_true_eq] at h1
      have h2 : k < l.length := by omega
      refine ⟨by omega, ?_⟩
      conv => whnf
      generalize hb : l.getD (Int.toNat (k : Int)) 0 = x
      have hb : l.getD k 0 = x := hb
      refine loopi tab_ok (fun i => InsI x out i) (fun i => [(3, .c (intsX out)), (5, .c (.i .i64 x)), (6, .c (.i .i64 i)), (7, .c (intsX l)), (8, .c (.i .i64 l.length)), (9, .c (.i .i64 k))]) (fun i => []) (fun i => i) out.length 41 rfl ⟨Nat.le_refl _, fun j h1 h2 => by omega⟩ ?_ (fun i hi => ?_)
      · refine ⟨?_, ?_, rfl⟩ <;> repeat' (first | exact trivial | exact entV_refl _ | rfl | apply And.intro)
      · conv => whnf
        refine And.intro (fun h3 => ?_) (fun h3 => ?_)
        · have h3 : 0 < i := by simpa using h3
          have hi0 := hi.1
          have hw : IntKind.i64.wrap ((i : Int) - 1) = ((i - 1 : Nat) : Int) := by rw [wrap_ok (by omega) (by omega)]; omega
          conv => whnf
          rw [hw]
          refine ⟨by have := hi.1; omega, ?_⟩
          conv => whnf
          refine And.intro (fun h4 => ?_) (fun h4 => ?_)
          · have h4 : out.getD (i - 1) 0 > x := by simpa using h4
            conv => whnf
            refine ⟨i - 1, ⟨by have := hi.1; omega, fun j hj1 hj2 => ?_⟩, by omega, rfl, ?_⟩
            · by_cases hji : j = i - 1
              · rw [hji]; omega
              · exact hi.2 j (by omega) hj2
            refine ⟨?_, ?_, rfl⟩ <;> repeat' (first | exact trivial | exact entV_refl _ | exact hw | rfl | apply And.intro)
          · have h4 : i = 0 ∨ out.getD (i - 1) 0 ≤ x := .inr (by simpa using h4)
            conv => whnf
            refine drawx_plan tab_ok [] (.take 0 (.take 1 (.take 2 (.take 3 (.take 4 (.take 6 (.take 7 (.take 8 (.one 5 (.one 9 (.one 10 (.take 11 .done)))))))))))) (by kernel_rfl) (by kernel_rfl) (by kernel_rfl) ?_
            conv => whnf
            have hi1 := hi.1
            refine ⟨by omega, ?_⟩
            conv => whnf
            refine ⟨by omega, ?_⟩
            conv => whnf
            rw [rowsOf_drop]
            refine ⟨by simp only [List.length_map, List.length_drop, List.length_cons, List.length_nil]; omega, ?_⟩
            conv => whnf
            rw [rowsOf_take out i hi1]
            refine And.intro (fun h => absurd h (by simp)) (fun _ => ⟨by simp only [List.length_map, List.length_drop, List.length_cons, List.length_nil, List.length_append, List.length_take]; omega, ?_⟩)
            conv => whnf
            refine labx_gh (.frz 1) ?_
            conv => whnf
            refine labx_go ⟨(k + 1, out.take i ++ x :: out.drop i), ⟨by dsimp only; omega, ins_sorted hi hs h4, ?_⟩, by dsimp only; omega, rfl, ?_⟩
            · refine (ins_perm x out i).trans ?_
              dsimp only
              rw [take_snoc 0 h2, hb]
              exact hp.append_right [x]
            refine ⟨?_, ?_, rfl⟩ <;> repeat' (first | exact trivial | exact entV_refl _ | exact wrap_succ (by omega) | exact ints_ent (by simp) | rfl | apply And.intro)
        · have h4 : i = 0 ∨ out.getD (i - 1) 0 ≤ x := .inl (by simp at h3; omega)
          conv => whnf
          refine drawx_plan tab_ok [] (.take 0 (.take 1 (.take 2 (.take 3 (.take 4 (.take 6 (.take 7 (.take 8 (.one 5 (.one 9 (.one 10 (.take 11 .done)))))))))))) (by kernel_rfl) (by kernel_rfl) (by kernel_rfl) ?_
          conv => whnf
          have hi1 := hi.1
          refine ⟨by omega, ?_⟩
          conv => whnf
          refine ⟨by omega, ?_⟩
          conv => whnf
          rw [rowsOf_drop]
          refine ⟨by simp only [List.length_map, List.length_drop, List.length_cons, List.length_nil]; omega, ?_⟩
          conv => whnf
          rw [rowsOf_take out i hi1]
          refine And.intro (fun h => absurd h (by simp)) (fun _ => ⟨by simp only [List.length_map, List.length_drop, List.length_cons, List.length_nil, List.length_append, List.length_take]; omega, ?_⟩)
          conv => whnf
          refine labx_gh (.frz 1) ?_
          conv => whnf
          refine labx_go ⟨(k + 1, out.take i ++ x :: out.drop i), ⟨by dsimp only; omega, ins_sorted hi hs h4, ?_⟩, by dsimp only; omega, rfl, ?_⟩
          · refine (ins_perm x out i).trans ?_
            dsimp only
            rw [take_snoc 0 h2, hb]
            exact hp.append_right [x]
          refine ⟨?_, ?_, rfl⟩ <;> repeat' (first | exact trivial | exact entV_refl _ | exact wrap_succ (by omega) | exact ints_ent (by simp) | rfl | apply And.intro)
    · conv => whnf
      have h1 : k = l.length := by simp at h1; omega
      subst h1
      rw [List.take_length] at hp
      rw [← sort_uniq hp hs]
      exact entC_refl (intsX out)
end Go.Proofs.Ytbhmplbckkipjaa
