/- How long answers took: numbers in order, and in boxes. -/
import Derived.Test.YtehbalkhboedeaaDelay2
import Derived.Test.YtehbalkhboedeaaEngGl
namespace Go.Proofs.Ytehbalkhboedeaa
open Go Go.Eng Go.RowKit
set_option maxRecDepth 100000
set_option maxHeartbeats 4000000
set_option linter.unusedVariables false
set_option linter.unusedSimpArgs false
theorem nil_ints : entC (.v (.slice none 0 0)) (intsX []) := ⟨rfl, rfl⟩
theorem sort_uniq {l m : List Int} (hp : m.Perm l) (hs : m.Pairwise (· ≤ ·)) : m = sortL l := by
  refine List.Perm.eq_of_pairwise (le := (· ≤ ·)) (fun a b _ _ h1 h2 => Int.le_antisymm h1 h2) hs ?_ (hp.trans (List.mergeSort_perm l _).symm)
  have := List.pairwise_mergeSort (le := fun (a b : Int) => decide (a ≤ b)) (fun a b c h1 h2 => by simp at *; omega) (fun a b => by simp; omega) l
  exact this.imp fun h => by simpa using h
theorem sort_sorted (l : List Int) : (sortL l).Pairwise (· ≤ ·) := by
  have := List.pairwise_mergeSort (le := fun (a b : Int) => decide (a ≤ b)) (fun a b c h1 h2 => by simp at *; omega) (fun a b => by simp; omega) l
  exact this.imp fun h => by simpa using h
theorem sort_perm (l : List Int) : (sortL l).Perm l := List.mergeSort_perm l _
def InsI (x : Int) (out : List Int) (i : Nat) : Prop := i ≤ out.length ∧ ∀ j, i ≤ j → j < out.length → x < out.getD j 0
theorem pw_get {l : List Int} (h : l.Pairwise (· ≤ ·)) {i j : Nat} (hij : i ≤ j) (hj : j < l.length) : l.getD i 0 ≤ l.getD j 0 := by
  have hi : i < l.length := by omega
  rw [List.getD_eq_getElem?_getD, List.getD_eq_getElem?_getD, List.getElem?_eq_getElem hi, List.getElem?_eq_getElem hj]
  simp only [Option.getD_some]
  rcases Nat.lt_or_eq_of_le hij with h1 | h1
  · exact List.pairwise_iff_getElem.1 h i j hi hj h1
  · subst h1; exact Int.le_refl _
theorem ins_sorted {x : Int} {out : List Int} {i : Nat} (h : InsI x out i) (hs : out.Pairwise (· ≤ ·)) (hx : i = 0 ∨ out.getD (i - 1) 0 ≤ x) : (out.take i ++ x :: out.drop i).Pairwise (· ≤ ·) := by
  have hs' : (out.take i ++ out.drop i).Pairwise (· ≤ ·) := by rw [List.take_append_drop]; exact hs
  obtain ⟨h1, h2, h3⟩ := List.pairwise_append.1 hs'
  have hxd : ∀ y ∈ out.drop i, x ≤ y := fun y hy => by
    obtain ⟨j, hj, rfl⟩ := List.mem_iff_getElem.1 hy
    simp only [List.length_drop] at hj
    have := h.2 (i + j) (by omega) (by omega)
    rw [List.getD_eq_getElem?_getD, List.getElem?_eq_getElem (by omega)] at this
    simp only [List.getElem_drop]
    simp only [Option.getD_some] at this
    omega
  refine List.pairwise_append.2 ⟨h1, List.pairwise_cons.2 ⟨hxd, h2⟩, fun a ha b hb => ?_⟩
  rcases List.mem_cons.1 hb with rfl | hb
  · obtain ⟨j, hj, rfl⟩ := List.mem_iff_getElem.1 ha
    have hj' : j < i ∧ j < out.length := by rw [List.length_take] at hj; omega
    rcases hx with h0 | h0
    · omega
    · have hi := h.1
      have := pw_get hs (i := j) (j := i - 1) (by omega) (by omega)
      rw [List.getD_eq_getElem?_getD, List.getElem?_eq_getElem hj'.2] at this
      simp only [List.getElem_take]
      simp only [Option.getD_some] at this
      omega
  · exact h3 a ha b hb
theorem ins_perm (x : Int) (out : List Int) (i : Nat) : (out.take i ++ x :: out.drop i).Perm (out ++ [x]) := by
  refine List.perm_middle.trans ?_
  rw [List.take_append_drop]
  exact (List.perm_append_singleton x out).symm
/-- The boxes. -/
def boxL (l : List Int) (w : Int) (m : Nat) : List Int := (List.range m).map fun (i : Nat) => (l.countP (fun x => x / w == (i : Int)) : Int)
def okB (l : List Int) (w : Int) : Prop := l.length ≠ 0 ∧ 1 ≤ w ∧ ∀ x ∈ l, 0 ≤ x ∧ x / w < 1000
def maxL (l : List Int) : Int := l.foldl (fun a x => if a < x then x else a) 0
open Classical in
noncomputable def boxes (l : List Int) (w : Int) : List Int := if okB l w then boxL l w (maxL l / w + 1).toNat else []
theorem foldmax (l : List Int) : ∀ a : Int, (a ≤ l.foldl (fun a x => if a < x then x else a) a ∧ ∀ x ∈ l, x ≤ l.foldl (fun a x => if a < x then x else a) a) ∧ (l.foldl (fun a x => if a < x then x else a) a = a ∨ l.foldl (fun a x => if a < x then x else a) a ∈ l) := by
  induction l with
  | nil => intro a; simp
  | cons x l ih =>
    intro a
    simp only [List.foldl_cons]
    obtain ⟨⟨h1, h2⟩, h3⟩ := ih (if a < x then x else a)
    refine ⟨⟨?_, fun y hy => ?_⟩, ?_⟩
    · split at h1 <;> rename_i hc <;> simp only [hc, if_true, if_false] <;> omega
    · rcases List.mem_cons.1 hy with rfl | hy
      · split at h1 <;> rename_i hc <;> simp only [hc, if_true, if_false] <;> omega
      · exact h2 y hy
    · rcases h3 with h3 | h3
      · by_cases hc : a < x
        · right; rw [h3, if_pos hc]; simp
        · left; rw [h3, if_neg hc]
      · right; simp [h3]
theorem box_sum (w : Int) (m : Nat) : ∀ l : List Int, (∀ x ∈ l, 0 ≤ x / w ∧ x / w < m) → (boxL l w m).sum = l.length := by
  have hz : ∀ (m : Nat), ((List.range m).map fun _ => (0 : Int)).sum = 0 := fun m => by
    induction m with
    | zero => rfl
    | succ m ih => rw [List.range_succ, List.map_append, List.sum_append, ih]; rfl
  have hone : ∀ (m : Nat) (k : Int), 0 ≤ k → ((List.range m).map fun (i : Nat) => if k == (i : Int) then (1 : Int) else 0).sum = if k < m then 1 else 0 := fun m k hk => by
    induction m with
    | zero => simp; omega
    | succ m ih =>
      rw [List.range_succ, List.map_append, List.sum_append, ih]
      simp only [List.map_cons, List.map_nil, List.sum_cons, List.sum_nil, beq_iff_eq]
      repeat' split
      all_goals omega
  have hadd : ∀ (m : Nat) (f g : Nat → Int), ((List.range m).map fun i => f i + g i).sum = ((List.range m).map f).sum + ((List.range m).map g).sum := fun m f g => by
    induction m with
    | zero => rfl
    | succ m ih => simp only [List.range_succ, List.map_append, List.sum_append, ih, List.map_cons, List.map_nil, List.sum_cons, List.sum_nil]; omega
  intro l
  induction l with
  | nil => intro _; simpa [boxL] using hz m
  | cons x l ih =>
    intro h
    have h1 := ih fun y hy => h y (by simp [hy])
    have hx := h x (by simp)
    have : boxL (x :: l) w m = (List.range m).map fun (i : Nat) => ((l.countP (fun y => y / w == (i : Int)) : Nat) : Int) + (if x / w == (i : Int) then (1 : Int) else 0) := by
      unfold boxL
      apply List.map_congr_left
      intro i _
      rw [List.countP_cons]
      split <;> simp
    rw [this, hadd, hone m _ hx.1, if_pos hx.2]
    unfold boxL at h1
    rw [h1]
    simp
theorem boxes_len (l : List Int) (w : Int) : (boxes l w).length = 0 ∨ (boxes l w).sum = l.length := by
  unfold boxes
  split
  · rename_i h
    right
    refine box_sum w _ l fun x hx => ?_
    obtain ⟨h0, h1, h2⟩ := h
    have hm := (foldmax l 0).1.2 x hx
    have h4 : x / w ≤ maxL l / w := Int.ediv_le_ediv (by omega) hm
    have h5 : 0 ≤ x / w := Int.ediv_nonneg (h2 x hx).1 (by omega)
    exact ⟨h5, by omega⟩
  · left; rfl
theorem rowsOf_drop (l : List Int) (i : Nat) : rowsOf (l.length - (i : Int).toNat) 1 (fun j => (fun i _ => XC.i .i64 (l.getD i 0)) ((i : Int).toNat + j)) = (l.drop i).map fun n => [XC.i .i64 n] := by
  apply List.ext_getElem
  · simp [rowsOf]
  · intro j h1 h2
    have hi : i + j < l.length := by simp [rowsOf] at h1; omega
    simp [rowsOf, List.getD, hi]
theorem rowsOf_take (l : List Int) (i : Nat) (h : i ≤ l.length) : rowsOf (i : Int).toNat 1 (fun i _ => XC.i .i64 (l.getD i 0)) = (l.take i).map fun n => [XC.i .i64 n] := by
  apply List.ext_getElem
  · simp [rowsOf]; omega
  · intro j h1 h2
    have hi : j < l.length := by simp [rowsOf] at h1; omega
    simp [rowsOf, List.getD, hi]
end Go.Proofs.Ytehbalkhboedeaa
