/- Rows of edges in order, each once. -/
import Derived.Test.YtehbalkhboedeaaEdgesA
import Derived.Test.YtehbalkhboedeaaDelay3
namespace Go.Proofs.Ytehbalkhboedeaa
open Go Go.Eng Go.RowKit
set_option maxRecDepth 100000
set_option linter.unusedVariables false
set_option linter.unusedSimpArgs false
theorem ltE_irr (x : Eg) : ltE x x = false := by simp [ltE]
theorem ltE_tr {x y z : Eg} (h1 : ltE x y = true) (h2 : ltE y z = true) : ltE x z = true := by simp [ltE] at *; omega
theorem ltE_asy {x y : Eg} (h1 : ltE x y = true) : ltE y x = false := by simp [ltE] at *; omega
theorem ltE_tot' {x y : Eg} (h1 : ltE y x = false) (h2 : ¬ x = y) : ltE x y = true := by
  cases h : ltE x y
  · exact absurd (ltE_tot x y h h1) h2
  · rfl
abbrev OnceE (l : List Eg) : Prop := l.Pairwise fun x y => ltE x y = true
theorem once_uniq : ∀ {a b : List Eg}, OnceE a → OnceE b → (∀ x, x ∈ a ↔ x ∈ b) → a = b
  | [], [], _, _, _ => rfl
  | [], y :: b, _, _, h => absurd ((h y).2 (by simp)) (by simp)
  | x :: a, [], _, _, h => absurd ((h x).1 (by simp)) (by simp)
  | x :: a, y :: b, ha, hb, h => by
    have ha' := List.pairwise_cons.1 ha
    have hb' := List.pairwise_cons.1 hb
    have e : x = y := by
      rcases List.mem_cons.1 ((h x).1 (by simp)) with e | h1
      · exact e
      · rcases List.mem_cons.1 ((h y).2 (by simp)) with e | h2
        · exact e.symm
        · have h3 := hb'.1 x h1
          have h4 := ltE_asy (ha'.1 y h2)
          rw [h4] at h3; cases h3
    subst e
    rw [once_uniq ha'.2 hb'.2 fun z => ?_]
    constructor
    · intro hz
      rcases List.mem_cons.1 ((h z).1 (by simp [hz])) with e | h1
      · have := ha'.1 z hz
        rw [e, ltE_irr] at this; cases this
      · exact h1
    · intro hz
      rcases List.mem_cons.1 ((h z).2 (by simp [hz])) with e | h1
      · have := hb'.1 z hz
        rw [e, ltE_irr] at this; cases this
      · exact h1
theorem sortE_sorted (l : List Eg) : (sortE l).Pairwise fun x y => ltE y x = false := by
  have := List.pairwise_mergeSort (le := fun x y => !ltE y x) (fun a b c h1 h2 => by simp [ltE] at *; omega) (fun a b => by simp [ltE]; omega) l
  refine this.imp fun h => by simpa using h
theorem sortE_mem (l : List Eg) (x : Eg) : x ∈ sortE l ↔ x ∈ l := List.mem_mergeSort ..
theorem comp_once (l : List Eg) (hs : l.Pairwise fun x y => ltE y x = false) : ∀ k, k ≤ l.length → OnceE (compAt l k) ∧ ∀ x, x ∈ compAt l k ↔ x ∈ l.take k
  | 0, _ => by simp [compAt, OnceE]
  | k + 1, hk => by
    obtain ⟨h1, h2⟩ := comp_once l hs k (by omega)
    have hsp : ∀ i j, i < j → j < l.length → ltE (l.getD j default) (l.getD i default) = false := fun i j hij hj => by
      have := List.pairwise_iff_getElem.1 hs i j (by omega) hj hij
      rw [List.getD_eq_getElem?_getD, List.getD_eq_getElem?_getD, List.getElem?_eq_getElem hj, List.getElem?_eq_getElem (show i < l.length by omega)]
      exact this
    have htk : l.take (k + 1) = l.take k ++ [l.getD k default] := take_snocE default (by omega)
    rw [compAt]
    by_cases hc : 1 ≤ k ∧ l.getD k default = l.getD (k - 1) default
    · rw [if_pos hc]
      refine ⟨h1, fun x => ?_⟩
      rw [h2, htk, List.mem_append, List.mem_singleton]
      refine ⟨.inl, fun h => h.elim id fun e => ?_⟩
      rw [e, hc.2, List.getD_eq_getElem?_getD, List.getElem?_eq_getElem (show k - 1 < l.length by omega)]
      exact List.mem_take_iff_getElem.2 ⟨k - 1, by omega, rfl⟩
    · rw [if_neg hc]
      refine ⟨List.pairwise_append.2 ⟨h1, List.pairwise_singleton _ _, fun x hx y hy => ?_⟩, fun x => ?_⟩
      · rw [List.mem_singleton] at hy
        subst hy
        obtain ⟨j, hj, e⟩ := List.mem_take_iff_getElem.1 ((h2 x).1 hx)
        have hjk : j < k := by omega
        have hxj : x = l.getD j default := by rw [List.getD_eq_getElem?_getD, List.getElem?_eq_getElem (show j < l.length by omega)]; exact e.symm
        refine ltE_tot' (by rw [hxj]; exact hsp j k hjk (by omega)) fun e2 => hc ⟨by omega, ?_⟩
        have h3 := hsp (k - 1) k (by omega) (by omega)
        refine ltE_tot _ _ h3 ?_
        by_cases hjk1 : j = k - 1
        · rw [← e2, hxj, hjk1]; exact ltE_irr _
        · have h4 := hsp j (k - 1) (by omega) (by omega)
          rw [← hxj, e2] at h4; exact h4
      · rw [List.mem_append, h2, htk, List.mem_append]
def unqE (l : List Eg) : List Eg := compL (sortE l)
theorem unq_once (l : List Eg) : OnceE (unqE l) := (comp_once _ (sortE_sorted l) _ (Nat.le_refl _)).1
theorem unq_mem (l : List Eg) (x : Eg) : x ∈ unqE l ↔ x ∈ l := by
  rw [unqE, compL, (comp_once _ (sortE_sorted l) _ (Nat.le_refl _)).2, List.take_length, sortE_mem]
/-- A row without doubles, sorted, is in order and once. -/
theorem sort_once (l : List Eg) (h : l.Nodup) : OnceE (sortE l) := by
  have h1 : (sortE l).Nodup := (List.mergeSort_perm l _).nodup_iff.2 h
  have h2 := List.pairwise_and_iff.2 ⟨h1, sortE_sorted l⟩
  exact h2.imp fun ⟨a, b⟩ => ltE_tot' b a
end Go.Proofs.Ytehbalkhboedeaa

/- The reference's sort of edges. -/
namespace Go.Proofs.Ytehbalkhboedeaa
open Go Go.Eng Go.RowKit
set_option maxRecDepth 100000
set_option maxHeartbeats 4000000
set_option linter.unusedVariables false
set_option linter.unusedSimpArgs false
theorem rowsE_drop (l : List Eg) (i : Nat) : rowsOf (l.length - (i : Int).toNat) 2 (fun j => (fun i j => nthC (encEg (l.getD i default)) j) ((i : Int).toNat + j)) = (l.drop i).map encEg := by
  apply List.ext_getElem
  · simp [rowsOf]
  · intro j h1 h2
    have hi : i + j < l.length := by simp [rowsOf] at h1; omega
    simp [rowsOf, List.getD, hi]
    rfl
theorem rowsE_take (l : List Eg) (i : Nat) (h : i ≤ l.length) : rowsOf (i : Int).toNat 2 (fun i j => nthC (encEg (l.getD i default)) j) = (l.take i).map encEg := by
  apply List.ext_getElem
  · simp [rowsOf]; omega
  · intro j h1 h2
    have hi : j < l.length := by simp [rowsOf] at h1; omega
    simp [rowsOf, List.getD, hi]
    rfl
theorem nil_egs : entC (.v (.slice none 0 0)) (egsX []) := by first | exact nil_ints | exact ⟨rfl, rfl⟩ | trivial
def InsE (x : Eg) (out : List Eg) (i : Nat) : Prop := i ≤ out.length ∧ ∀ j, j < i → ltE (out.getD j default) x = true
theorem insE_once {x : Eg} {out : List Eg} {i : Nat} (hi : InsE x out i) (hs : OnceE out) (h1 : i < out.length → ltE (out.getD i default) x = false) (h2 : i < out.length → out.getD i default ≠ x) : OnceE (out.take i ++ x :: out.drop i) := by
  have hg : ∀ j (h : j < out.length), out[j] = out.getD j default := fun j h => by rw [List.getD_eq_getElem?_getD, List.getElem?_eq_getElem h]; rfl
  have hlo : ∀ y ∈ out.take i, ltE y x = true := fun y hy => by
    obtain ⟨j, hj, e⟩ := List.mem_take_iff_getElem.1 hy
    rw [← e, hg]; exact hi.2 j (by omega)
  have hhi : ∀ y ∈ out.drop i, ltE x y = true := fun y hy => by
    obtain ⟨j, hj, e⟩ := List.mem_drop_iff_getElem.1 hy
    have hil : i < out.length := by omega
    have h3 : ltE x (out.getD i default) = true := ltE_tot' (h1 hil) fun e => h2 hil e.symm
    by_cases hj0 : j = 0
    · subst hj0; rw [← e, hg]; simpa using h3
    · have := List.pairwise_iff_getElem.1 hs i (i + j) hil (by omega) (by omega)
      rw [hg] at this
      rw [← e]
      exact ltE_tr h3 this
  refine List.pairwise_append.2 ⟨hs.sublist (List.take_sublist ..), List.pairwise_cons.2 ⟨hhi, hs.sublist (List.drop_sublist ..)⟩, fun a ha b hb => ?_⟩
  rcases List.mem_cons.1 hb with rfl | hb
  · exact hlo a ha
  · exact ltE_tr (hlo a ha) (hhi b hb)
theorem insE_mem (x : Eg) (out : List Eg) (i : Nat) (z : Eg) : z ∈ out.take i ++ x :: out.drop i ↔ z ∈ out ∨ z = x := by
  conv => rhs; rw [← List.take_append_drop i out]
  simp only [List.mem_append, List.mem_cons]
  constructor
  · rintro (h | h | h)
    · exact .inl (.inl h)
    · exact .inr h
    · exact .inl (.inr h)
  · rintro ((h | h) | h)
    · exact .inl h
    · exact .inr (.inr h)
    · exact .inr (.inl h)
end Go.Proofs.Ytehbalkhboedeaa
