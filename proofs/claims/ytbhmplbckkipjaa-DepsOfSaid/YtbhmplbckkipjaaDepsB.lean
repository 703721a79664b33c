/- Rows of edges in order, each once. -/
import Derived.Test.YtbhmplbckkipjaaEdgesA
import Derived.Test.YtbhmplbckkipjaaDelay3
namespace Go.Proofs.Ytbhmplbckkipjaa
open Go Go.Eng Go.RowKit
set_option maxRecDepth 100000
set_option linter.unusedVariables false
set_option linter.unusedSimpArgs false
theorem ltE_irr (x : Eg) : ltE x x = false := by simp [ltE]
theorem ltE_tr {x y z : Eg} (h1 : ltE x y = true) (h2 : ltE y z = true) : ltE x z = true := by simp [ltE] at *; omega
theorem ltE_asy {x y : Eg} (h1 : ltE x y = true) : ltE y x = false := by simp [ltE] at *; omega
theorem ltE_tot' {x y : Eg} (h1 : ltE y x = false) (h2 : ¬ x = y) : ltE x y = true := by
  cases h : ltE x y
  · exact absurd (ltE_tot x y h h1) h2
  · rfl
abbrev OnceE (l : List Eg) : Prop := l.Pairwise fun x y => ltE x y = true
theorem once_uniq : ∀ {a b : List Eg}, OnceE a → OnceE b → (∀ x, x ∈ a ↔ x ∈ b) → a = b
  | [], [], _, _, _ => rfl
  | [], y :: b, _, _, h => absurd ((h y).2 (by simp)) (by simp)
  | x :: a, [], _, _, h => absurd ((h x).1 (by simp)) (by simp)
  | x :: a, y :: b, ha, hb, h => by
    have ha' := List.pairwise_cons.1 ha
    have hb' := List.pairwise_cons.1 hb
    have e : x = y := by
      rcases List.mem_cons.1 ((h x).1 (by simp)) with e | h1
      · exact e
      · rcases List.mem_cons.1 ((h y).2 (by simp)) with e | h2
        · exact e.symm
        · have h3 := hb'.1 x h1
          have h4 := ltE_asy (ha'.1 y h2)
          rw [h4] at h3; cases h3
    subst e
    rw [once_uniq ha'.2 hb'.2 fun z => ?_]
    constructor
    · intro hz
      rcases List.mem_cons.1 ((h z).1 (by simp [hz])) with e | h1
      · have := ha'.1 z hz
        rw [e, ltE_irr] at this; cases this
      · exact h1
    · intro hz
      rcases List.mem_cons.1 ((h z).2 (by simp [hz])) with e | h1
      · have := hb'.1 z hz
        rw [e, ltE_irr] at this; cases this
      · exact h1
theorem sortE_sorted (l : List Eg) : (sortE l).Pairwise fun x y => ltE y x = false := by
  have := List.pairwise_mergeSort (le := fun x y => !ltE y x) (fun a b c h1 h2 => by simp [ltE] at *; omega) (fun a b => by simp [ltE]; omega) l
  refine this.imp fun h => by simpa using h
theorem sortE_mem (l : List Eg) (x : Eg) : x ∈ sortE l ↔ x ∈ l := List.mem_mergeSort ..
theorem comp_once (l : List Eg) (hs : l.Pairwise fun x y => ltE y x = false) : ∀ k, k ≤ l.length → OnceE (compAt l k) ∧ ∀ x, x ∈ compAt l k ↔ x ∈ l.take k
  | 0, _ => by simp [compAt, OnceE]
  | k + 1, hk => by
    obtain ⟨h1, h2⟩ := comp_once l hs k (by omega)
    have hsp : ∀ i j, i < j → j < l.length → ltE (l.getD j default) (l.getD i default) = false := fun i j hij hj => by
      have := List.pairwise_iff_getElem.1 hs i j (by omega) hj hij
      rw [List.getD_eq_getElem?_getD, List.getD_eq_getElem?_getD, List.getElem?_eq_getElem hj, List.getElem?_eq_getElem (show i < l.length by omega)]
      exact this
    have htk : l.take (k + 1) = l.take k ++ [l.getD k default] := take_snocE default (by omega)
    rw [compAt]
    by_cases hc : 1 ≤ k ∧ l.getD k default = l.getD (k - 1) default
    · rw [if_pos hc]
      refine ⟨h1, fun x => ?_⟩
      rw [h2, htk, List.mem_append, List.mem_singleton]
      refine ⟨.inl, fun h => h.elim id fun e => ?_⟩
      rw [e, hc.2, List.getD_eq_getElem?_getD, List.getElem?_eq_getElem (show k - 1 < l.length by omega)]
      exact List.mem_take_iff_getElem.2 ⟨k - 1, by omega, rfl⟩
    · rw [if_neg hc]
      refine ⟨List.pairwise_append.2 ⟨h1, List.pairwise_singleton _ _, fun x hx y hy => ?_⟩, fun x => ?_⟩
      · rw [List.mem_singleton] at hy
        subst hy
        obtain ⟨j, hj, e⟩ := List.mem_take_iff_getElem.1 ((h2 x).1 hx)
        have hjk : j < k := by omega
        have hxj : x = l.getD j default := by rw [List.getD_eq_getElem?_getD, List.getElem?_eq_getElem (show j < l.length by omega)]; exact e.symm
        refine ltE_tot' (by rw [hxj]; exact hsp j k hjk (by omega)) fun e2 => hc ⟨by omega, ?_⟩
        have h3 := hsp (k - 1) k (by omega) (by omega)
        refine ltE_tot _ _ h3 ?_
        by_cases hjk1 : j = k - 1
        · rw [← e2, hxj, hjk1]; exact ltE_irr _
        · have h4 := hsp j (k - 1) (by omega) (by omega)
          rw [← hxj, e2] at h4; exact h4
      · rw [List.mem_append, h2, htk, List.mem_append]
def unqE (l : List Eg) : List Eg := compL (sortE l)
theorem unq_once (l : List Eg) : OnceE (unqE l) := (comp_once _ (sortE_sorted l) _ (Nat.le_refl _)).1
theorem unq_mem (l : List Eg) (x : Eg) : x ∈ unqE l ↔ x ∈ l := by
  rw [unqE, compL, (comp_once _ (sortE_sorted l) _ (Nat.le_refl _)).2, List.take_length, sortE_mem]
/-- A row without doubles, sorted, is in order and once. -/
theorem sort_once (l : List Eg) (h : l.Nodup) : OnceE (sortE l) := by
  have h1 : (sortE l).Nodup := (List.mergeSort_perm l _).nodup_iff.2 h
  have h2 := List.pairwise_and_iff.2 ⟨h1, sortE_sorted l⟩
  exact h2.imp fun ⟨a, b⟩ => ltE_tot' b a
end Go.Proofs.Ytbhmplbckkipjaa

/- The reference's sort of edges. -/
namespace Go.Proofs.Ytbhmplbckkipjaa
open Go Go.Eng Go.RowKit
set_option maxRecDepth 100000
set_option maxHeartbeats 4000000
set_option linter.unusedVariables false
set_option linter.unusedSimpArgs false
theorem rowsE_drop (l : List Eg) (i : Nat) : rowsOf (l.length - (i : Int).toNat) 2 (fun j => (fun i j => nthC (encEg (l.getD i default)) j) ((i : Int).toNat + j)) = (l.drop i).map encEg := by
  apply List.ext_getElem
  · simp [rowsOf]
  · intro j h1 h2
    have hi : i + j < l.length := by simp [rowsOf] at h1; omega
    simp [rowsOf, List.getD, hi]
    rfl
theorem rowsE_take (l : List Eg) (i : Nat) (h : i ≤ l.length) : rowsOf (i : Int).toNat 2 (fun i j => nthC (encEg (l.getD i default)) j) = (l.take i).map encEg := by
  apply List.ext_getElem
  · simp [rowsOf]; omega
  · intro j h1 h2
    have hi : j < l.length := by simp [rowsOf] at h1; omega
    simp [rowsOf, List.getD, hi]
    rfl
theorem nil_egs : entC (.v (.slice none 0 0)) (egsX []) := by first | exact nil_ints | exact ⟨rfl, rfl⟩ | trivial
def InsE (x : Eg) (out : List Eg) (i : Nat) : Prop := i ≤ out.length ∧ ∀ j, j < i → ltE (out.getD j default) x = true
theorem insE_once {x : Eg} {out : List Eg} {i : Nat} (hi : InsE x out i) (hs : OnceE out) (h1 : i < out.length → ltE (out.getD i default) x = false) (h2 : i < out.length → out.getD i default ≠ x) : OnceE (out.take i ++ x :: out.drop i) := by
  have hg : ∀ j (h : j < out.length), out[j] = out.getD j default := fun j h => by rw [List.getD_eq_getElem?_getD, List.getElem?_eq_getElem h]; rfl
  have hlo : ∀ y ∈ out.take i, ltE y x = true := fun y hy => by
    obtain ⟨j, hj, e⟩ := List.mem_take_iff_getElem.1 hy
    rw [← e, hg]; exact hi.2 j (by omega)
  have hhi : ∀ y ∈ out.drop i, ltE x y = true := fun y hy => by
    obtain ⟨j, hj, e⟩ := List.mem_drop_iff_getElem.1 hy
    have hil : i < out.length := by omega
    have h3 : ltE x (out.getD i default) = true := ltE_tot' (h1 hil) fun e => h2 hil e.symm
    by_cases hj0 : j = 0
    · subst hj0; rw [← e, hg]; simpa using h3
    · have := List.pairwise_iff_getElem.1 hs i (i + j) hil (by omega) (by omega)
      rw [hg] at this
      rw [← e]
      exact ltE_tr h3 this
  refine List.pairwise_append.2 ⟨hs.sublist (List.take_sublist ..), List.pairwise_cons.2 ⟨hhi, hs.sublist (List.drop_sublist ..)⟩, fun a ha b hb => ?_⟩
  rcases List.mem_cons.1 hb with rfl | hb
  · exact hlo a ha
  · exact ltE_tr (hlo a ha) (hhi b hb)
theorem insE_mem (x : Eg) (out : List Eg) (i : Nat) (z : Eg) : z ∈ out.take i ++ x :: out.drop i ↔ z ∈ out ∨ z = x := by
  conv => rhs; rw [← List.take_append_drop i out]
  simp only [List.mem_append, List.mem_cons]
  constructor
  · rintro (h | h | h)
    · exact .inl (.inl h)
    · exact .inr h
    · exact .inl (.inr h)
  · rintro ((h | h) | h)
    · exact .inl h
    · exact .inr (.inr h)
    · exact .inr (.inl h)
theorem rSort_fn (l : List Eg) (hl : l.length ≤ 1000000) : Eng.Fn Try.prog 71 [.c (egsX l)] (Tells (.c (egsX (unqE l)))) := by
  refine Eng.Fn.ofZ tab_ok Try.func71 (by kernel_rfl) (by kernel_rfl) trivial (fun w0 => ?_)
  conv => whnf
  refine loopl tab_ok (fun (i : Nat × List Eg) => i.1 ≤ l.length ∧ i.2.length ≤ i.1 ∧ OnceE i.2 ∧ ∀ x, x ∈ i.2 ↔ x ∈ l.take i.1) (fun i => [(3, .c (egsX i.2)), (7, .c (egsX l)), (8, .c (.i .i64 l.length)), (9, .c (.i .i64 i.1))]) (fun i => []) (fun i => l.length - i.1) (0, []) _ rfl ⟨by omega, by simp, List.Pairwise.nil, by simp⟩ ?_ (fun i hi => ?_)
  · refine ⟨?_, ?_, rfl⟩ <;> repeat' (first | exact trivial | exact entV_refl _ | exact nil_egs | rfl | apply And.intro)
  · obtain ⟨k, out⟩ := i
    obtain ⟨hk, hol, hs, hp⟩ := hi
    dsimp only at hk hol hs hp
    conv => whnf
    refine And.intro (fun h1 => ?_) (fun h1 => ?_)
    · have h1 : k < l.length := by simp at h1; omega
      have htk : l.take (k + 1) = l.take k ++ [l.getD k default] := take_snocE default h1
      conv => whnf
      refine ⟨by omega, ?_⟩
      conv => whnf
      generalize hb : l.getD (Int.toNat (k : Int)) default = x
      have hb : l.getD k default = x := hb
      rw [hb] at htk
      refine loopi tab_ok (fun i => InsE x out i) (fun i => [(3, .c (egsX out)), (5, .c (.p 0 0)), (6, .c (.i .i64 i)), (7, .c (egsX l)), (8, .c (.i .i64 l.length)), (9, .c (.i .i64 k))]) (fun i => [.cells 106 (encEg x)]) (fun i => out.length - i) 0 _ rfl ⟨Nat.zero_le _, fun j h => by omega⟩ ?_ (fun i hi => ?_)
      · refine ⟨?_, ?_, rfl⟩ <;> repeat' (first | exact trivial | exact entV_refl _ | exact entL_refl _ | exact ⟨rfl, rfl⟩ | rfl | apply And.intro)
      · conv => whnf
        refine drawx_pure tab_ok (by kernel_rfl) (by kernel_rfl) ?_
        conv => whnf
        refine And.intro (fun h3 => ?_) (fun h3 => ?_)
        · have h3 : i < out.length := by simp at h3; omega
          conv => whnf
          refine ⟨by omega, ?_⟩
          conv => whnf
          have hround : ltE (out.getD i default) x = true → InsE x out (i + 1) := fun h => ⟨by omega, fun j hj => by
            by_cases e : j = i
            · rw [e]; exact h
            · exact hi.2 j (by omega)⟩
          refine And.intro (fun h4 => ?_) (fun h4 => ?_)
          · have h4 : ltE (out.getD i default) x = true := by simp at h4; simp [ltE, h4]
            conv => whnf
            refine ⟨i + 1, hround h4, by omega, rfl, ?_⟩
            refine ⟨?_, ?_, rfl⟩ <;> repeat' (first | exact trivial | exact entV_refl _ | exact entL_refl _ | exact ⟨rfl, rfl⟩ | exact wrap_succ (by omega) | exact row_ent (by simp [encEg]) | rfl | apply And.intro)
          · have h4 : ¬ (out.getD i default).fr < x.fr := of_decide_eq_false h4
            conv => whnf
            refine ⟨by omega, ?_⟩
            conv => whnf
            refine And.intro (fun h5 => ?_) (fun h5 => ?_)
            · have h5 : (out.getD i default).fr = x.fr := eq_of_beq h5
              conv => whnf
              refine ⟨by omega, ?_⟩
              conv => whnf
              refine And.intro (fun h6 => ?_) (fun h6 => ?_)
              · have h6 : (out.getD i default).to < x.to := of_decide_eq_true h6
                have h4 : ltE (out.getD i default) x = true := decide_eq_true (.inr ⟨h5, h6⟩)
                conv => whnf
                refine ⟨i + 1, hround h4, by omega, rfl, ?_⟩
                refine ⟨?_, ?_, rfl⟩ <;> repeat' (first | exact trivial | exact entV_refl _ | exact entL_refl _ | exact ⟨rfl, rfl⟩ | exact wrap_succ (by omega) | exact row_ent (by simp [encEg]) | rfl | apply And.intro)
              · have h6 : ¬ (out.getD i default).to < x.to := of_decide_eq_false h6
                have h6 : ltE (out.getD i default) x = false := decide_eq_false (by omega)
                conv => whnf
                refine drawx_pure tab_ok (by kernel_rfl) (by kernel_rfl) ?_
                conv => whnf
                refine And.intro (fun g1 => ?_) (fun g1 => absurd h3 (by simp at g1; omega))
                conv => whnf
                refine ⟨by omega, ?_⟩
                conv => whnf
                rw [eqE]
                refine And.intro (fun g2 => ?_) (fun g2 => ?_)
                · have g2 : out.getD i default = x := of_decide_eq_true g2
                  conv => whnf
                  refine labx_go ⟨(k + 1, out), ⟨by dsimp only; omega, by dsimp only; omega, hs, fun z => ?_⟩, by dsimp only; omega, rfl, ?_⟩
                  · dsimp only
                    rw [htk, List.mem_append, List.mem_singleton, ← hp]
                    refine ⟨.inl, fun h => h.elim id fun e => ?_⟩
                    rw [e, ← g2, List.getD_eq_getElem?_getD, List.getElem?_eq_getElem h3]
                    exact List.getElem_mem h3
                  refine ⟨?_, ?_, rfl⟩ <;> repeat' (first | exact trivial | exact entV_refl _ | exact wrap_succ (by omega) | exact row_ent (by simp [encEg]) | rfl | apply And.intro)
                  all_goals trace_state
                · have g2 : ¬ out.getD i default = x := of_decide_eq_false g2
                  have hnl : i < out.length → ltE (out.getD i default) x = false := fun _ => h6
                  have hne : i < out.length → out.getD i default ≠ x := fun _ => g2
                  have hnd : OnceE (out.take i ++ x :: out.drop i) := insE_once hi hs hnl hne
                  conv => whnf
                  refine drawx_plan tab_ok [] (.take 0 (.take 1 (.take 2 (.take 3 (.take 4 (.take 6 (.take 7 (.take 8 (.one 5 (.one 9 (.one 10 (.take 11 .done)))))))))))) (by kernel_rfl) (by kernel_rfl) (by kernel_rfl) ?_
                  conv => whnf
                  have hi1 := hi.1
                  refine ⟨by omega, ?_⟩
                  conv => whnf
                  refine ⟨by omega, ?_⟩
                  conv => whnf
                  rw [rowsE_drop]
                  refine ⟨by simp only [List.length_map, List.length_drop, List.length_cons, List.length_nil]; omega, ?_⟩
                  conv => whnf
                  rw [rowsE_take out i hi1]
                  refine And.intro (fun h => absurd h (by simp)) (fun _ => ⟨by simp only [List.length_map, List.length_drop, List.length_cons, List.length_nil, List.length_append, List.length_take]; omega, ?_⟩)
                  conv => whnf
                  refine labx_gh (.frz 2) ?_
                  conv => whnf
                  refine labx_go ⟨(k + 1, out.take i ++ x :: out.drop i), ⟨by dsimp only; omega, by dsimp only; simp only [List.length_append, List.length_cons, List.length_take, List.length_drop]; omega, hnd, fun z => ?_⟩, by dsimp only; omega, rfl, ?_⟩
                  · dsimp only
                    rw [insE_mem, hp, htk, List.mem_append, List.mem_singleton]
                  refine ⟨?_, ?_, rfl⟩ <;> repeat' (first | exact trivial | exact entV_refl _ | exact wrap_succ (by omega) | exact row_ent (by simp [encEg]) | rfl | apply And.intro)
                  all_goals trace_state
            · have h5 : ¬ (out.getD i default).fr = x.fr := by simpa using h5
              have h6 : ltE (out.getD i default) x = false := decide_eq_false (by omega)
              conv => whnf
              refine drawx_pure tab_ok (by kernel_rfl) (by kernel_rfl) ?_
              conv => whnf
              refine And.intro (fun g1 => ?_) (fun g1 => absurd h3 (by simp at g1; omega))
              conv => whnf
              refine ⟨by omega, ?_⟩
              conv => whnf
              rw [eqE]
              refine And.intro (fun g2 => ?_) (fun g2 => ?_)
              · have g2 : out.getD i default = x := of_decide_eq_true g2
                conv => whnf
                refine labx_go ⟨(k + 1, out), ⟨by dsimp only; omega, by dsimp only; omega, hs, fun z => ?_⟩, by dsimp only; omega, rfl, ?_⟩
                · dsimp only
                  rw [htk, List.mem_append, List.mem_singleton, ← hp]
                  refine ⟨.inl, fun h => h.elim id fun e => ?_⟩
                  rw [e, ← g2, List.getD_eq_getElem?_getD, List.getElem?_eq_getElem h3]
                  exact List.getElem_mem h3
                refine ⟨?_, ?_, rfl⟩ <;> repeat' (first | exact trivial | exact entV_refl _ | exact wrap_succ (by omega) | exact row_ent (by simp [encEg]) | rfl | apply And.intro)
                all_goals trace_state
              · have g2 : ¬ out.getD i default = x := of_decide_eq_false g2
                have hnl : i < out.length → ltE (out.getD i default) x = false := fun _ => h6
                have hne : i < out.length → out.getD i default ≠ x := fun _ => g2
                have hnd : OnceE (out.take i ++ x :: out.drop i) := insE_once hi hs hnl hne
                conv => whnf
                refine drawx_plan tab_ok [] (.take 0 (.take 1 (.take 2 (.take 3 (.take 4 (.take 6 (.take 7 (.take 8 (.one 5 (.one 9 (.one 10 (.take 11 .done)))))))))))) (by kernel_rfl) (by kernel_rfl) (by kernel_rfl) ?_
                conv => whnf
                have hi1 := hi.1
                refine ⟨by omega, ?_⟩
                conv => whnf
                refine ⟨by omega, ?_⟩
                conv => whnf
                rw [rowsE_drop]
                refine ⟨by simp only [List.length_map, List.length_drop, List.length_cons, List.length_nil]; omega, ?_⟩
                conv => whnf
                rw [rowsE_take out i hi1]
                refine And.intro (fun h => absurd h (by simp)) (fun _ => ⟨by simp only [List.length_map, List.length_drop, List.length_cons, List.length_nil, List.length_append, List.length_take]; omega, ?_⟩)
                conv => whnf
                refine labx_gh (.frz 2) ?_
                conv => whnf
                refine labx_go ⟨(k + 1, out.take i ++ x :: out.drop i), ⟨by dsimp only; omega, by dsimp only; simp only [List.length_append, List.length_cons, List.length_take, List.length_drop]; omega, hnd, fun z => ?_⟩, by dsimp only; omega, rfl, ?_⟩
                · dsimp only
                  rw [insE_mem, hp, htk, List.mem_append, List.mem_singleton]
                refine ⟨?_, ?_, rfl⟩ <;> repeat' (first | exact trivial | exact entV_refl _ | exact wrap_succ (by omega) | exact row_ent (by simp [encEg]) | rfl | apply And.intro)
                all_goals trace_state
        · have h3 : ¬ i < out.length := by simp at h3; omega
          have hnl : i < out.length → ltE (out.getD i default) x = false := fun h => absurd h h3
          have hne : i < out.length → out.getD i default ≠ x := fun h => absurd h h3
          conv => whnf
          refine drawx_pure tab_ok (by kernel_rfl) (by kernel_rfl) ?_
          conv => whnf
          refine And.intro (fun g1 => absurd g1 (by simp; omega)) (fun g1 => ?_)
          have hnd : OnceE (out.take i ++ x :: out.drop i) := insE_once hi hs hnl hne
          conv => whnf
          refine drawx_plan tab_ok [] (.take 0 (.take 1 (.take 2 (.take 3 (.take 4 (.take 6 (.take 7 (.take 8 (.one 5 (.one 9 (.one 10 (.take 11 .done)))))))))))) (by kernel_rfl) (by kernel_rfl) (by kernel_rfl) ?_
          conv => whnf
          have hi1 := hi.1
          refine ⟨by omega, ?_⟩
          conv => whnf
          refine ⟨by omega, ?_⟩
          conv => whnf
          rw [rowsE_drop]
          refine ⟨by simp only [List.length_map, List.length_drop, List.length_cons, List.length_nil]; omega, ?_⟩
          conv => whnf
          rw [rowsE_take out i hi1]
          refine And.intro (fun h => absurd h (by simp)) (fun _ => ⟨by simp only [List.length_map, List.length_drop, List.length_cons, List.length_nil, List.length_append, List.length_take]; omega, ?_⟩)
          conv => whnf
          refine labx_gh (.frz 2) ?_
          conv => whnf
          refine labx_go ⟨(k + 1, out.take i ++ x :: out.drop i), ⟨by dsimp only; omega, by dsimp only; simp only [List.length_append, List.length_cons, List.length_take, List.length_drop]; omega, hnd, fun z => ?_⟩, by dsimp only; omega, rfl, ?_⟩
          · dsimp only
            rw [insE_mem, hp, htk, List.mem_append, List.mem_singleton]
          refine ⟨?_, ?_, rfl⟩ <;> repeat' (first | exact trivial | exact entV_refl _ | exact wrap_succ (by omega) | exact row_ent (by simp [encEg]) | rfl | apply And.intro)
          all_goals trace_state
    · conv => whnf
      have h1 : k = l.length := by simp at h1; omega
      subst h1
      rw [List.take_length] at hp
      rw [← once_uniq hs (unq_once l) fun x => (hp x).trans (unq_mem l x).symm]
      exact entC_refl (egsX out)
end Go.Proofs.Ytbhmplbckkipjaa
