/- FootSides: clashing goes both ways. -/
import Derived.Test.YtbhmplbckkipjaaFoot5
namespace Go.Proofs.Ytbhmplbckkipjaa
open Go Go.Eng Go.RowKit
set_option maxRecDepth 100000
set_option maxHeartbeats 4000000
set_option linter.unusedVariables false
set_option linter.unusedSimpArgs false
def opB : Opr := ⟨1, default, 0⟩
def opR : Opr := ⟨2, ⟨1, 1, 1, 1, 4⟩, 0⟩
def opW : Opr := ⟨4, ⟨1, 1, 1, 1, 4⟩, 0⟩
theorem free_yes : freeB [[opB, opR], [opB, opR]] = true := by decide
theorem free_no : freeB [[opB, opR], [opB, opW]] = false := by decide
theorem meet_sym (a b : Ft) : meetB a b = meetB b a := by unfold meetB; rw [Bool.or_comm]
theorem fcP_sym (a b : Ft) : FcP a b ↔ FcP b a := by unfold FcP; omega
theorem clash_sym (a b : Ft) : fclashB a b = fclashB b a := by unfold fclashB; rw [meet_sym a b]; congr 1; exact decide_eq_decide.2 (fcP_sym a b)
theorem clash_read (p q : Pth) : fclashB ⟨p, 1⟩ ⟨q, 1⟩ = false := fclash_no (by unfold FcP; dsimp only; omega)
theorem clash_meet (a b : Ft) (h : fclashB a b = true) : meetB a b = true := by unfold fclashB at h; simp at h; exact h.2
theorem free_one (l : List Opr) : freeB [l] = true := rfl
theorem free_nil : freeB [] = true := rfl
theorem ft_awake : Eng.Fn Try.prog 16 [] (Tells (.c (.b true))) := by
  refine Eng.Fn.of tab_ok Try.func16 (by kernel_rfl) (by kernel_rfl) (fun w0 => ?_)
  conv => whnf
  refine drawx_plan tab_ok [] (.take 0 (.take 1 (.take 2 (.take 3 (.two 4 5 (.one 5 (.one 6 (.one 7 (.done)))) (.one 4 (.one 6 (.one 7 (.done))))))))) (by kernel_rfl) (by kernel_rfl) (by kernel_rfl) ?_
  conv => whnf
  refine ⟨?_, ?_⟩
  all_goals
    conv => whnf
    have h1 := free_fn [[opB, opR], [opB, opR]] (by decide) (by decide)
    rw [free_yes] at h1
    refine callx_lent h1 ⟨rowX_ent encOps [] 1 [[opB, opR], [opB, opR]] ⟨⟨rowX_ent encO default 7 [opB, opR] ?_, trivial⟩, ⟨⟨rowX_ent encO default 7 [opB, opR] ?_, trivial⟩, trivial⟩⟩, trivial⟩ rfl rfl ?_
    · repeat' (first | exact trivial | exact ⟨rfl, rfl⟩ | apply And.intro)
    · repeat' (first | exact trivial | exact ⟨rfl, rfl⟩ | apply And.intro)
    conv => whnf
    refine And.intro (fun _ => ?_) (fun h => absurd h (by decide))
    conv => whnf
    have h2 := free_fn [[opB, opR], [opB, opW]] (by decide) (by decide)
    rw [free_no] at h2
    refine callx_lent h2 ⟨rowX_ent encOps [] 1 [[opB, opR], [opB, opW]] ⟨⟨rowX_ent encO default 7 [opB, opR] ?_, trivial⟩, ⟨⟨rowX_ent encO default 7 [opB, opW] ?_, trivial⟩, trivial⟩⟩, trivial⟩ rfl rfl ?_
    · repeat' (first | exact trivial | exact ⟨rfl, rfl⟩ | apply And.intro)
    · repeat' (first | exact trivial | exact ⟨rfl, rfl⟩ | apply And.intro)
    conv => whnf
    first | rfl | trace_state
theorem fsides_fn (a b : Ft) (l : List Opr) : Eng.Fn Try.prog 5 [.a (encF a), .a (encF b), .c (oprsX l)] (Tells (.c (.b true))) := by
  refine Eng.Fn.of tab_ok Try.func5 (by kernel_rfl) (by kernel_rfl) (fun w0 => ?_)
  conv => whnf
  refine callx_as (.c .bt) ft_awake rfl rfl trivial ?_
  conv => whnf
  refine And.intro (fun h1 => ?_) (fun h1 => ?_)
  · conv => whnf
  · have hl : l.length ≤ 20 := by simp at h1; omega
    conv => whnf
    refine drawx_plan tab_ok [] (.take 0 (.take 1 (.two 2 3 (.one 3 (.one 4 (.one 5 (.done)))) (.one 2 (.one 4 (.one 5 (.done))))))) (by kernel_rfl) (by kernel_rfl) (by kernel_rfl) ?_
    conv => whnf
    refine ⟨?_, ?_⟩
    all_goals
      conv => whnf
      refine drawx_pure tab_ok (by kernel_rfl) (by kernel_rfl) ?_
      conv => whnf
      refine callp_tells (fclash_fn a b) rfl trivial ?_
      conv => whnf
      have h2 := fclash_fn b a
      rw [clash_sym b a] at h2
      refine callp_tells h2 rfl trivial ?_
      conv => whnf
      refine And.intro (fun _ => ?_) (fun h => absurd h (by simp))
      conv => whnf
      refine callp_tells (meet_fn a b) rfl trivial ?_
      conv => whnf
      have h3 := meet_fn b a
      rw [meet_sym b a] at h3
      refine callp_tells h3 rfl trivial ?_
      conv => whnf
      refine And.intro (fun _ => ?_) (fun h => absurd h (by simp))
      conv => whnf
      have h4 := fclash_fn ⟨a.p, 1⟩ ⟨b.p, 1⟩
      rw [clash_read] at h4
      refine callp_lent h4 ⟨?_, ?_, trivial⟩ rfl rfl ?_
      · repeat' (first | exact trivial | exact ⟨rfl, rfl⟩ | exact entC_refl _ | apply And.intro)
      · repeat' (first | exact trivial | exact ⟨rfl, rfl⟩ | exact entC_refl _ | apply And.intro)
      conv => whnf
      refine And.intro (fun _ => ?_) (fun h => absurd h (by simp))
      conv => whnf
      have h5 := fclash_fn a b
      cases hx : fclashB a b
      · rw [hx] at h5
        refine callp_tells h5 rfl trivial ?_
        conv => whnf
        refine And.intro (fun _ => ?_) (fun h => absurd h (by simp))
        conv => whnf
        have h7 := free_fn [l] (by simp) (by intro x hxx; obtain rfl := List.mem_singleton.1 hxx; omega)
        rw [free_one] at h7
        refine callp_lent h7 ⟨rowX_ent encOps [] 1 [l] (entLL_refl _), trivial⟩ rfl rfl ?_
        conv => whnf
        refine And.intro (fun _ => ?_) (fun h => absurd h (by simp))
        conv => whnf
        have h8 := free_fn [] (by simp) (by simp)
        rw [free_nil] at h8
        refine callp_lent h8 ⟨⟨rfl, rfl⟩, trivial⟩ rfl rfl ?_
        conv => whnf
        first | rfl | trace_state
      · rw [hx] at h5
        refine callp_tells h5 rfl trivial ?_
        conv => whnf
        refine And.intro (fun h => absurd h (by simp)) (fun _ => ?_)
        conv => whnf
        have h6 := meet_fn a b
        rw [clash_meet a b hx] at h6
        refine callp_tells h6 rfl trivial ?_
        conv => whnf
        refine And.intro (fun _ => ?_) (fun h => absurd h (by simp))
        conv => whnf
        have h7 := free_fn [l] (by simp) (by intro x hxx; obtain rfl := List.mem_singleton.1 hxx; omega)
        rw [free_one] at h7
        refine callp_lent h7 ⟨rowX_ent encOps [] 1 [l] (entLL_refl _), trivial⟩ rfl rfl ?_
        conv => whnf
        refine And.intro (fun _ => ?_) (fun h => absurd h (by simp))
        conv => whnf
        have h8 := free_fn [] (by simp) (by simp)
        rw [free_nil] at h8
        refine callp_lent h8 ⟨⟨rfl, rfl⟩, trivial⟩ rfl rfl ?_
        conv => whnf
        first | rfl | trace_state
abbrev shO : List Sh := [.int .i64, .int .i64, .int .i64, .int .i64, .int .i64, .int .i64, .int .i64]
theorem fit_op {f : Nat → XC} (h : fitF shO f 0) : ∃ r : Opr, ∀ j, j < 7 → entC (f j) (nthC (encO r) j) := by
  obtain ⟨⟨n0, e0⟩, h⟩ := fitF_int h
  obtain ⟨⟨n1, e1⟩, h⟩ := fitF_int h
  obtain ⟨⟨n2, e2⟩, h⟩ := fitF_int h
  obtain ⟨⟨n3, e3⟩, h⟩ := fitF_int h
  obtain ⟨⟨n4, e4⟩, h⟩ := fitF_int h
  obtain ⟨⟨n5, e5⟩, h⟩ := fitF_int h
  obtain ⟨⟨n6, e6⟩, _⟩ := fitF_int h
  refine ⟨⟨n0, ⟨n1, n2, n3, n4, n5⟩, n6⟩, fun j hj => entC_of_eq ?_⟩
  match j, hj with
  | 0, _ => exact e0
  | 1, _ => exact e1
  | 2, _ => exact e2
  | 3, _ => exact e3
  | 4, _ => exact e4
  | 5, _ => exact e5
  | 6, _ => exact e6
theorem ints_op (f : Nat → Int) : ∃ r : Opr, ∀ j, j < 7 → entC (.i .i64 (f j)) (nthC (encO r) j) := by
  refine ⟨⟨f 0, ⟨f 1, f 2, f 3, f 4, f 5⟩, f 6⟩, fun j hj => entC_of_eq ?_⟩
  match j, hj with
  | 0, _ => rfl
  | 1, _ => rfl
  | 2, _ => rfl
  | 3, _ => rfl
  | 4, _ => rfl
  | 5, _ => rfl
  | 6, _ => rfl
theorem fsides_row (a0 a1 a2 a3 a4 a5 b0 b1 b2 b3 b4 b5 : Int) (lc : Nat) (zc : Nat → Nat → Int)
    (_ : (Lit.int .i64 a0).wf = true) (_ : (Lit.int .i64 a1).wf = true) (_ : (Lit.int .i64 a2).wf = true) (_ : (Lit.int .i64 a3).wf = true) (_ : (Lit.int .i64 a4).wf = true) (_ : (Lit.int .i64 a5).wf = true) (_ : (Lit.int .i64 b0).wf = true) (_ : (Lit.int .i64 b1).wf = true) (_ : (Lit.int .i64 b2).wf = true) (_ : (Lit.int .i64 b3).wf = true) (_ : (Lit.int .i64 b4).wf = true) (_ : (Lit.int .i64 b5).wf = true) (mc : lc ≤ maxLen) (kc : ∀ i, i < lc → ∀ j, j < 7 → (Lit.int .i64 (zc i j)).wf = true) :
    Eng.Fn Try.prog 5 [.a [.i .i64 a0, .i .i64 a1, .i .i64 a2, .i .i64 a3, .i .i64 a4, .i .i64 a5], .a [.i .i64 b0, .i .i64 b1, .i .i64 b2, .i .i64 b3, .i .i64 b4, .i .i64 b5], .c (.rs lc 7 fun i j => .i .i64 (zc i j))] (Tells (.c (.b true))) := by
  obtain ⟨l, hl, el⟩ := rows_ex (enc := encO) default (z := 7) (n := lc) fun i hi => ints_op (zc i)
  exact (fsides_fn ⟨⟨a0, a1, a2, a3, a4⟩, a5⟩ ⟨⟨b0, b1, b2, b3, b4⟩, b5⟩ l).ask ⟨entV_refl _, entV_refl _, el, trivial⟩
end Go.Proofs.Ytbhmplbckkipjaa
