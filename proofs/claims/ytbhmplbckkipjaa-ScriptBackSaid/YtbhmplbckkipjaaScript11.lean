/- The bytes of any plan, and which machines may be; a plan is told again of its bytes: the walks. -/
import Derived.Test.YtbhmplbckkipjaaScript10
import Derived.Test.YtbhmplbckkipjaaScript6
import Derived.Test.YtbhmplbckkipjaaEngBs
namespace Go.Proofs.Ytbhmplbckkipjaa
open Go Go.Eng Go.RowKit
set_option maxRecDepth 100000
set_option maxHeartbeats 4000000
set_option linter.unusedVariables false
set_option linter.unusedSimpArgs false
def fewP (s : ScS) : Prop := (∀ k, k < s.ops.length → (s.ops.getD k []).length ≤ 70) ∧ s.ops.length ≤ 10 ∧ s.pk.length ≤ 500
noncomputable instance (s : ScS) : Decidable (fewP s) := Classical.propDecidable _
theorem few_fn (c : Cf) (s : ScS) (hs : s.ops.length ≤ 9223372036854775807) : Eng.Fn Try.prog 34 [planX c s] (Tells (.c (.b (decide (fewP s))))) := by
  refine Eng.Fn.of tab_ok Try.func34 (by kernel_rfl) (by kernel_rfl) (fun w0 => ?_)
  conv => whnf
  refine loopi tab_ok (fun k => k ≤ s.ops.length ∧ ∀ i, i < k → (s.ops.getD i []).length ≤ 70) (fun k => [(1, .c (.p 0 0)), (6, .c (rowX encOpsS [] 1 s.ops)), (7, .c (.i .i64 s.ops.length)), (8, .c (.i .i64 k))])
    (fun k => [plIt c s]) (fun k => s.ops.length - k) 0 _ rfl ⟨Nat.zero_le _, fun i h => absurd h (Nat.not_lt_zero _)⟩ ?_ (fun k hk => ?_)
  · refine ⟨?_, ?_, rfl⟩ <;> repeat' (first | exact trivial | exact entV_refl _ | exact entC_refl _ | exact ⟨rfl, rfl⟩ | rfl | apply And.intro)
  · obtain ⟨hk, hall⟩ := hk
    conv => whnf
    refine And.intro (fun h1 => ?_) (fun h1 => ?_)
    · have h1 : k < s.ops.length := by simp at h1; omega
      conv => whnf
      refine ⟨by omega, ?_⟩
      conv => whnf
      rw [Int.toNat_natCast]
      refine And.intro (fun h2 => ?_) (fun h2 => ?_)
      · have h2 : ¬ (s.ops.getD k []).length ≤ 70 := by simp only [decide_eq_true_eq] at h2; omega
        have hno : ¬ fewP s := fun h => h2 (h.1 k h1)
        conv => whnf
        simp [hno]
      · have h2 : (s.ops.getD k []).length ≤ 70 := by simp only [decide_eq_false_iff_not] at h2; omega
        conv => whnf
        refine ⟨k + 1, ⟨by omega, fun i hi => ?_⟩, by omega, rfl, ?_⟩
        · by_cases e : i = k
          · rw [e]; exact h2
          · exact hall i (by omega)
        refine ⟨?_, ?_, rfl⟩ <;> repeat' (first | exact trivial | exact entV_refl _ | exact entC_refl _ | exact ⟨rfl, rfl⟩ | exact (wrap_all (by omega) (by omega)).trans (by omega) | rfl | apply And.intro)
    · have h1 : k = s.ops.length := by simp at h1; omega
      subst h1
      conv => whnf
      refine And.intro (fun h2 => ?_) (fun h2 => ?_)
      · have h2 : s.ops.length ≤ 10 := by simp at h2; omega
        conv => whnf
        have : fewP s ↔ s.pk.length ≤ 500 := ⟨fun h => h.2.2, fun h => ⟨hall, h2, h⟩⟩
        exact decide_eq_decide.2 (by rw [this]; omega)
      · have h2 : ¬ s.ops.length ≤ 10 := by simp at h2; omega
        have hno : ¬ fewP s := fun h => h2 h.2.1
        conv => whnf
        simp [hno]
theorem few_small {s : ScS} (h : fewP s) : s.ops.length ≤ 1000000 ∧ s.pk.length ≤ 1000000 ∧ ∀ k, (s.ops.getD k []).length ≤ 1000000 := by
  refine ⟨by have := h.2.1; omega, by have := h.2.2; omega, fun k => ?_⟩
  by_cases hk : k < s.ops.length
  · have := h.1 k hk; omega
  · rw [List.getD_eq_getElem?_getD, List.getElem?_eq_none (by omega)]; simp
theorem puts_fn (cp cq c : Cf) (sp sq : ScS) (h1 : sp.ops.length ≤ 9223372036854775807) (h2 : sq.ops.length ≤ 9223372036854775807) : Eng.Fn Try.prog 8 [planX cp sp, planX cq sq, .a (encCf c)] (Tells (.c (.b true))) := by
  refine Eng.Fn.of tab_ok Try.func8 (by kernel_rfl) (by kernel_rfl) (fun w0 => ?_)
  conv => whnf
  refine callx_as (.c .bt) sc_awake rfl rfl trivial ?_
  conv => whnf
  refine callx_tells (few_fn cp sp h1) rfl trivial ?_
  conv => whnf
  refine And.intro (fun h3 => ?_) (fun h3 => ?_)
  · conv => whnf
    repeat' (apply And.intro <;> intro _ <;> conv => whnf)
    all_goals first | rfl | trace_state
  · have h3 : fewP sp := by simpa using h3
    conv => whnf
    refine callx_tells (few_fn cq sq h2) rfl trivial ?_
    conv => whnf
    refine And.intro (fun h4 => ?_) (fun h4 => ?_)
    · conv => whnf
      first | rfl | trace_state
    · obtain ⟨f1, f2, f3⟩ := few_small h3
      have hst : stX (.t [.c (bytesX (putI cp sp).1), .c (.i .i64 (putI cp sp).2)]) := by
        intro x hx
        simp only [List.mem_cons, List.not_mem_nil, or_false] at hx
        rcases hx with rfl | rfl <;> trivial
      conv => whnf
      refine callx_tells (putP_fn cp sp f1 f2 f3) rfl hst ?_
      conv => whnf
      refine callx_tells (refPutP_fn cp sp f1 f2 f3) rfl hst ?_
      conv => whnf
      generalize putI cp sp = r at *
      refine drawx_pure tab_ok (by kernel_rfl) (by kernel_rfl) ?_
      conv => whnf
      refine opp_str tab_ok r.1 rfl rfl (fun _ _ => rfl) rfl rfl rfl rfl rfl rfl ?_
      conv => whnf
      refine opp_str tab_ok r.1 rfl rfl (fun _ _ => rfl) rfl rfl rfl rfl rfl rfl ?_
      conv => whnf
      refine And.intro (fun _ => ?_) (fun h => absurd (h.symm.trans (ba_refl _)) (by decide))
      conv => whnf
      refine And.intro (fun _ => ?_) (fun h => absurd h (by simp))
      conv => whnf
      refine callp_tells (rightCf_fn c) rfl trivial ?_
      conv => whnf
      refine callp_tells (refRightCf_fn c) rfl trivial ?_
      conv => whnf
      refine And.intro (fun _ => ?_) (fun h => absurd h (by simp))
      conv => whnf
      refine callp_tells (same_sc_fn cp cq sp sq f1 f2 f3) rfl trivial ?_
      conv => whnf
      refine callp_tells (samePlan_fn cp cq sp sq f1 f2 f3) rfl trivial ?_
      conv => whnf
      simp
theorem fit_opS {f : Nat → XC} (h : fitF [.int .i64, .int .i64, .int .i64, .int .i64, .int .i64, .int .i64, .int .i64] f 0) : ∃ o : Opr, ∀ j, j < 7 → entC (f j) (nthC (encO o) j) := by
  obtain ⟨⟨n0, e0⟩, h⟩ := fitF_int h
  obtain ⟨⟨n1, e1⟩, h⟩ := fitF_int h
  obtain ⟨⟨n2, e2⟩, h⟩ := fitF_int h
  obtain ⟨⟨n3, e3⟩, h⟩ := fitF_int h
  obtain ⟨⟨n4, e4⟩, h⟩ := fitF_int h
  obtain ⟨⟨n5, e5⟩, h⟩ := fitF_int h
  obtain ⟨⟨n6, e6⟩, h⟩ := fitF_int h
  refine ⟨⟨n0, ⟨n1, n2, n3, n4, n5⟩, n6⟩, fun j hj => ?_⟩
  match j, hj with
  | 0, _ => exact entC_of_eq e0
  | 1, _ => exact entC_of_eq e1
  | 2, _ => exact entC_of_eq e2
  | 3, _ => exact entC_of_eq e3
  | 4, _ => exact entC_of_eq e4
  | 5, _ => exact entC_of_eq e5
  | 6, _ => exact entC_of_eq e6
theorem plan_ex (n0_0 n0_1 n0_2 n0_3 n0_4 n0_5 n0_6 n0_7 n0_8 : Int) (l0_9 : Nat) (z0_9 : Nat → Nat → XC) (l0_10 : Nat) (z0_10 : Nat → Nat → XC) (m0_9 : l0_9 ≤ maxLen) (k0_9 : ∀ i, i < l0_9 → fitF [.sl 7 [.int .i64, .int .i64, .int .i64, .int .i64, .int .i64, .int .i64, .int .i64]] (z0_9 i) 0) (k0_10 : ∀ i, i < l0_10 → fitF [.int .i64] (z0_10 i) 0) :
    ∃ (c : Cf) (s : ScS), s.ops.length ≤ 9223372036854775807 ∧ entV (.a [.i .i64 n0_0, .i .i64 n0_1, .i .i64 n0_2, .i .i64 n0_3, .i .i64 n0_4, .i .i64 n0_5, .i .i64 n0_6, .i .i64 n0_7, .i .i64 n0_8, .rs l0_9 1 z0_9, .rs l0_10 1 z0_10]) (planX c s) := by
  obtain ⟨ops, hol, ho⟩ := rows_ex (enc := encOpsS) [] (z := 1) (f := z0_9) (n := l0_9) fun i hi => by
    obtain ⟨⟨n, g, e, hg⟩, _⟩ := fitF_sl (k0_9 i hi)
    obtain ⟨l, hl, hrow⟩ := rows_ex (enc := encO) default (z := 7) fun i hi => fit_opS (hg i hi)
    refine ⟨l, fun j hj => ?_⟩
    obtain rfl : j = 0 := by omega
    rw [e]; exact hrow
  obtain ⟨pk, hpl, hp⟩ := rows_ex (enc := fun n : Int => [XC.i .i64 n]) 0 (z := 1) (f := z0_10) (n := l0_10) fun i hi => by
    obtain ⟨⟨n, e⟩, _⟩ := fitF_int (k0_10 i hi)
    refine ⟨n, fun j hj => ?_⟩
    obtain rfl : j = 0 := by omega
    exact entC_of_eq e
  refine ⟨⟨n0_0, n0_1, n0_2, n0_3, n0_4, n0_5, n0_6, n0_7, n0_8⟩, ⟨ops, pk⟩, by rw [hol]; simpa [maxLen] using m0_9, ?_⟩
  refine ⟨⟨rfl, rfl⟩, ⟨rfl, rfl⟩, ⟨rfl, rfl⟩, ⟨rfl, rfl⟩, ⟨rfl, rfl⟩, ⟨rfl, rfl⟩, ⟨rfl, rfl⟩, ⟨rfl, rfl⟩, ⟨rfl, rfl⟩, ho, ?_, trivial⟩
  refine ⟨hp.1, rfl, fun i hi j hj => ?_⟩
  have := hp.2.2 i hi j hj
  obtain rfl : j = 0 := by omega
  exact this
theorem puts_row (n0_0 n0_1 n0_2 n0_3 n0_4 n0_5 n0_6 n0_7 n0_8 : Int) (l0_9 : Nat) (z0_9 : Nat → Nat → XC) (l0_10 : Nat) (z0_10 : Nat → Nat → XC) (n1_0 n1_1 n1_2 n1_3 n1_4 n1_5 n1_6 n1_7 n1_8 : Int) (l1_9 : Nat) (z1_9 : Nat → Nat → XC) (l1_10 : Nat) (z1_10 : Nat → Nat → XC) (n2_0 n2_1 n2_2 n2_3 n2_4 n2_5 n2_6 n2_7 n2_8 : Int) (_ : (Lit.int .i64 n0_0).wf = true) (_ : (Lit.int .i64 n0_1).wf = true) (_ : (Lit.int .i64 n0_2).wf = true) (_ : (Lit.int .i64 n0_3).wf = true) (_ : (Lit.int .i64 n0_4).wf = true) (_ : (Lit.int .i64 n0_5).wf = true) (_ : (Lit.int .i64 n0_6).wf = true) (_ : (Lit.int .i64 n0_7).wf = true) (_ : (Lit.int .i64 n0_8).wf = true) (m0_9 : l0_9 ≤ maxLen) (k0_9 : ∀ i, i < l0_9 → fitF [.sl 7 [.int .i64, .int .i64, .int .i64, .int .i64, .int .i64, .int .i64, .int .i64]] (z0_9 i) 0) (m0_10 : l0_10 ≤ maxLen) (k0_10 : ∀ i, i < l0_10 → fitF [.int .i64] (z0_10 i) 0) (_ : (Lit.int .i64 n1_0).wf = true) (_ : (Lit.int .i64 n1_1).wf = true) (_ : (Lit.int .i64 n1_2).wf = true) (_ : (Lit.int .i64 n1_3).wf = true) (_ : (Lit.int .i64 n1_4).wf = true) (_ : (Lit.int .i64 n1_5).wf = true) (_ : (Lit.int .i64 n1_6).wf = true) (_ : (Lit.int .i64 n1_7).wf = true) (_ : (Lit.int .i64 n1_8).wf = true) (m1_9 : l1_9 ≤ maxLen) (k1_9 : ∀ i, i < l1_9 → fitF [.sl 7 [.int .i64, .int .i64, .int .i64, .int .i64, .int .i64, .int .i64, .int .i64]] (z1_9 i) 0) (m1_10 : l1_10 ≤ maxLen) (k1_10 : ∀ i, i < l1_10 → fitF [.int .i64] (z1_10 i) 0) (_ : (Lit.int .i64 n2_0).wf = true) (_ : (Lit.int .i64 n2_1).wf = true) (_ : (Lit.int .i64 n2_2).wf = true) (_ : (Lit.int .i64 n2_3).wf = true) (_ : (Lit.int .i64 n2_4).wf = true) (_ : (Lit.int .i64 n2_5).wf = true) (_ : (Lit.int .i64 n2_6).wf = true) (_ : (Lit.int .i64 n2_7).wf = true) (_ : (Lit.int .i64 n2_8).wf = true) :
    Eng.Fn Try.prog 8 [.a [.i .i64 n0_0, .i .i64 n0_1, .i .i64 n0_2, .i .i64 n0_3, .i .i64 n0_4, .i .i64 n0_5, .i .i64 n0_6, .i .i64 n0_7, .i .i64 n0_8, .rs l0_9 1 z0_9, .rs l0_10 1 z0_10], .a [.i .i64 n1_0, .i .i64 n1_1, .i .i64 n1_2, .i .i64 n1_3, .i .i64 n1_4, .i .i64 n1_5, .i .i64 n1_6, .i .i64 n1_7, .i .i64 n1_8, .rs l1_9 1 z1_9, .rs l1_10 1 z1_10], .a [.i .i64 n2_0, .i .i64 n2_1, .i .i64 n2_2, .i .i64 n2_3, .i .i64 n2_4, .i .i64 n2_5, .i .i64 n2_6, .i .i64 n2_7, .i .i64 n2_8]] (Tells (.c (.b true))) := by
  obtain ⟨c0, s0, h0, e0⟩ := plan_ex n0_0 n0_1 n0_2 n0_3 n0_4 n0_5 n0_6 n0_7 n0_8 l0_9 z0_9 l0_10 z0_10 m0_9 k0_9 k0_10
  obtain ⟨c1, s1, h1, e1⟩ := plan_ex n1_0 n1_1 n1_2 n1_3 n1_4 n1_5 n1_6 n1_7 n1_8 l1_9 z1_9 l1_10 z1_10 m1_9 k1_9 k1_10
  exact (puts_fn c0 c1 ⟨n2_0, n2_1, n2_2, n2_3, n2_4, n2_5, n2_6, n2_7, n2_8⟩ s0 s1 h0 h1).ask ⟨e0, e1, entV_refl _, trivial⟩
end Go.Proofs.Ytbhmplbckkipjaa
