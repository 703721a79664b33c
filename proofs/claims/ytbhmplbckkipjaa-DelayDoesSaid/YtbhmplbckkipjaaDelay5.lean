/- Quantiles are numbers of the list and rise; boxes have all numbers. -/
import Derived.Test.YtbhmplbckkipjaaDelay4
namespace Go.Proofs.Ytbhmplbckkipjaa
open Go Go.Eng Go.RowKit
set_option maxRecDepth 100000
set_option maxHeartbeats 4000000
set_option linter.unusedVariables false
set_option linter.unusedSimpArgs false
theorem boxes_b (l : List Int) (w : Int) : (boxes l w).length ≤ 1000 ∧ ∀ i, 0 ≤ (boxes l w).getD i 0 ∧ (boxes l w).getD i 0 ≤ l.length := by
  by_cases h : okB l w
  · rw [boxes_yes h]
    refine ⟨?_, fun i => boxL_le l w _ i⟩
    rw [boxL_len]
    rcases (foldmax l 0).2 with h1 | h1
    · have h1 : maxL l = 0 := h1
      rw [h1]; simp
    · have := (h.2.2 _ h1).2
      have : maxL l / w < 1000 := this
      omega
  · rw [boxes_no h]
    simp
theorem sumAt_rng (b : List Int) (h : ∀ i, 0 ≤ b.getD i 0 ∧ b.getD i 0 ≤ 40) : ∀ k : Nat, 0 ≤ sumAt b k ∧ sumAt b k ≤ 40 * k
  | 0 => by simp [sumAt]
  | k + 1 => by
    have h1 := sumAt_rng b h k
    have h2 := h k
    rw [sumAt]
    omega
theorem sumAt_sum (b : List Int) : ∀ k, k ≤ b.length → sumAt b k = (b.take k).sum
  | 0, _ => rfl
  | k + 1, h => by
    rw [sumAt, sumAt_sum b k (by omega), take_snoc 0 (by omega), List.sum_append]
    simp
theorem rises_fn (l : List Int) (num den w : Int) (hr : ∀ x ∈ l, x ≤ 9223372036854775807) : Eng.Fn Try.prog 9 [.c (intsX l), .c (.i .i64 num), .c (.i .i64 den), .c (.i .i64 w)] (Tells (.c (.b true))) := by
  refine Eng.Fn.of tab_ok Try.func9 (by kernel_rfl) (by kernel_rfl) (fun w0 => ?_)
  conv => whnf
  refine callx_as (.c .bt) quant_awake rfl rfl trivial ?_
  conv => whnf
  refine And.intro (fun h2 => ?_) (fun h2 => ?_)
  · conv => whnf
  · have h2 : l.length ≤ 40 := by simp at h2; omega
    conv => whnf
    refine callx_tells (refSorted_fn l (by omega)) rfl trivial ?_
    conv => whnf
    refine callx_tells (quant_fn l num den (by omega)) rfl (tupSt _ _) ?_
    by_cases hm : mayQ l num den
    · generalize hq : quantL l num den = q
      obtain ⟨x, is⟩ := q
      rw [quantL, if_pos hm] at hq
      obtain ⟨rfl, rfl⟩ := Prod.mk.inj hq
      obtain ⟨m1, m2, m3, m4, m5⟩ := id hm
      obtain ⟨hw1, hw2, hw3, hw4⟩ := quant_w hm (by omega)
      have hsl := sort_len0 l
      conv => whnf
      have n1 : decide ((l.length : Int) > 0) = true := by simp; omega
      have n2 : decide (den ≥ 1) = true := by simp; omega
      have n3 : decide (den ≤ 1000) = true := by simp; omega
      have n4 : decide (num ≥ 0) = true := by simp; omega
      have n5 : decide (num ≤ den) = true := by simp; omega
      refine And.intro (fun _ => ?_) (fun h => absurd (n1.symm.trans h) (by decide)); conv => whnf
      refine And.intro (fun _ => ?_) (fun h => absurd (n2.symm.trans h) (by decide)); conv => whnf
      refine And.intro (fun _ => ?_) (fun h => absurd (n3.symm.trans h) (by decide)); conv => whnf
      refine And.intro (fun _ => ?_) (fun h => absurd (n4.symm.trans h) (by decide)); conv => whnf
      rw [n5]
      conv => whnf
      refine And.intro (fun h => absurd h (by simp)) (fun _ => ?_)
      conv => whnf
      refine And.intro (fun h => absurd h (by simp)) (fun _ => ?_)
      conv => whnf
      refine And.intro (fun _ => ?_) (fun h => absurd h (by simp))
      conv => whnf
      refine ⟨by omega, ?_⟩
      conv => whnf
      rw [hsl, hw1, hw2, hw3]
      refine ⟨hw4, ?_⟩
      conv => whnf
      refine And.intro (fun h => absurd h (by simp)) (fun _ => ?_)
      conv => whnf
      refine And.intro (fun _ => ?_) (fun h => absurd h (by simp))
      conv => whnf
      refine And.intro (fun h3 => ?_) (fun h3 => ?_)
      · have h3 : num < den := by simpa using h3
        have hm2 : mayQ l (num + 1) den := ⟨m1, m2, m3, by omega, by omega⟩
        have hqf := quant_fn l (num + 1) den (by omega)
        obtain ⟨_, _, _, hw5⟩ := quant_w hm2 (by omega)
        rw [quantL, if_pos hm2] at hqf
        conv => whnf
        rw [show IntKind.i64.wrap (num + 1) = num + 1 from wrap_ok (by omega) (by omega)]
        refine callx_tells hqf rfl (tupSt _ _) ?_
        have hmono : num * ((l.length : Int) - 1) / den ≤ (num + 1) * ((l.length : Int) - 1) / den := Int.ediv_le_ediv (by omega) (Int.mul_le_mul_of_nonneg_right (by omega) (by omega))
        have hle := pw_get (sort_sorted l) (i := (num * ((l.length : Int) - 1) / den).toNat) (j := ((num + 1) * ((l.length : Int) - 1) / den).toNat) (by omega) (by omega)
        conv => whnf
        refine And.intro (fun h => absurd h (by simp)) (fun _ => ?_)
        conv => whnf
        refine And.intro (fun h => absurd (of_decide_eq_true h) (Int.not_lt.2 hle)) (fun _ => ?_)
        conv => whnf
        refine callx_tells (boxes_fn l w (by omega) hr) rfl trivial ?_
        conv => whnf
        have hbb := boxes_b l w
        have hbs := boxes_len l w
        generalize boxes l w = b at *
        have hsr := sumAt_rng b fun i => ⟨(hbb.2 i).1, by have := (hbb.2 i).2; omega⟩
        refine loopi tab_ok (fun k => k ≤ b.length) (fun k => [(0, .c (intsX l)), (15, .c (.i .i64 (sumAt b k))), (16, .c (intsX b)), (105, .c (intsX b)), (106, .c (.i .i64 b.length)), (107, .c (.i .i64 k))]) (fun k => []) (fun k => b.length - k) 0 _ rfl (Nat.zero_le _) ?_ (fun k hk => ?_)
        · refine ⟨?_, ?_, rfl⟩ <;> repeat' (first | exact trivial | exact entV_refl _ | exact ⟨rfl, rfl⟩ | rfl | apply And.intro)
        · have hb1 := hbb.1
          conv => whnf
          refine And.intro (fun h5 => ?_) (fun h5 => ?_)
          · have h5 : k < b.length := by simp at h5; omega
            conv => whnf
            refine ⟨by omega, ?_⟩
            conv => whnf
            have hs1 := hsr k
            have hs2 := hbb.2 k
            have hst : sumAt b (k + 1) = sumAt b k + b.getD k 0 := rfl
            refine ⟨k + 1, by omega, by omega, rfl, ?_⟩
            rw [hst]
            refine ⟨?_, ?_, rfl⟩ <;> repeat' (first | exact trivial | exact entV_refl _ | exact wrap_succ (by omega) | exact wrap_ok (by rw [Int.toNat_natCast]; omega) (by rw [Int.toNat_natCast]; omega) | rfl | apply And.intro)
          · have h5 : k = b.length := by simp at h5; omega
            subst h5
            have hss := sumAt_sum b b.length (Nat.le_refl _)
            rw [List.take_length] at hss
            conv => whnf
            refine And.intro (fun h6 => ?_) (fun h6 => ?_)
            · conv => whnf
              first | rfl | trace_state
            · have h6 : b.length ≠ 0 := by intro e; rw [e] at h6; simp at h6
              have h7 : b.sum = l.length := by rcases hbs with h | h; exact absurd h h6; exact h
              conv => whnf
              rw [hss, h7]
              simp
      · conv => whnf
        refine callx_tells (boxes_fn l w (by omega) hr) rfl trivial ?_
        conv => whnf
        have hbb := boxes_b l w
        have hbs := boxes_len l w
        generalize boxes l w = b at *
        have hsr := sumAt_rng b fun i => ⟨(hbb.2 i).1, by have := (hbb.2 i).2; omega⟩
        refine loopi tab_ok (fun k => k ≤ b.length) (fun k => [(0, .c (intsX l)), (15, .c (.i .i64 (sumAt b k))), (16, .c (intsX b)), (105, .c (intsX b)), (106, .c (.i .i64 b.length)), (107, .c (.i .i64 k))]) (fun k => []) (fun k => b.length - k) 0 _ rfl (Nat.zero_le _) ?_ (fun k hk => ?_)
        · refine ⟨?_, ?_, rfl⟩ <;> repeat' (first | exact trivial | exact entV_refl _ | exact ⟨rfl, rfl⟩ | rfl | apply And.intro)
        · have hb1 := hbb.1
          conv => whnf
          refine And.intro (fun h5 => ?_) (fun h5 => ?_)
          · have h5 : k < b.length := by simp at h5; omega
            conv => whnf
            refine ⟨by omega, ?_⟩
            conv => whnf
            have hs1 := hsr k
            have hs2 := hbb.2 k
            have hst : sumAt b (k + 1) = sumAt b k + b.getD k 0 := rfl
            refine ⟨k + 1, by omega, by omega, rfl, ?_⟩
            rw [hst]
            refine ⟨?_, ?_, rfl⟩ <;> repeat' (first | exact trivial | exact entV_refl _ | exact wrap_succ (by omega) | exact wrap_ok (by rw [Int.toNat_natCast]; omega) (by rw [Int.toNat_natCast]; omega) | rfl | apply And.intro)
          · have h5 : k = b.length := by simp at h5; omega
            subst h5
            have hss := sumAt_sum b b.length (Nat.le_refl _)
            rw [List.take_length] at hss
            conv => whnf
            refine And.intro (fun h6 => ?_) (fun h6 => ?_)
            · conv => whnf
              first | rfl | trace_state
            · have h6 : b.length ≠ 0 := by intro e; rw [e] at h6; simp at h6
              have h7 : b.sum = l.length := by rcases hbs with h | h; exact absurd h h6; exact h
              conv => whnf
              rw [hss, h7]
              simp
    · rw [quant_no hm]
      obtain ⟨n0, hn0⟩ : ∃ n, n = l.length := ⟨_, rfl⟩
      have hm' := hm
      unfold mayQ at hm'
      rw [← hn0] at hm'
      conv => whnf
      repeat' (apply And.intro <;> intro hh <;> first | (exfalso; simp at *; done) | (exfalso; simp at *; omega) | (conv => whnf))
      all_goals (
        refine callx_tells (boxes_fn l w (by omega) hr) rfl trivial ?_
        conv => whnf
        have hbb := boxes_b l w
        have hbs := boxes_len l w
        generalize boxes l w = b at *
        have hsr := sumAt_rng b fun i => ⟨(hbb.2 i).1, by have := (hbb.2 i).2; omega⟩
        refine loopi tab_ok (fun k => k ≤ b.length) (fun k => [(0, .c (intsX l)), (15, .c (.i .i64 (sumAt b k))), (16, .c (intsX b)), (105, .c (intsX b)), (106, .c (.i .i64 b.length)), (107, .c (.i .i64 k))]) (fun k => []) (fun k => b.length - k) 0 _ rfl (Nat.zero_le _) ?_ (fun k hk => ?_)
        · refine ⟨?_, ?_, rfl⟩ <;> repeat' (first | exact trivial | exact entV_refl _ | exact ⟨rfl, rfl⟩ | rfl | apply And.intro)
        · have hb1 := hbb.1
          conv => whnf
          refine And.intro (fun h5 => ?_) (fun h5 => ?_)
          · have h5 : k < b.length := by simp at h5; omega
            conv => whnf
            refine ⟨by omega, ?_⟩
            conv => whnf
            have hs1 := hsr k
            have hs2 := hbb.2 k
            have hst : sumAt b (k + 1) = sumAt b k + b.getD k 0 := rfl
            refine ⟨k + 1, by omega, by omega, rfl, ?_⟩
            rw [hst]
            refine ⟨?_, ?_, rfl⟩ <;> repeat' (first | exact trivial | exact entV_refl _ | exact wrap_succ (by omega) | exact wrap_ok (by rw [Int.toNat_natCast]; omega) (by rw [Int.toNat_natCast]; omega) | rfl | apply And.intro)
          · have h5 : k = b.length := by simp at h5; omega
            subst h5
            have hss := sumAt_sum b b.length (Nat.le_refl _)
            rw [List.take_length] at hss
            conv => whnf
            refine And.intro (fun h6 => ?_) (fun h6 => ?_)
            · conv => whnf
              first | rfl | trace_state
            · have h6 : b.length ≠ 0 := by intro e; rw [e] at h6; simp at h6
              have h7 : b.sum = l.length := by rcases hbs with h | h; exact absurd h h6; exact h
              conv => whnf
              rw [hss, h7]
              simp)
theorem wf_le {n : Int} (h : (Lit.int .i64 n).wf = true) : n ≤ 9223372036854775807 := by
  have := (by simpa [Lit.wf] using h : _)
  first | exact this.2 | omega | trace_state
theorem rises_row (l0 : Nat) (h0 : Nat → Int) (n1 n2 n3 : Int) (_ : l0 ≤ maxLen) (w0 : ∀ i, i < l0 → (Lit.int .i64 (h0 i)).wf = true) (_ : (Lit.int .i64 n1).wf = true) (_ : (Lit.int .i64 n2).wf = true) (_ : (Lit.int .i64 n3).wf = true) :
    Eng.Fn Try.prog 9 [.c (.rs l0 1 fun i _ => .i .i64 (h0 i)), .c (.i .i64 n1), .c (.i .i64 n2), .c (.i .i64 n3)] (Tells (.c (.b true))) := by
  refine (rises_fn ((List.range l0).map h0) n1 n2 n3 fun x hx => ?_).ask ⟨ints_of, entV_refl _, entV_refl _, entV_refl _, trivial⟩
  obtain ⟨i, hi, rfl⟩ := List.mem_map.1 hx
  exact wf_le (w0 i (List.mem_range.1 hi))
end Go.Proofs.Ytbhmplbckkipjaa
