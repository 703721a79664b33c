/- Paths: their order. -/
import Derived.Test.YtehbalkhboedeaaPath
import Derived.Test.YtehbalkhboedeaaData
import Derived.Test.YtehbalkhboedeaaEngP4
import Derived.Test.YtehbalkhboedeaaEngX
namespace Go.Proofs.Ytehbalkhboedeaa
open Go Go.Eng Go.RowKit
set_option maxRecDepth 100000
set_option maxHeartbeats 8000000
set_option linter.unusedVariables false
set_option linter.unusedSimpArgs false
abbrev MayQ (p : Pth) : Prop := MayP p.a p.b p.c p.d p.n
/-- Which of two paths comes first. -/
def lessL (p q : Pth) : Bool :=
  if p.a ≠ q.a then decide (p.a < q.a)
  else if 2 ≤ p.n ∧ 2 ≤ q.n ∧ p.b ≠ q.b then decide (p.b < q.b)
  else if 3 ≤ p.n ∧ 3 ≤ q.n ∧ p.c ≠ q.c then decide (p.c < q.c)
  else if 4 ≤ p.n ∧ 4 ≤ q.n ∧ p.d ≠ q.d then decide (p.d < q.d)
  else decide (p.n < q.n)
def lessP (p q : Pth) : Bool := decide (MayQ p) && decide (MayQ q) && lessL p q
theorem less_fn (p q : Pth) : Eng.Fn Try.prog 69 [.a (encP p), .a (encP q)] (Tells (.c (.b (lessP p q)))) := by
  refine Eng.Fn.ofZ tab_ok Try.func69 (by kernel_rfl) (by kernel_rfl) trivial (fun w0 => ?_)
  conv => whnf
  refine callx_tells (pathMay_fn p.a p.b p.c p.d p.n) rfl trivial ?_
  conv => whnf
  refine And.intro (fun h => ?_) (fun h => ?_)
  · have h : ¬ MayQ p := by simpa using h
    conv => whnf
    unfold lessP
    rw [decide_eq_false h]
    rfl
  · have hp : MayQ p := by simpa using h
    conv => whnf
    refine callx_tells (pathMay_fn q.a q.b q.c q.d q.n) rfl trivial ?_
    conv => whnf
    refine And.intro (fun h => ?_) (fun h => ?_)
    · have h : ¬ MayQ q := by simpa using h
      conv => whnf
      unfold lessP
      rw [decide_eq_false h, Bool.and_false]
      rfl
    · have hq : MayQ q := by simpa using h
      conv => whnf
      have he : lessP p q = lessL p q := by unfold lessP; rw [decide_eq_true hp, decide_eq_true hq]; rfl
      have hp : 1 ≤ p.n ∧ p.n ≤ 4 := ⟨hp.1, hp.2.1⟩
      have hq : 1 ≤ q.n ∧ q.n ≤ 4 := ⟨hq.1, hq.2.1⟩
      have hw1 : IntKind.i64.wrap (0 + 1) = 1 := by decide
      have hw2 : IntKind.i64.wrap (1 + 1) = 2 := by decide
      have hw3 : IntKind.i64.wrap (2 + 1) = 3 := by decide
      have hw4 : IntKind.i64.wrap (3 + 1) = 4 := by decide
      refine loopx_rounds tab_ok 5 ?_
      conv => whnf
      refine And.intro (fun c0 => ?_) (fun c0 => ?_)
      · conv => whnf
        refine drawx_plan tab_ok [] (.take 0 (.take 1 (.take 2 (.take 3 (.take 4 (.take 5 (.take 6 (.take 7 (.take 8 .done))))))))) (by kernel_rfl) (by kernel_rfl) (by kernel_rfl) ?_
        conv => whnf
        refine And.intro (fun e0 => ?_) (fun e0 => ?_)
        · conv => whnf
          refine drawx_plan tab_ok [] (.take 0 (.take 1 (.take 2 (.take 3 (.take 4 (.take 5 (.take 6 (.take 7 (.take 8 (.take 9 .done)))))))))) (by kernel_rfl) (by kernel_rfl) (by kernel_rfl) ?_
          conv => whnf
          simp only [decide_eq_true_eq, decide_eq_false_iff_not, bne_iff_ne, ne_eq, bne_eq_false_iff_eq, Decidable.not_not, hw1, hw2, hw3, hw4] at *
          rw [he]
          unfold lessL
          repeat' split
          all_goals first | rfl | omega | (exfalso; omega) | (rw [decide_eq_decide]; omega)
        · conv => whnf
          refine And.intro (fun c1 => ?_) (fun c1 => ?_)
          · conv => whnf
            refine drawx_plan tab_ok [] (.take 0 (.take 1 (.take 2 (.take 3 (.take 4 (.take 5 (.take 6 (.take 7 (.take 8 .done))))))))) (by kernel_rfl) (by kernel_rfl) (by kernel_rfl) ?_
            conv => whnf
            refine And.intro (fun e1 => ?_) (fun e1 => ?_)
            · conv => whnf
              refine drawx_plan tab_ok [] (.take 0 (.take 1 (.take 2 (.take 3 (.take 4 (.take 5 (.take 6 (.take 7 (.take 8 (.take 9 .done)))))))))) (by kernel_rfl) (by kernel_rfl) (by kernel_rfl) ?_
              conv => whnf
              simp only [decide_eq_true_eq, decide_eq_false_iff_not, bne_iff_ne, ne_eq, bne_eq_false_iff_eq, Decidable.not_not, hw1, hw2, hw3, hw4] at *
              rw [he]
              unfold lessL
              repeat' split
              all_goals first | rfl | omega | (exfalso; omega) | (rw [decide_eq_decide]; omega)
            · conv => whnf
              refine And.intro (fun c2 => ?_) (fun c2 => ?_)
              · conv => whnf
                refine drawx_plan tab_ok [] (.take 0 (.take 1 (.take 2 (.take 3 (.take 4 (.take 5 (.take 6 (.take 7 (.take 8 .done))))))))) (by kernel_rfl) (by kernel_rfl) (by kernel_rfl) ?_
                conv => whnf
                refine And.intro (fun e2 => ?_) (fun e2 => ?_)
                · conv => whnf
                  refine drawx_plan tab_ok [] (.take 0 (.take 1 (.take 2 (.take 3 (.take 4 (.take 5 (.take 6 (.take 7 (.take 8 (.take 9 .done)))))))))) (by kernel_rfl) (by kernel_rfl) (by kernel_rfl) ?_
                  conv => whnf
                  simp only [decide_eq_true_eq, decide_eq_false_iff_not, bne_iff_ne, ne_eq, bne_eq_false_iff_eq, Decidable.not_not, hw1, hw2, hw3, hw4] at *
                  rw [he]
                  unfold lessL
                  repeat' split
                  all_goals first | rfl | omega | (exfalso; omega) | (rw [decide_eq_decide]; omega)
                · conv => whnf
                  refine And.intro (fun c3 => ?_) (fun c3 => ?_)
                  · conv => whnf
                    refine drawx_plan tab_ok [] (.take 0 (.take 1 (.take 2 (.take 3 (.take 4 (.take 5 (.take 6 (.take 7 (.take 8 .done))))))))) (by kernel_rfl) (by kernel_rfl) (by kernel_rfl) ?_
                    conv => whnf
                    refine And.intro (fun e3 => ?_) (fun e3 => ?_)
                    · conv => whnf
                      refine drawx_plan tab_ok [] (.take 0 (.take 1 (.take 2 (.take 3 (.take 4 (.take 5 (.take 6 (.take 7 (.take 8 (.take 9 .done)))))))))) (by kernel_rfl) (by kernel_rfl) (by kernel_rfl) ?_
                      conv => whnf
                      simp only [decide_eq_true_eq, decide_eq_false_iff_not, bne_iff_ne, ne_eq, bne_eq_false_iff_eq, Decidable.not_not, hw1, hw2, hw3, hw4] at *
                      rw [he]
                      unfold lessL
                      repeat' split
                      all_goals first | rfl | omega | (exfalso; omega) | (rw [decide_eq_decide]; omega)
                    · conv => whnf
                      refine And.intro (fun c4 => ?_) (fun c4 => ?_)
                      · exfalso
                        simp only [decide_eq_true_eq, hw1, hw2, hw3, hw4] at c4
                        omega
                      · conv => whnf
                        simp only [decide_eq_true_eq, decide_eq_false_iff_not, bne_iff_ne, ne_eq, bne_eq_false_iff_eq, Decidable.not_not, hw1, hw2, hw3, hw4] at *
                        rw [he]
                        unfold lessL
                        repeat' split
                        all_goals first | rfl | omega | (exfalso; omega) | (rw [decide_eq_decide]; omega)
                  · conv => whnf
                    simp only [decide_eq_true_eq, decide_eq_false_iff_not, bne_iff_ne, ne_eq, bne_eq_false_iff_eq, Decidable.not_not, hw1, hw2, hw3, hw4] at *
                    rw [he]
                    unfold lessL
                    repeat' split
                    all_goals first | rfl | omega | (exfalso; omega) | (rw [decide_eq_decide]; omega)
              · conv => whnf
                simp only [decide_eq_true_eq, decide_eq_false_iff_not, bne_iff_ne, ne_eq, bne_eq_false_iff_eq, Decidable.not_not, hw1, hw2, hw3, hw4] at *
                rw [he]
                unfold lessL
                repeat' split
                all_goals first | rfl | omega | (exfalso; omega) | (rw [decide_eq_decide]; omega)
          · conv => whnf
            simp only [decide_eq_true_eq, decide_eq_false_iff_not, bne_iff_ne, ne_eq, bne_eq_false_iff_eq, Decidable.not_not, hw1, hw2, hw3, hw4] at *
            rw [he]
            unfold lessL
            repeat' split
            all_goals first | rfl | omega | (exfalso; omega) | (rw [decide_eq_decide]; omega)
      · conv => whnf
        simp only [decide_eq_true_eq, decide_eq_false_iff_not, bne_iff_ne, ne_eq, bne_eq_false_iff_eq, Decidable.not_not, hw1, hw2, hw3, hw4] at *
        rw [he]
        unfold lessL
        repeat' split
        all_goals first | rfl | omega | (exfalso; omega) | (rw [decide_eq_decide]; omega)
def dgK (k n x : Int) : Int := if k < n then x + 1 else 0
/-- A path as one number: greater paths come behind. -/
def keyP (p : Pth) : Int := ((dgK 0 p.n p.a * 1001 + dgK 1 p.n p.b) * 1001 + dgK 2 p.n p.c) * 1001 + dgK 3 p.n p.d
theorem less_key {p q : Pth} (hp : MayQ p) (hq : MayQ q) : lessP p q = decide (keyP p < keyP q) := by
  have e : lessP p q = lessL p q := by unfold lessP; rw [decide_eq_true hp, decide_eq_true hq]; rfl
  rw [e]
  obtain ⟨a, b, c, d, n⟩ := p
  obtain ⟨a2, b2, c2, d2, n2⟩ := q
  unfold MayQ MayP at hp hq
  dsimp only at hp hq
  have h1 : n = 1 ∨ n = 2 ∨ n = 3 ∨ n = 4 := by omega
  have h2 : n2 = 1 ∨ n2 = 2 ∨ n2 = 3 ∨ n2 = 4 := by omega
  unfold lessL keyP
  dsimp only
  rcases h1 with rfl | rfl | rfl | rfl <;> rcases h2 with rfl | rfl | rfl | rfl <;>
    (simp [dgK] at hp hq ⊢; repeat' split) <;> first | omega | (rw [Bool.eq_iff_iff]; simp only [Bool.or_eq_true, Bool.and_eq_true, Bool.not_eq_true', decide_eq_true_eq, decide_eq_false_iff_not]; omega)
theorem key_inj {p q : Pth} (hp : MayQ p) (hq : MayQ q) (h : keyP p = keyP q) : p = q := by
  obtain ⟨a, b, c, d, n⟩ := p
  obtain ⟨a2, b2, c2, d2, n2⟩ := q
  unfold MayQ MayP at hp hq
  dsimp only at hp hq
  have h1 : n = 1 ∨ n = 2 ∨ n = 3 ∨ n = 4 := by omega
  have h2 : n2 = 1 ∨ n2 = 2 ∨ n2 = 3 ∨ n2 = 4 := by omega
  rw [Pth.eq_iff]
  unfold keyP at h
  dsimp only at h ⊢
  rcases h1 with rfl | rfl | rfl | rfl <;> rcases h2 with rfl | rfl | rfl | rfl <;> simp [dgK] at hp hq h ⊢ <;> omega
theorem rowCmp_fn (r s : Rw) : Eng.Fn Try.prog 68 [.a (encR r), .a (encR s)] (Tells (.c (.i .i64 (if lessP r.p s.p = true then -1 else 1)))) := by
  refine Eng.Fn.ofZ tab_ok Try.func68 (by kernel_rfl) (by kernel_rfl) trivial (fun w0 => ?_)
  conv => whnf
  refine callx_tells (less_fn r.p s.p) rfl trivial ?_
  conv => whnf
  refine And.intro (fun h => ?_) (fun h => ?_)
  · conv => whnf
    rw [if_pos h]
    exact ⟨rfl, rfl⟩
  · conv => whnf
    rw [if_neg (by rw [h]; decide)]
    exact ⟨rfl, rfl⟩
end Go.Proofs.Ytehbalkhboedeaa
