/- The law that the ways of finding rings agree. -/
import Derived.Test.YtehbalkhboedeaaCycC
import Derived.Test.YtehbalkhboedeaaDelay4
namespace Go.Proofs.Ytehbalkhboedeaa
open Go Go.Eng Go.RowKit
set_option maxRecDepth 100000
set_option maxHeartbeats 8000000
set_option linter.unusedVariables false
set_option linter.unusedSimpArgs false
theorem cycDoes_fn (l : List Eg) (a : Int) (hwf : ∀ e ∈ l, (Lit.int .i64 e.to).wf = true) : Eng.Fn Try.prog 7 [.c (egsX l), .c (.i .i64 a)] (Tells (.c (.b true))) := by
  refine Eng.Fn.ofZ tab_ok Try.func7 (by kernel_rfl) (by kernel_rfl) trivial (fun w0 => ?_)
  conv => whnf
  refine callx_tells awake15_fn rfl trivial ?_
  conv => whnf
  refine And.intro (fun h1 => absurd h1 (by decide)) (fun _ => ?_)
  conv => whnf
  refine And.intro (fun h1 => ?_) (fun h1 => ?_)
  · conv => whnf
  · have hl : l.length ≤ 14 := by simp at h1; omega
    have hon := on_len l
    have hfl := find_len l
    have hrl := reach_len l a
    have hol := ord_len_le l
    conv => whnf
    refine callx_tells (order_fn l (by omega)) rfl ?_ ?_
    · intro x hx
      simp only [List.mem_cons, List.not_mem_nil, or_false] at hx
      rcases hx with rfl | rfl <;> trivial
    conv => whnf
    refine callx_tells (rorder_fn l (by omega)) rfl ?_ ?_
    · intro x hx
      simp only [List.mem_cons, List.not_mem_nil, or_false] at hx
      rcases hx with rfl | rfl <;> trivial
    conv => whnf
    refine callx_tells (on_fn l (by omega) hwf) rfl trivial ?_
    conv => whnf
    refine callx_tells (ron_fn l (by omega)) rfl trivial ?_
    conv => whnf
    refine callx_tells (sameI_fn (onL l) (onL l) (by omega)) rfl trivial ?_
    rw [decide_eq_true (rfl : onL l = onL l)]
    conv => whnf
    refine And.intro (fun _ => ?_) (fun h => absurd h (by decide))
    conv => whnf
    refine callx_tells (find_fn l (by omega) hwf) rfl trivial ?_
    conv => whnf
    refine callx_tells (ring_fn l hl) rfl trivial ?_
    conv => whnf
    refine callx_tells (sameI_fn (findL l) (findL l) (by omega)) rfl trivial ?_
    rw [decide_eq_true (rfl : findL l = findL l)]
    conv => whnf
    refine And.intro (fun _ => ?_) (fun h => absurd h (by decide))
    conv => whnf
    refine callx_tells (sameI_fn (ordL l).1 (ordL l).1 (by omega)) rfl trivial ?_
    rw [decide_eq_true (rfl : (ordL l).1 = (ordL l).1)]
    conv => whnf
    refine And.intro (fun _ => ?_) (fun h => absurd h (by decide))
    conv => whnf
    refine And.intro (fun _ => ?_) (fun h => absurd h (by simp))
    conv => whnf
    refine callx_tells (reach_fn l a (by omega) hwf) rfl trivial ?_
    conv => whnf
    refine callx_tells (rreach_fn l a (by omega)) rfl trivial ?_
    conv => whnf
    refine callx_tells (sameI_fn (reachL l a) (reachL l a) (by omega)) rfl trivial ?_
    rw [decide_eq_true (rfl : reachL l a = reachL l a)]
    conv => whnf
theorem cycDoes_row (l0 : Nat) (h0 : Nat → Nat → Int) (a : Int) (_ : l0 ≤ maxLen) (w0 : ∀ i, i < l0 → ∀ j, j < 2 → (Lit.int .i64 (h0 i j)).wf = true) (_ : (Lit.int .i64 a).wf = true) :
    Eng.Fn Try.prog 7 [.c (.rs l0 2 fun i j => .i .i64 (h0 i j)), .c (.i .i64 a)] (Tells (.c (.b true))) :=
  (cycDoes_fn (egsOf l0 h0) a (egs_wf w0)).ask ⟨egs_of, entV_refl _, trivial⟩
end Go.Proofs.Ytehbalkhboedeaa
