/- A log that nobody made. -/
import Derived.Test.YtehbalkhboedeaaUnd7
namespace Go.Proofs.Ytehbalkhboedeaa
open Go Go.Eng Go.RowKit
set_option maxRecDepth 100000
set_option maxHeartbeats 8000000
set_option linter.unusedVariables false
set_option linter.unusedSimpArgs false
abbrev nilP : XV := .c (.v (.pointer none))
theorem noteN_fn (k : Int) (r : Rw) : Eng.Fn Try.prog 15 [nilP, .c (.i .i64 k), .a (encP r), .c (.i .i64 r.v)] (Tells (.c (.b false))) := by
  refine Eng.Fn.ofZ tab_ok Try.func15 (by kernel_rfl) (by kernel_rfl) trivial (fun w0 => ?_)
  conv => whnf
  refine callx_inline tab_ok Try.func41 (by kernel_rfl) (by kernel_rfl) (fun us => ?_)
  conv => whnf
  refine ⟨rfl, ?_⟩
  conv => whnf
theorem lenN_fn (k : Int) : Eng.Fn Try.prog 17 [nilP, .c (.i .i64 k)] (Tells (.c (.i .i64 0))) := by
  refine Eng.Fn.ofZ tab_ok Try.func17 (by kernel_rfl) (by kernel_rfl) trivial (fun w0 => ?_)
  conv => whnf
  refine callx_inline tab_ok Try.func19 (by kernel_rfl) (by kernel_rfl) (fun us => ?_)
  conv => whnf
  refine ⟨rfl, ?_⟩
  conv => whnf
  refine rangex_in tab_ok rfl rfl Try.func42 (by kernel_rfl) (by kernel_rfl) (fun ln us => ?_)
  conv => whnf
  refine callx_inline tab_ok Try.func41 (by kernel_rfl) (by kernel_rfl) (fun us2 => ?_)
  conv => whnf
  refine ⟨rfl, ?_⟩
  conv => whnf
  refine ⟨rfl, _, _, rfl, by decide, ?_⟩
  conv => whnf
  exact ⟨rfl, rfl⟩
theorem dropN_fn (k : Int) : Eng.Fn Try.prog 13 [nilP, .c (.i .i64 k)] (Tells (.c (.i .i64 0))) := by
  refine Eng.Fn.ofZ tab_ok Try.func13 (by kernel_rfl) (by kernel_rfl) trivial (fun w0 => ?_)
  conv => whnf
  refine callx_tells (lenN_fn k) rfl trivial ?_
  conv => whnf
  refine And.intro (fun h => absurd h (by decide)) (fun _ => ?_)
  conv => whnf
  exact ⟨rfl, rfl⟩
theorem backN_fn (k : Int) : Eng.Fn Try.prog 11 [nilP, .c (.i .i64 k)] (Tells (.t [.a (encU ⟨0, 0, 0, 0, 0, 0⟩), .c (.b false)])) := by
  refine Eng.Fn.ofZ tab_ok Try.func11 (by kernel_rfl) (by kernel_rfl) ?_ (fun w0 => ?_)
  · intro x hx
    simp only [List.mem_cons, List.not_mem_nil, or_false] at hx
    rcases hx with rfl | rfl
    · intro y hy
      simp only [encU, List.mem_cons, List.not_mem_nil, or_false] at hy
      rcases hy with rfl | rfl | rfl | rfl | rfl | rfl <;> trivial
    · trivial
  conv => whnf
  refine callx_tells (lenN_fn k) rfl trivial ?_
  conv => whnf
  refine And.intro (fun _ => ?_) (fun h => absurd h (by decide))
  conv => whnf
  exact ⟨⟨⟨rfl, rfl⟩, ⟨rfl, rfl⟩, ⟨rfl, rfl⟩, ⟨rfl, rfl⟩, ⟨rfl, rfl⟩, ⟨rfl, rfl⟩, trivial⟩, rfl, trivial⟩
end Go.Proofs.Ytehbalkhboedeaa
