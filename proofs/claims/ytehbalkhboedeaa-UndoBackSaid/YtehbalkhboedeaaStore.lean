/- The store: made, set. -/
import Derived.Test.YtehbalkhboedeaaEngGx
import Derived.Test.YtehbalkhboedeaaEngGr
import Derived.Test.YtehbalkhboedeaaEngZ
import Derived.Test.YtehbalkhboedeaaPath
import Derived.Test.YtehbalkhboedeaaTab
namespace Go.Proofs.Ytehbalkhboedeaa
open Go Go.Eng Go.RowKit
set_option maxRecDepth 100000
set_option maxHeartbeats 8000000
set_option linter.unusedVariables false
set_option linter.unusedSimpArgs false
abbrev ks5 : List IntKind := [.i64, .i64, .i64, .i64, .i64]
abbrev storI : It := .cells 84 [.ow 1]
abbrev storA (dom : List (List Int)) (f : List Int → Int × Int) : It := .abs (MapA true ks5 true 2 dom fun p => [.i .i64 (f p).1, .i .i64 (f p).2])
theorem snew_fn : FnM Try.prog 20 [] [] [] (.c (.p 0 0)) [storI, storA [] fun _ => (0, 0)] := by
  refine FnM.of tab_ok Try.func20 (by kernel_rfl) (by kernel_rfl) (fun vs => ?_)
  conv => whnf
  refine opx_makeMap true ks5 true 2 (fun _ => [.i .i64 0, .i .i64 0]) ?_
  conv => whnf
  exact mt_done (v := .c (.p 0 0)) (hs' := [storI, storA [] fun _ => (0, 0)]) (fx := []) (x := .c (.p 2 0)) (ys := []) [2, 1] 0 rfl rfl rfl rfl rfl (entV_refl _) trivial ⟨⟨rfl, entL_refl _⟩, fun _ _ _ _ h => h, trivial⟩
end Go.Proofs.Ytehbalkhboedeaa
