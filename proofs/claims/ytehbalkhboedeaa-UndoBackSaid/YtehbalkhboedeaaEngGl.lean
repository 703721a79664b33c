/- The engine, part Gl: loops with steps ahead of the end of a round. Nothing of any program is proved here. -/
import Derived.Test.YtehbalkhboedeaaEngGh
namespace Go.Eng
open Go Go.RowKit
set_option linter.unusedVariables false
section
variable {C : Cx} (hT : TabOk C.P C.T)
include hT in
/-- A loop: I holds at each head of it; steps may be taken at the end of each round. -/
theorem loopl {b : Code} {Q : KQ} {ts : List XV} {h : List It} {ι : Type} (I : ι → Prop) (S : ι → List (Nat × XV)) (H : ι → List It) (μ : ι → Nat) (i0 : ι) (n : Nat) (hn : n = ts.length) (hI : I i0) (h0 : Wk ts h (S i0) (H i0))
    (hstep : ∀ i, I i → forceTs (frame n (S i)) fun t => codeX C b (roundQ (LabX fun t h => ∃ j, I j ∧ μ j < μ i ∧ t.length = n ∧ Wk t h (S j) (H j)) Q) t (H i)) : LoopX C b Q ts h := by
  unfold LoopX
  intro w0 F Q' a w hQ hc
  subst hn
  refine wpIn_loop_ghost (fun m a w => ∃ i, I i ∧ μ i = m ∧ Cfg w0 F (frame ts.length (S i)) (H i) a w) (μ i0) ⟨i0, hI, rfl, h0.cfg hc⟩ ?_
  rintro m a w ⟨i, hi, rfl, hc⟩
  have h1 := hstep i hi
  rw [forceTs_eq] at h1
  refine codeX_sound hT b h1 hc ?_
  intro e t h a w hq hc
  cases e with
  | normal =>
    have hq : LabX _ t h := hq
    unfold LabX at hq
    obtain ⟨t2, h2, ⟨j, hj, hlt, hlen, hk⟩, hc2⟩ := hq w0 F a w hc
    exact ⟨μ j, hlt, j, hj, rfl, by rw [← hlen]; exact hk.cfg hc2⟩
  | ret => exact hQ .ret _ _ _ _ hq hc
  | exit n => exact hQ (.exit n) _ _ _ _ hq hc
  | goto n => exact hQ (.goto n) _ _ _ _ hq hc
end
end Go.Eng
