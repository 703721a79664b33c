/- The engine, part Z: own rows laid aside for good ahead of a call. Nothing of any program is proved here. -/
import Derived.Test.YtehbalkhboedeaaEngX
namespace Go.Eng
open Go Go.RowKit
set_option linter.unusedVariables false
/-- A row of the run's own is laid aside for good ahead of a call that is handed it. -/
theorem callx_frz {C : Cx} {f : FuncId} {args : List XV} {ts : List XV} {h : List It} {k : KE} (it : Nat) {e z : Nat} {xs : List (List XC)} (hx : h[it]? = some (.row e z xs))
    (hh : frzTs it (rsOf xs z) args fun args => frzTs it (rsOf xs z) ts fun ts => frzH it (rsOf xs z) h fun h => setH h it .dead fun h => CallX C f args ts h k) : CallX C f args ts h k := by
  rw [frzTs_eq, frzTs_eq, frzH_eq, setH_eq] at hh
  unfold CallX at hh ⊢
  refine ⟨hh.1, fun w0 F E w vs us hr hargs hp => ?_⟩
  obtain ⟨E', hle, hrs, hp'⟩ := hp.freeze hx
  have frz : ∀ {l : List XV} {us : List Value}, RelTs E l us → RelTs E' (l.map (frzVf it (rsOf xs z))) us := fun {l us} h => by
    obtain ⟨l', e, h'⟩ := frzTs_rel (k := fun l' => l' = l.map (frzVf it (rsOf xs z))) hle hrs (by rw [frzTs_eq]) h
    rw [← e]; exact h'
  exact hh.2 w0 F E' w vs us (frz hr) (frz hargs) hp'
/-- A call by contract that may ask for less than what is handed to it. -/
theorem callx_says {C : Cx} {f : FuncId} {args : List XV} {ts : List XV} {h : List It} {k : KE} {args' : List XV} {v : XV} (hf : Fn C.P f args' (Tells v)) (hl : entVs args args') (hs : stXs args' = true) (hv : stX v) (hk : k v ts h) : CallX C f args ts h k := by
  have h1 := callx_tells hf hs hv hk
  unfold CallX at h1 ⊢
  exact ⟨h1.1, fun w0 F E w vs us hr hargs hp => h1.2 w0 F E w vs us hr (entVs_rel hl hargs) hp⟩
end Go.Eng
