/- The engine, part Gh: a nil slice in a slot as an own row of packs; stable cells as a pack. Nothing of any program is proved here. -/
import Derived.Test.YtbhmplbckkipjaaEngGg
import Derived.Test.YtbhmplbckkipjaaEngU
namespace Go.Eng
open Go Go.RowKit
set_option linter.unusedSimpArgs false
set_option linter.unusedVariables false
section
variable {C : Cx}
theorem cfg_nilp {w0 : Org} {F : Nat → Prop} {ts : List XV} {h : List It} {a : Act} {w : World} (j e z : Nat) (hg : get ts j = .c (.v (.slice none 0 0))) (hc : Cfg w0 F ts h a w) :
    Cfg w0 F (ts.set j (.c (.ow h.length))) (h ++ [.prow e z [] none]) a w := by
  obtain ⟨w1, F1, hsub, hd, E, hr, hp⟩ := hc
  have hv := hr.get j
  rw [hg] at hv
  have hv : a.tmps.toList.getD j undef = .slice none 0 0 := hv.1
  have hle := Env.push_le E 0 (.slice none 0 0)
  refine ⟨w1, F1, hsub, hd, E.push 0 (.slice none 0 0), ?_, ?_⟩
  · refine RelTs.set_self j (hr.mono hle) ?_
    rw [hv]
    exact ⟨by simp [Env.push, hp.n], by simp [Env.push, hp.n], rfl⟩
  · refine hp.push (Fr.refl _ _) ⟨[], fun _ _ => False, by simpa [Env.push] using World.ownsRow_nil w 0 e z, fun i a ha => (by simp at ha), fun i cs e => (by cases e), fun _ _ _ h => h.elim, fun _ _ h => h.elim, fun b hb => ?_⟩ (fun c hc => ?_)
    · simp [Env.push, Value.ownBlock] at hb
    · simp [Ow, Env.push, Value.ownBlock] at hc
/-- A nil slice in slot j is an own row of packs from here on. -/
theorem loopx_nilp {b : Code} {Q : KQ} {ts : List XV} {h : List It} (j e z : Nat) (hg : get ts j = .c (.v (.slice none 0 0))) (hh : lenK h fun n => setK ts j (.c (.ow n)) fun ts => snocH h (.prow e z [] none) fun h => LoopX C b Q ts h) : LoopX C b Q ts h := by
  rw [lenK_eq, setK_eq, snocH_eq] at hh
  exact loopx_cfg (fun w0 F a w => cfg_nilp j e z hg) hh
theorem relL_st {E E2 : Env} (hb : E2.bs = E.bs) : ∀ {l : List XC} {vs : List Value}, (∀ x ∈ l, St x) → RelL E l vs → RelL E2 l vs
  | [], [], _, _ => trivial
  | x :: l, v :: vs, hs, h => ⟨RelC.stable (E := E) (by rw [hb]; exact fun _ h => ⟨h, rfl⟩) _ _ (hs x (by simp)) h.1, relL_st hb (fun y hy => hs y (by simp [hy])) h.2⟩
/-- Stable cells are a pack. -/
theorem stL_pack (l : List XC) : AbsL.le (StL l) (PackL l []) := by
  rintro bs vs S w ⟨hs, E, rfl, hr⟩
  refine ⟨{ E with n := 0 }, rfl, ⟨rfl, relL_st (E := E) (E2 := { E with n := 0 }) rfl hs hr, fun k y hy => by simp at hy, fun k y b hy => by simp at hy, fun j k x y b hx => by simp at hx⟩⟩
end
end Go.Eng
