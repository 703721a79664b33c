/- The engine, part O: answers that say less; nothing of any program is proved here. -/
import Derived.Test.YtbhmplbckkipjaaEngN
namespace Go.Eng
open Go Go.RowKit
set_option linter.unusedSimpArgs false
set_option linter.unusedVariables false

/-- The answer says at least this. -/
def Tells (v : XV) : XV → List It → Prop := fun x _ => entV x v

section
variable {C : Cx} {f : FuncId} {args : List XV} {ts : List XV} {h : List It} {k : KE}
/-- A call by contract: the caller knows what the contract tells. -/
theorem callx_tells {v : XV} (hf : Fn C.P f args (Tells v)) (hs : stXs args = true) (hv : stX v) (hk : k v ts h) : CallX C f args ts h k := by
  unfold CallX
  refine ⟨hf.ok, fun w0 F E w vs us hr hargs hp => ?_⟩
  refine (hf.run E.bs w us hp.bs (stXs_rel (E := E) (E' := ⟨E.bs, 0, fun _ => 0, fun _ => undef, fun _ _ => False⟩) rfl hs hargs)).mono fun e w' ⟨u, x, h', E', he, hR, hx, hp'⟩ => ?_
  obtain ⟨hp2, hle⟩ := hp.behind hp'
  exact ⟨u, v, ts, h, { E with bs := E'.bs }, he, hk, RelV.ofSt (E := E') (E' := { E with bs := E'.bs }) (fun b hb => ⟨hb, rfl⟩) hv (entV_rel hR hx), hr.mono hle, hp2⟩
end

/-- .. said in other words. -/
theorem callx_as {C : Cx} {f : FuncId} {args : List XV} {ts : List XV} {h : List It} {k : KE} {v : XV} (v' : XV) (hf : Fn C.P f args (Tells v)) (hs : stXs args = true) (he : entV v v') (hv : stX v') (hk : k v' ts h) : CallX C f args ts h k := by
  unfold CallX
  refine ⟨hf.ok, fun w0 F E w vs us hr hargs hp => ?_⟩
  refine (hf.run E.bs w us hp.bs (stXs_rel (E := E) (E' := ⟨E.bs, 0, fun _ => 0, fun _ => undef, fun _ _ => False⟩) rfl hs hargs)).mono fun e w' ⟨u, x, h', E', he', hR, hx, hp'⟩ => ?_
  obtain ⟨hp2, hle⟩ := hp.behind hp'
  exact ⟨u, v', ts, h, { E with bs := E'.bs }, he', hk, RelV.ofSt (E := E') (E' := { E with bs := E'.bs }) (fun b hb => ⟨hb, rfl⟩) hv (entV_rel he (entV_rel hR hx)), hr.mono hle, hp2⟩

/-- What a row needs of a contract of numbers and bools. -/
theorem Fn.row {P : Program} {f : FuncId} {xs : List XV} {v : XV} (hf : Fn P f xs (Tells v)) (w : World) {us : List Value} {u : Value} (hr : RelTs ⟨⟨w, fun _ => False⟩, 0, fun _ => 0, fun _ => undef, fun _ _ => False⟩ xs us)
    (hv : ∀ E x, RelV E v x → x = u) : Calls P f us.toArray w fun e w' => e = .returned u ∧ Below w.heap.size w w' := by
  refine (hf.run ⟨w, fun _ => False⟩ w us (fun _ h => h.elim) hr).mono fun e w' ⟨u', x, h', E', he, hR, hx, hp⟩ => ?_
  have := hv E' u' (entV_rel hR hx)
  subst this
  exact ⟨he, hp.fr.below⟩
end Go.Eng
