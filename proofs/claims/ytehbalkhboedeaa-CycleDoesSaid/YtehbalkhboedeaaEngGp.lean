/- The engine, part Gp: in a drawn statement, a call by contract up to entailment. -/
import Derived.Test.YtehbalkhboedeaaEngX
namespace Go.Eng
open Go Go.RowKit
set_option linter.unusedVariables false
theorem callp_says {C : Cx} {f : FuncId} {args : List XV} {h : List It} {k : XV → Prop} {args' : List XV} {v : XV} (hf : Fn C.P f args' (Tells v)) (hl : entVs args args') (hs : stXs args' = true) (hv : stX v) (hk : k v) : CallP C f args h k := by
  unfold CallP
  refine ⟨hf.ok, v, hk, fun w0 F E w us hargs hp => ?_⟩
  refine (hf.run E.bs w us hp.bs (stXs_rel (E := E) (E' := ⟨E.bs, 0, fun _ => 0, fun _ => undef, fun _ _ => False⟩) rfl hs (entVs_rel hl hargs))).mono fun e w' ⟨u, x, h', E', he, hR, hx, hp'⟩ => ?_
  obtain ⟨hp2, hle⟩ := hp.behind hp'
  exact ⟨u, { E with bs := E'.bs }, he, hle, RelV.ofSt (E := E') (E' := { E with bs := E'.bs }) (fun b hb => ⟨hb, rfl⟩) hv (entV_rel hR hx), hp2⟩
end Go.Eng
