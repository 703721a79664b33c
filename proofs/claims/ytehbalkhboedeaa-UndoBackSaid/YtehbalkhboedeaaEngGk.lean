/- The engine, part Gk: contracts that say less; calls in drawn statements up to entailment. Nothing of any program is proved here. -/
import Derived.Test.YtehbalkhboedeaaEngX
namespace Go.Eng
open Go Go.RowKit
set_option linter.unusedVariables false
/-- A contract that says less of the answer. -/
theorem Fn.less {P : Program} {f : FuncId} {xs : List XV} {v v' : XV} (hf : Fn P f xs (Tells v)) (h : entV v v') : Fn P f xs (Tells v') :=
  ⟨hf.ok, fun bs w us hb hr => (hf.run bs w us hb hr).mono fun e w' ⟨u, x, h', E', he, hR, hx, hp'⟩ => ⟨u, v', h', E', he, entV_refl _, entV_rel h (entV_rel hR hx), hp'⟩⟩
/-- A call by contract in a drawn statement, up to entailment. -/
theorem callf_lent {C : Cx} {f : FuncId} {args : List XV} {ts : List XV} {h : List It} {k : KE} {args' : List XV} {v : XV} (hf : Fn C.P f args' (Tells v)) (hl : entVs (args.map (lendV h)) args') (hs : stXs args' = true) (hv : flatV v = true) (hk : k v ts h) : CallF C f args ts h k := by
  unfold CallF
  refine ⟨hf.ok, fun w0 F E w vs us hr hargs hp => ?_⟩
  refine (hf.run (E.lent h w).bs w us hp.lent_ok (stXs_rel (E := E.lent h w) (E' := ⟨(E.lent h w).bs, 0, fun _ => 0, fun _ => undef, fun _ _ => False⟩) rfl hs (entVs_rel hl (lendTs_rel hp hargs)))).mono fun e w' ⟨u, x, h', E', he, hR, hx, hp'⟩ => ?_
  exact ⟨u, v, ts, h, E, he, hk, flatV_rel hv (entV_rel hR hx), hr, hp.stays hp'.fr, ⟨hp'.fr.size, fun b hb _ => hp'.fr.block b hb (fun x => x)⟩, ⟨rfl, Nat.le_refl _, fun k y b hy hb => .inl ⟨y, hy, hb⟩⟩⟩
end Go.Eng
