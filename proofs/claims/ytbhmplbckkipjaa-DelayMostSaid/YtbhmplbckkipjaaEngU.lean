/- The engine, part U: a statement whose order is drawn and whose operations each tell one thing, whatever the order; rows laid aside as a function returns; nil slices as own rows. Nothing of any program is proved here. -/
import Derived.Test.YtbhmplbckkipjaaEngT
namespace Go.Eng
open Go Go.RowKit
set_option linter.unusedSimpArgs false
set_option linter.unusedVariables false

/-! ### answers laid aside -/
def lendW (h : List It) : XW → XW
  | .c x => .c (lendC h x)
  | .a l => .a (l.map (lendC h))
def lendX (h : List It) : XV → XV
  | .c x => .c (lendC h x)
  | .a l => .a (l.map (lendC h))
  | .t l => .t (l.map (lendW h))
  | .un => .un
/-- The answer says at least this, once all that the function owns is laid aside. -/
def TellsZ (v : XV) : XV → List It → Prop := fun x h => entV (lendX h x) v

section
variable {E : Env} {h : List It} {w0 : Org} {w : World} {F : Nat → Prop}
theorem lendL_rel (hp : Heap w0 F E h w) : ∀ {l : List XC} {vs : List Value}, RelL E l vs → RelL (E.lent h w) (l.map (lendC h)) vs
  | [], [], _ => trivial
  | _ :: _, _ :: _, hr => ⟨lendC_rel hp hr.1, lendL_rel hp hr.2⟩
  | [], _ :: _, hr => hr.elim
  | _ :: _, [], hr => hr.elim
theorem lendWs_rel (hp : Heap w0 F E h w) : ∀ {l : List XW} {vs : List Value}, RelWs E l vs → RelWs (E.lent h w) (l.map (lendW h)) vs
  | [], [], _ => trivial
  | .c _ :: _, _ :: _, hr => ⟨lendC_rel hp hr.1, lendWs_rel hp hr.2⟩
  | .a _ :: _, _ :: _, hr => ⟨by obtain ⟨us, e, hl⟩ := hr.1; exact ⟨us, e, lendL_rel hp hl⟩, lendWs_rel hp hr.2⟩
  | [], _ :: _, hr => hr.elim
  | .c _ :: _, [], hr => hr.elim
  | .a _ :: _, [], hr => hr.elim
theorem lendX_rel (hp : Heap w0 F E h w) {x : XV} {v : Value} (hr : RelV E x v) : RelV (E.lent h w) (lendX h x) v := by
  cases x with
  | un => trivial
  | c x => exact lendC_rel hp hr
  | a l => obtain ⟨vs, rfl, hl⟩ := hr; exact ⟨vs, rfl, lendL_rel hp hl⟩
  | t l => obtain ⟨vs, rfl, hl⟩ := hr; exact ⟨vs, rfl, lendWs_rel hp hl⟩

/-- All is laid aside. -/
theorem Heap.shut (hp : Heap w0 F E h w) : Heap w0 F { E.lent h w with n := 0 } [] w := by
  have hle : EnvLe E (E.lent h w) := hp.le_more
  refine ⟨hp.lent_ok, hp.le.trans hle.bs, ?_, rfl, fun k x hx => by simp at hx, fun k x b hx => by simp at hx, fun j k x y b hx => by simp at hx, hp.fr⟩
  rintro b (hb | ⟨k, x, hx, hb⟩)
  · exact hp.nb b hb
  · exact .inr (hp.own k x b hx hb).2.2
end

/-- A function that tells this once all that it made is laid aside. -/
theorem Fn.shut {P : Program} {f : FuncId} {xs : List XV} {v : XV} (hv : stX v) (hf : Fn P f xs (TellsZ v)) : Fn P f xs (Tells v) :=
  ⟨hf.ok, fun bs w us hbs hr => (hf.run bs w us hbs hr).mono fun e w' ⟨u, x, h', E', he, hR, hx, hp⟩ =>
    ⟨u, v, [], { E'.lent h' w' with n := 0 }, he, by
      unfold Tells
      exact entV_refl v, RelV.ofSt (E := E'.lent h' w') (E' := { E'.lent h' w' with n := 0 }) (fun b hb => ⟨hb, rfl⟩) hv (entV_rel hR (lendX_rel hp hx)), hp.shut⟩⟩

/-- .. from its code. -/
theorem Fn.ofZ {P : Program} {T : Tab} (hT : TabOk P T) {f : FuncId} {fn : Func} (hf : P.funcs[f]? = some fn) (hb : fn.body.isSome = true) (hn : (fn.name == "runtime.NumGoroutine") = false) {xs : List XV} {v : XV} (hv : stX v)
    (hh : ∀ w0 : Org, fnX ⟨P, T, [], none⟩ fn xs [] (TellsZ v)) : Fn P f xs (Tells v) :=
  (Fn.of hT hf hb hn hh).shut hv
theorem Fn.ofZJ {P : Program} {T : Tab} (hT : TabOk P T) (js : List Nat) {f : FuncId} {fn : Func} (hf : P.funcs[f]? = some fn) (hb : fn.body.isSome = true) (hn : (fn.name == "runtime.NumGoroutine") = false) {xs : List XV} {v : XV} (hv : stX v)
    (hh : ∀ w0 : Org, fnX ⟨P, T, js, none⟩ fn xs [] (TellsZ v)) : Fn P f xs (Tells v) :=
  (Fn.ofJ hT js hf hb hn hh).shut hv

/-! ### nil slices as own rows -/
section
variable {C : Cx}
theorem cfg_nil {w0 : Org} {F : Nat → Prop} {ts : List XV} {h : List It} {a : Act} {w : World} (j e z : Nat) (hg : get ts j = .c (.v (.slice none 0 0))) (hc : Cfg w0 F ts h a w) :
    Cfg w0 F (ts.set j (.c (.ow h.length))) (h ++ [.row e z []]) a w := by
  obtain ⟨w1, F1, hsub, hd, E, hr, hp⟩ := hc
  have hv := hr.get j
  rw [hg] at hv
  have hv : a.tmps.toList.getD j undef = .slice none 0 0 := hv.1
  have hle := Env.push_le E 0 (.slice none 0 0)
  refine ⟨w1, F1, hsub, hd, E.push 0 (.slice none 0 0), ?_, ?_⟩
  · refine RelTs.set_self j (hr.mono hle) ?_
    rw [hv]
    exact ⟨by simp [Env.push, hp.n], by simp [Env.push, hp.n], rfl⟩
  · refine hp.push (Fr.refl _ _) ⟨[], by simpa [Env.push] using World.ownsRow_nil w 0 e z, trivial, by simp, by simp⟩ (fun c hc => ?_)
    simp [Ow, Env.push, Value.ownBlock] at hc
theorem loopx_cfg {b : Code} {Q : KQ} {ts ts' : List XV} {h h' : List It} (hc : ∀ w0 F a w, Cfg w0 F ts h a w → Cfg w0 F ts' h' a w) (hh : LoopX C b Q ts' h') : LoopX C b Q ts h := by
  unfold LoopX at *
  exact fun w0 F Q' a w hQ hcfg => hh w0 F Q' a w hQ (hc w0 F a w hcfg)
theorem scopex_cfg {b : Code} {Q : KQ} {ts ts' : List XV} {h h' : List It} (hc : ∀ w0 F a w, Cfg w0 F ts h a w → Cfg w0 F ts' h' a w) (hh : ScopeX C b Q ts' h') : ScopeX C b Q ts h := by
  unfold ScopeX at *
  exact fun w0 F Q' a w hQ hcfg => hh w0 F Q' a w hQ (hc w0 F a w hcfg)
/-- A nil slice in slot j is an own row from here on. -/
theorem loopx_nil {b : Code} {Q : KQ} {ts : List XV} {h : List It} (j e z : Nat) (hg : get ts j = .c (.v (.slice none 0 0))) (hh : lenK h fun n => setK ts j (.c (.ow n)) fun ts => snocH h (.row e z []) fun h => LoopX C b Q ts h) : LoopX C b Q ts h := by
  rw [lenK_eq, setK_eq, snocH_eq] at hh
  exact loopx_cfg (fun w0 F a w => cfg_nil j e z hg) hh
theorem scopex_nil {b : Code} {Q : KQ} {ts : List XV} {h : List It} (j e z : Nat) (hg : get ts j = .c (.v (.slice none 0 0))) (hh : lenK h fun n => setK ts j (.c (.ow n)) fun ts => snocH h (.row e z []) fun h => ScopeX C b Q ts h) : ScopeX C b Q ts h := by
  rw [lenK_eq, setK_eq, snocH_eq] at hh
  exact scopex_cfg (fun w0 F a w => cfg_nil j e z hg) hh
end
end Go.Eng
