/- The engine, part O: answers that say less; nothing of any program is proved here. -/
import Derived.Test.YtcagncomnjeinaaEngN
namespace Go.Eng
open Go Go.RowKit
set_option linter.unusedSimpArgs false
set_option linter.unusedVariables false

/-- A cell that says at least what another one says. -/
def entC : XC → XC → Prop
  | .il k n, y => (match y with | .i k' m => k = k' ∧ n = m | .un => True | y => XC.il k n = y)
  | .i k n, y => (match y with | .i k' m => k = k' ∧ n = m | .un => True | y => XC.i k n = y)
  | .bt, y => (match y with | .b b => b = true | .un => True | y => XC.bt = y)
  | .bf, y => (match y with | .b b => b = false | .un => True | y => XC.bf = y)
  | .b x, y => (match y with | .b b => x = b | .bt => x = true | .bf => x = false | .un => True | y => XC.b x = y)
  | .v x, y => (match y with | .v x' => x = x' | .un => True | y => XC.v x = y)
  | .rs n z f, y => (match y with | .rs n' z' g => n = n' ∧ z = z' ∧ (∀ i, i < n' → ∀ j, j < z' → f i j = g i j) | .un => True | y => XC.rs n z f = y)
  | x, y => y = .un ∨ x = y
def entL : List XC → List XC → Prop
  | [], [] => True
  | x :: l, y :: m => entC x y ∧ entL l m
  | _, _ => False
def entW : XW → XW → Prop
  | .c x, .c y => entC x y
  | .a l, .a m => entL l m
  | _, _ => False
def entWs : List XW → List XW → Prop
  | [], [] => True
  | x :: l, y :: m => entW x y ∧ entWs l m
  | _, _ => False
def entV : XV → XV → Prop
  | .c x, .c y => entC x y
  | .a l, .a m => entL l m
  | .t l, .t m => entWs l m
  | x, y => y = .un ∨ x = y

theorem entC_rel {E : Env} {x y : XC} {v : Value} (h : entC x y) (hr : RelC E x v) : RelC E y v := by
  have hone := hr.one
  cases x
  case rs n z f =>
    cases y <;> simp only [entC] at h
    case un => exact hone
    case rs n' z' g =>
      obtain ⟨rfl, rfl, hfg⟩ := h
      obtain ⟨A, c, rfl, h1, h2, h3⟩ := hr
      refine ⟨A, c, rfl, h1, h2, fun i hi => ?_⟩
      obtain ⟨ad, hA, h4⟩ := h3 i hi
      exact ⟨ad, hA, fun j hj => by rw [← hfg i hi j hj]; exact h4 j hj⟩
    all_goals cases h
  all_goals
    cases y <;> simp only [entC] at h <;> (first
      | exact hone
      | (obtain ⟨rfl, rfl⟩ := h; exact hr)
      | (subst h; exact hr)
      | (cases h; done)
      | (rcases h with h | h <;> first | (cases h; done) | (cases h; exact hr) | (rw [← h]; exact hr))
      | (rw [← h]; exact hr))
theorem entL_rel {E : Env} : ∀ {l m : List XC} {vs : List Value}, entL l m → RelL E l vs → RelL E m vs
  | [], [], _, _, h => h
  | _ :: _, _ :: _, [], _, h => h.elim
  | _ :: _, _ :: _, _ :: _, he, h => ⟨entC_rel he.1 h.1, entL_rel he.2 h.2⟩
  | [], _ :: _, _, he, _ => he.elim
  | _ :: _, [], _, he, _ => he.elim
theorem entW_rel {E : Env} {x y : XW} {v : Value} (h : entW x y) (hr : RelW E x v) : RelW E y v := by
  cases x <;> cases y
  · exact entC_rel h hr
  · exact h.elim
  · exact h.elim
  · obtain ⟨vs, e, h1⟩ := hr; exact ⟨vs, e, entL_rel h h1⟩
theorem entWs_rel {E : Env} : ∀ {l m : List XW} {vs : List Value}, entWs l m → RelWs E l vs → RelWs E m vs
  | [], [], _, _, h => h
  | _ :: _, _ :: _, [], _, h => h.elim
  | _ :: _, _ :: _, _ :: _, he, h => ⟨entW_rel he.1 h.1, entWs_rel he.2 h.2⟩
  | [], _ :: _, _, he, _ => he.elim
  | _ :: _, [], _, he, _ => he.elim
theorem entV_rel {E : Env} {x y : XV} {v : Value} (h : entV x y) (hr : RelV E x v) : RelV E y v := by
  cases x <;> cases y <;> simp only [entV] at h <;> (first
    | exact trivial
    | exact entC_rel h hr
    | (obtain ⟨vs, e, h1⟩ := hr; exact ⟨vs, e, entL_rel h h1⟩)
    | (obtain ⟨vs, e, h1⟩ := hr; exact ⟨vs, e, entWs_rel h h1⟩)
    | (rcases h with h | h <;> cases h))

/-- The answer says at least this. -/
def Tells (v : XV) : XV → List It → Prop := fun x _ => entV x v

section
variable {C : Cx} {f : FuncId} {args : List XV} {ts : List XV} {h : List It} {k : KE}
/-- A call by contract: the caller knows what the contract tells. -/
theorem callx_tells {v : XV} (hf : Fn C.P f args (Tells v)) (hs : stXs args = true) (hv : stX v) (hk : k v ts h) : CallX C f args ts h k := by
  unfold CallX
  refine ⟨hf.ok, fun E w vs us hr hargs hp => ?_⟩
  refine (hf.run E.bs w us hp.bs (stXs_rel (E := E) (E' := ⟨E.bs, 0, fun _ => 0, fun _ => undef⟩) rfl hs hargs)).mono fun e w' ⟨u, x, h', E', he, hR, hx, hp'⟩ => ?_
  obtain ⟨hp2, hle⟩ := hp.behind hp'
  exact ⟨u, v, ts, h, { E with bs := E'.bs }, he, hk, RelV.ofSt (E := E') (E' := { E with bs := E'.bs }) (fun b hb => ⟨hb, rfl⟩) hv (entV_rel hR hx), hr.mono hle, hp2⟩
end

/-- .. said in other words. -/
theorem callx_as {C : Cx} {f : FuncId} {args : List XV} {ts : List XV} {h : List It} {k : KE} {v : XV} (v' : XV) (hf : Fn C.P f args (Tells v)) (hs : stXs args = true) (he : entV v v') (hv : stX v') (hk : k v' ts h) : CallX C f args ts h k := by
  unfold CallX
  refine ⟨hf.ok, fun E w vs us hr hargs hp => ?_⟩
  refine (hf.run E.bs w us hp.bs (stXs_rel (E := E) (E' := ⟨E.bs, 0, fun _ => 0, fun _ => undef⟩) rfl hs hargs)).mono fun e w' ⟨u, x, h', E', he', hR, hx, hp'⟩ => ?_
  obtain ⟨hp2, hle⟩ := hp.behind hp'
  exact ⟨u, v', ts, h, { E with bs := E'.bs }, he', hk, RelV.ofSt (E := E') (E' := { E with bs := E'.bs }) (fun b hb => ⟨hb, rfl⟩) hv (entV_rel he (entV_rel hR hx)), hr.mono hle, hp2⟩

/-- What a row needs of a contract of numbers and bools. -/
theorem Fn.row {P : Program} {f : FuncId} {xs : List XV} {v : XV} (hf : Fn P f xs (Tells v)) (w : World) {us : List Value} {u : Value} (hr : RelTs ⟨⟨w, fun _ => False⟩, 0, fun _ => 0, fun _ => undef⟩ xs us)
    (hv : ∀ E x, RelV E v x → x = u) : Calls P f us.toArray w fun e w' => e = .returned u ∧ Below w.heap.size w w' := by
  refine (hf.run ⟨w, fun _ => False⟩ w us (fun _ h => h.elim) hr).mono fun e w' ⟨u', x, h', E', he, hR, hx, hp⟩ => ?_
  have := hv E' u' (entV_rel hR hx)
  subst this
  exact ⟨he, hp.fr.below⟩
end Go.Eng
