/- The engine, part K: operations in a row, and code; nothing of any program is proved here. -/
import Derived.Test.YtbhmplbckkipjaaEngJa
import Derived.Test.YtbhmplbckkipjaaEngIn
namespace Go.Eng
open Go Go.RowKit
set_option linter.unusedSimpArgs false
set_option linter.unusedVariables false

structure Cx where
  P : Program
  T : Tab
  js : List Nat
  rd : Option Nat

def FnOk (P : Program) (f : FuncId) : Prop := ∃ fn, P.funcs[f]? = some fn ∧ (fn.name == "runtime.NumGoroutine") = false ∧ fn.body.isSome = true

/-- A call of a Go function, left to its contract. -/
@[irreducible] def CallX (C : Cx) (f : FuncId) (args : List XV) (ts : List XV) (h : List It) (k : KE) : Prop :=
  FnOk C.P f ∧ ∀ w0 F E w vs us, RelTs E ts vs → RelTs E args us → Heap w0 F E h w →
    Calls C.P f us.toArray w fun e w' => ∃ u x ts' h' E', e = .returned u ∧ k x ts' h' ∧ RelV E' x u ∧ RelTs E' ts' vs ∧ Heap w0 F E' h' w'

/-- A call of yield, left to a law: a round of the loop whose record is l. -/
@[irreducible] def YieldX (C : Cx) (l : Nat) (args : List XV) (ts : List XV) (h : List It) (k : KE) : Prop :=
  ∀ w0 F E w vs us, RelTs E ts vs → RelTs E args us → Heap w0 F E h w →
    ∃ fn tmps assign body, (Instr.yield l us.toArray).run C.P w = .ok (.round l fn tmps assign body) w ∧
      RoundIn (fen C.rd) 0 C.P l fn tmps assign body w fun e w' => ∃ u x ts' h' E', e = .returned u ∧ k x ts' h' ∧ RelV E' x u ∧ RelTs E' ts' vs ∧ Heap w0 F E' h' w'
/-- Is it a loop's yield? -/
def yieldOf : XV → Option Nat
  | .c (.v (.func (.yield l) fs cs)) => (match fs.toList, cs.toList with | [], [] => some l | _, _ => none)
  | _ => none

def kindOf : Op → Nat
  | .alloc _ | .box _ _ | .buildSlice _ _ _ | .makeSlice _ _ _ | .store _ _ _ => 1
  | .call c => (match c.callee with
    | .builtin .append => 1
    | .value _ => 2
    | _ => 0)
  | _ => 0

def capL : Nat → Nat → (Nat → XC) → List XV
  | 0, _, _ => []
  | n + 1, o, c => .c (c o) :: capL n (o + 1) c

def fnOf (x : XV) (args : List XV) (k : FuncId → List XV → Prop) : Prop :=
  match x with
  | .c (.v (.func (.func f) fs cs)) => (match fs.toList, cs.toList with | [], [] => k f args | _, _ => False)
  | .c (.fn f n caps) => k f (args ++ capL n 0 caps)
  | _ => False

/-- Literals and others alike: as a contract states arguments. -/
def lowC : XC → XC
  | .il k n => .i k n
  | .bt => .b true
  | .bf => .b false
  | x => x
def lowL : List XC → (List XC → Prop) → Prop
  | [], k => k []
  | x :: l, k => forceC (lowC x) fun x => lowL l fun l => k (x :: l)
def lowV (x : XV) (k : XV → Prop) : Prop :=
  match x with
  | .c x => forceC (lowC x) fun x => k (.c x)
  | .a l => lowL l fun l => k (.a l)
  | x => forceV x k
def lowTs : List XV → (List XV → Prop) → Prop
  | [], k => k []
  | x :: l, k => lowV x fun x => lowTs l fun l => k (x :: l)
theorem lowC_rel {E : Env} {x : XC} {v : Value} (h : RelC E x v) : RelC E (lowC x) v := by cases x <;> exact h
theorem lowL_rel {E : Env} : ∀ {l : List XC} {vs : List Value} {k : List XC → Prop}, lowL l k → RelL E l vs → ∃ l', k l' ∧ RelL E l' vs
  | [], [], _, hk, _ => ⟨_, hk, trivial⟩
  | x :: l, v :: vs, k, hk, h => by
    unfold lowL at hk
    rw [forceC_eq] at hk
    obtain ⟨l', hk', hl⟩ := lowL_rel hk h.2
    exact ⟨_, hk', lowC_rel h.1, hl⟩
  | [], _ :: _, _, _, h => h.elim
  | _ :: _, [], _, _, h => h.elim
theorem lowV_rel {E : Env} {x : XV} {v : Value} {k : XV → Prop} (hk : lowV x k) (h : RelV E x v) : ∃ x', k x' ∧ RelV E x' v := by
  unfold lowV at hk
  split at hk
  · rw [forceC_eq] at hk; exact ⟨_, hk, lowC_rel h⟩
  · obtain ⟨vs, rfl, hl⟩ := h
    obtain ⟨l', hk', hl'⟩ := lowL_rel hk hl
    exact ⟨_, hk', vs, rfl, hl'⟩
  · rw [forceV_eq] at hk; exact ⟨_, hk, h⟩
theorem lowTs_rel {E : Env} : ∀ {l : List XV} {vs : List Value} {k : List XV → Prop}, lowTs l k → RelTs E l vs → ∃ l', k l' ∧ RelTs E l' vs
  | [], [], _, hk, _ => ⟨_, hk, trivial⟩
  | x :: l, v :: vs, k, hk, h => by
    unfold lowTs at hk
    obtain ⟨x', hk', hx⟩ := lowV_rel hk h.1
    obtain ⟨l', hk'', hl⟩ := lowTs_rel hk' h.2
    exact ⟨_, hk'', hx, hl⟩
  | [], _ :: _, _, _, h => h.elim
  | _ :: _, [], _, _, h => h.elim

def callGo (C : Cx) (ts : List XV) (h : List It) (op : Op) (k : KE) : Prop :=
  match op with
  | .call c => (match c.callee with
    | .value f => (match yieldOf (opv ts f) with
      | some l => lowTs (c.args.toList.map (opv ts)) fun args => YieldX C l args ts h k
      | none => fnOf (opv ts f) (c.args.toList.map (opv ts)) fun f args => lowTs args fun args => CallX C f args ts h k)
    | _ => False)
  | _ => False

abbrev KS := List XV → List It → Prop

/-- The value goes to its slot. -/
def fin (dst : Option Tmp) (x : XV) (ts : List XV) (h : List It) (k : KS) : Prop :=
  match dst with
  | some d => forceV x fun x => setK ts d x fun ts => k ts h
  | none => k ts h
theorem fin_eq (dst : Option Tmp) (x : XV) (ts : List XV) (h : List It) (k : KS) : fin dst x ts h k = k (match dst with | some d => ts.set d x | none => ts) h := by
  cases dst <;> simp only [fin, forceV_eq, setK_eq]

/-- Operations that are left to laws of their own: maps, conversions of texts, what goes into an abstract item. -/
def absAt (h : List It) (x : XV) : Bool :=
  match x with
  | .c (.q it _ _ _) => (match itemAt h it with | .abs _ => true | _ => false)
  | .c (.p it _) => (match itemAt h it with | .abs _ => true | _ => false)
  | .c (.ow it) => (match itemAt h it with | .abs _ => true | _ => false)
  | _ => false
def hookB (T : Tab) (ts : List XV) (h : List It) (op : Op) : Bool :=
  match op with
  | .lookup _ _ _ _ | .mapUpdate _ _ _ _ | .mapEntry _ _ _ | .entryStore _ _ _ _ | .makeMap _ _ | .range _ _ | .next _ _ => true
  | .call c => (match c.callee with
    | .builtin .delete | .builtin .copy | .builtin .clear | .builtin .cap => true
    | .builtin .len => (match c.args.toList with | [x] => absAt h (opv ts x) | _ => false)
    | .builtin .append => (match c.args.toList with
      | [x, _] => (match opv ts x with | .c (.ow it) => (match itemAt h it with | .abs _ => true | _ => false) | .c (.rs _ _ _) => true | _ => false)
      | _ => false)
    | _ => false)
  | .convert s d _ => (match T s, T d with
    | some { kd := .sl _, .. }, some { kd := .str, .. } => true
    | some { kd := .str, .. }, some { kd := .sl _, .. } => true
    | _, _ => false)
  | .slice _ x _ _ none => (match opv ts x with | .c (.ow _) => true | _ => false)
  | .load _ a => absAt h (opv ts a)
  | .store _ a _ => absAt h (opv ts a)
  | .indexAddr _ x _ => absAt h (opv ts x)
  | .fieldAddr _ x _ => absAt h (opv ts x)
  | _ => false
/-- An operation left to its own law. -/
@[irreducible] def OpX (C : Cx) (o : Oper) (ts : List XV) (h : List It) (k : KE) : Prop :=
  (∀ c, o.op ≠ .defer c) ∧ ∀ (w0 : Org) (F : Nat → Prop) (E : Env) (w : World) (a : Act), RelTs E ts a.tmps.toList → Heap w0 F E h w →
    ∃ nx u w' x ts' h' E', (nx = .value u ∨ (nx = .skip ∧ u = undef)) ∧ (execOp a.eval o).run C.P w = .ok nx w' ∧ k x ts' h' ∧ RelV E' x u ∧ RelTs E' ts' a.tmps.toList ∧ Heap w0 F E' h' w'

def opX (C : Cx) (o : Oper) (ts : List XV) (h : List It) (k : KS) : Prop :=
  match hookB C.T ts h o.op with
  | true => OpX C o ts h fun x ts h => fin o.dst x ts h k
  | false => match kindOf o.op with
  | 0 => valX C.T ts h (fun _ => true) o.op fun x => fin o.dst x ts h k
  | 1 => frzOps 200 (keptBy h ts o.op) ts h fun ts h => effX C.T ts h o.op fun x ts h => fin o.dst x ts h k
  | _ => callGo C ts h o.op fun x ts h => fin o.dst x ts h k

theorem put_rel {E : Env} {ts : List XV} {a : Act} {x : XV} {u : Value} (dst : Option Tmp) (hr : RelTs E ts a.tmps.toList) (hx : RelV E x u) :
    RelTs E (match dst with | some d => ts.set d x | none => ts) (a.put dst u).tmps.toList := by
  cases dst with
  | none => exact hr
  | some d => simp only [Act.put, Array.toList_setIfInBounds]; exact hr.set d hx

theorem same_refl {E : Env} {h : List It} {w : World} {w0 : Org} {F : Nat → Prop} (hp : Heap w0 F E h w) (rd : Nat → Bool) : Same E h rd w w := ⟨hp.bs, fun _ _ _ _ _ _ => rfl⟩

section
variable {C : Cx} (hT : TabOk C.P C.T)

theorem capL_rel {E : Env} {vs : Array Value} : ∀ (n o : Nat) {caps : Nat → XC}, o + n = vs.size → (∀ j, j < vs.size → ∃ u, vs[j]? = some u ∧ RelC E (caps j) u) → RelTs E (capL n o caps) (vs.toList.drop o)
  | 0, o, caps, hn, _ => by rw [List.drop_of_length_le (by simp; omega)]; trivial
  | n + 1, o, caps, hn, hc => by
    obtain ⟨u, hu, hr⟩ := hc o (by omega)
    have : vs.toList.drop o = u :: vs.toList.drop (o + 1) := by
      rw [List.drop_eq_getElem_cons (by simp; omega)]
      congr 1
      have := (Array.getElem?_eq_some_iff.1 hu).2
      simpa using this
    rw [this]
    exact ⟨hr, capL_rel n (o + 1) (by omega) hc⟩

theorem RelTs.append {E : Env} : ∀ {l l' : List XV} {vs vs' : List Value}, RelTs E l vs → RelTs E l' vs' → RelTs E (l ++ l') (vs ++ vs')
  | [], _, [], _, _, h => h
  | _ :: _, _, _ :: _, _, h, h' => ⟨h.1, RelTs.append h.2 h'⟩
  | [], _, _ :: _, _, h, _ => h.elim
  | _ :: _, _, [], _, h, _ => h.elim

theorem opvs_rel {E : Env} {ts : List XV} {a : Act} (hr : RelTs E ts a.tmps.toList) : ∀ (l : List Operand), RelTs E (l.map (opv ts)) (l.map a.eval)
  | [] => trivial
  | x :: l => ⟨opv_rel hr x, opvs_rel hr l⟩

theorem valX_noDefer {T : Tab} {ts : List XV} {h : List It} {rd : Nat → Bool} {op : Op} {k : XV → Prop} (hh : valX T ts h rd op k) : ∀ c, op ≠ .defer c := fun c e => by
  subst e; exact hh
theorem effX_noDefer {T : Tab} {ts : List XV} {h : List It} {op : Op} {k : KE} (hh : effX T ts h op k) : ∀ c, op ≠ .defer c := fun c e => by
  subst e; exact hh
theorem put_defers (a : Act) (d : Option Tmp) (u : Value) : (a.put d u).defers = a.defers := by cases d <;> rfl

include hT in
theorem opX_sound {w0 : Org} {F : Nat → Prop} {o : Oper} {ts : List XV} {h : List It} {k : KS} {K : Act → World → Prop} {Q : Exit → Act → World → Prop} {a : Act} {w : World} (hh : opX C o ts h k) (hc : Cfg w0 F ts h a w)
    (hK : ∀ ts' h' a' w', k ts' h' → Cfg w0 F ts' h' a' w' → K a' w') : o.wpIn (fen C.rd) 0 C.P a w K Q := by
  obtain ⟨w1, F1, hsub, hd, E, hr, hp⟩ := hc
  unfold opX at hh
  split at hh
  · unfold OpX at hh
    obtain ⟨hnd, hh⟩ := hh
    obtain ⟨nx, u, w', x, ts', h', E', hnx, hrun, hk, hx, hr', hp'⟩ := hh w1 F1 E w a hr hp
    rw [fin_eq] at hk
    refine fen_oper (.inr hnd) ?_
    unfold Oper.wp
    rw [hrun]
    rcases hnx with rfl | ⟨rfl, rfl⟩
    · exact hK _ _ _ _ hk ⟨w1, F1, hsub, by rw [put_defers]; exact hd, E', put_rel (a := a) o.dst hr' hx, hp'⟩
    · exact hK _ _ _ _ hk ⟨w1, F1, hsub, by rw [put_defers]; exact hd, E', put_rel (a := a) o.dst hr' hx, hp'⟩
  split at hh
  · refine fen_oper (.inr (valX_noDefer hh)) ?_
    obtain ⟨x, u, hk, hx, hrun⟩ := valX_sound hT hh hr hp
    rw [fin_eq] at hk
    unfold Oper.wp
    rw [hrun w (same_refl hp _)]
    exact hK _ _ _ _ hk ⟨w1, F1, hsub, by rw [put_defers]; exact hd, E, put_rel o.dst hr hx, hp⟩
  · replace hh := frzOps_sound 200 hh hr hp
    obtain ⟨ts1, h1, E1, hh, hr, hp⟩ := hh
    refine fen_oper (.inr (effX_noDefer hh)) ?_
    obtain ⟨nx, u, w', x, ts', h', E', hnx, hrun, hk, hx, hr', hp', _, _⟩ := effX_sound hT hh hr hp
    rw [fin_eq] at hk
    unfold Oper.wp
    rw [hrun]
    rcases hnx with rfl | ⟨rfl, rfl⟩
    · exact hK _ _ _ _ hk ⟨w1, F1, hsub, by rw [put_defers]; exact hd, E', put_rel (a := a) o.dst hr' hx, hp'⟩
    · exact hK _ _ _ _ hk ⟨w1, F1, hsub, by rw [put_defers]; exact hd, E', put_rel (a := a) o.dst hr' hx, hp'⟩
  · unfold callGo at hh
    split at hh
    case h_2 => exact hh.elim
    rename_i c hop
    obtain ⟨callee, args, argTypes⟩ := c
    simp only at hh
    have hnd : ∀ c, o.op ≠ .defer c := fun c e => by rw [hop] at e; cases e
    split at hh
    case h_2 => exact hh.elim
    rename_i f
    have hf := opv_rel hr f
    have hargs := opvs_rel hr args.toList
    split at hh
    · rename_i l hy
      obtain ⟨xs, hcall, hxs⟩ := lowTs_rel hh hargs
      unfold YieldX at hcall
      obtain ⟨fn, tmps, assign, body, hrun, hround⟩ := hcall w1 F1 E w a.tmps.toList _ hr hxs hp
      unfold yieldOf at hy
      split at hy
      case h_2 => cases hy
      rename_i l' fs cs e
      rw [e] at hf
      split at hy
      case h_2 => cases hy
      rename_i e1 e2
      cases hy
      have hfs : fs = #[] := by cases fs; simpa using e1
      have hcs : cs = #[] := by cases cs; simpa using e2
      subst hfs; subst hcs
      have hv : a.eval f = .func (.yield l) #[] #[] := hf.1
      have hm : Array.map a.eval args = (List.map a.eval args.toList).toArray := by rw [← Array.toList_map, Array.toArray_toList]
      refine ⟨fun _ _ => trivial, ?_⟩
      rw [Oper.semAt_eq _ _ _ hnd]
      have hex : (execOp a.eval o).run C.P w = .ok (.round l fn tmps assign body) w := by
        unfold execOp
        rw [hop]
        simp only [resolve, hv, Deferred.ofValue, invoke, Sem.run_bind, Sem.run_pure, Result.andThen_ok, hm]
        simpa using hrun
      rw [hex]
      refine ⟨fun h => by simp [fen] at h, hround.mono fun e w' he => ?_⟩
      obtain ⟨u, x, ts', h', E', rfl, hk, hx, hr', hp'⟩ := he
      rw [fin_eq] at hk
      exact hK _ _ _ _ hk ⟨w1, F1, hsub, by rw [put_defers]; exact hd, E', put_rel (a := a) o.dst hr' hx, hp'⟩
    refine fen_oper (.inr hnd) ?_
    have key : ∀ (g : FuncId) (xs : List XV) (us : List Value), (lowTs xs fun xs => CallX C g xs ts h (fun x ts h => fin o.dst x ts h k)) → RelTs E xs us →
        (execOp a.eval o).run C.P w = (callFunc g us.toArray).run C.P w → o.wp C.P a w K Q := by
      intro g xs us hcall hxs hex
      obtain ⟨xs, hcall, hxs⟩ := lowTs_rel hcall hxs
      unfold CallX at hcall
      obtain ⟨⟨fn, hfn, hname, hbody⟩, hcall⟩ := hcall
      have hrun : (callFunc g us.toArray).run C.P w = .ok (.enter g us.toArray) w := by
        cases hb : fn.body with
        | none => rw [hb] at hbody; cases hbody
        | some b =>
          have hne : ¬ fn.name = "runtime.NumGoroutine" := by simpa using hname
          simp [callFunc, hfn, hne, hb]
      unfold Oper.wp
      rw [hex, hrun]
      simp only [Oper.upon]
      refine (hcall w1 F1 E w a.tmps.toList us hr hxs hp).mono fun e w' he => ?_
      obtain ⟨u, x, ts', h', E', rfl, hk, hx, hr', hp'⟩ := he
      rw [fin_eq] at hk
      exact hK _ _ _ _ hk ⟨w1, F1, hsub, by rw [put_defers]; exact hd, E', put_rel (a := a) o.dst hr' hx, hp'⟩
    unfold fnOf at hh
    split at hh
    · rename_i g fs cs e
      rw [e] at hf
      split at hh
      · rename_i e1 e2
        have hfs : fs = #[] := by cases fs; simpa using e1
        have hcs : cs = #[] := by cases cs; simpa using e2
        subst hfs; subst hcs
        have hv : a.eval f = .func (.func g) #[] #[] := hf.1
        refine key g _ _ hh hargs ?_
        unfold execOp
        rw [hop]
        have hm : Array.map a.eval args = (List.map a.eval args.toList).toArray := by rw [← Array.toList_map, Array.toArray_toList]
        simp [resolve, hv, Deferred.ofValue, invoke, hm]
      · exact hh.elim
    · rename_i g n caps e
      rw [e] at hf
      obtain ⟨vs, hv, hn, hc⟩ := hf
      refine key g _ _ hh (hargs.append (by have := capL_rel (E := E) (vs := vs) n 0 (caps := caps) (by omega) (fun j hj => hc j (by omega)); simpa using this)) ?_
      unfold execOp
      rw [hop]
      simp only [resolve, hv, Deferred.ofValue, invoke, Sem.run_bind, Sem.run_pure, Result.andThen_ok]
      have hm : Array.map a.eval args ++ vs = (List.map a.eval args.toList ++ vs.toList).toArray := by rw [← Array.toList_map, ← Array.toList_append, Array.toArray_toList]
      simp [hm]
    · exact hh.elim
end
end Go.Eng
