/- The engine, part Q: a statement whose order is drawn and that only reads; nothing of any program is proved here. -/
import Derived.Test.YtcagncomnjeinaaEngP
import Derived.Deep.Quiet
namespace Go.Eng
open Go Go.RowKit
set_option linter.unusedSimpArgs false
set_option linter.unusedVariables false

/-- A call that only reads and whose answer is one value. -/
@[irreducible] def CallQ (C : Cx) (f : FuncId) (args : List XV) (h : List It) (k : XV → Prop) : Prop :=
  FnOk C.P f ∧ ∃ x u, k x ∧ (∀ E, RelV E x u) ∧ ∀ E w us, RelTs E args us → Heap C.w0 C.F E h w → Calls C.P f us.toArray w fun e w' => e = .returned u ∧ Fr (fun _ => False) w w'

def finQ (dst : Option Tmp) (x : XV) (ts : List XV) (k : List XV → Prop) : Prop :=
  match dst with
  | some d => forceV x fun x => setK ts d x k
  | none => k ts
theorem finQ_eq (dst : Option Tmp) (x : XV) (ts : List XV) (k : List XV → Prop) : finQ dst x ts k = k (match dst with | some d => ts.set d x | none => ts) := by
  cases dst <;> simp only [finQ, forceV_eq, setK_eq]

def quCall (C : Cx) (ts : List XV) (h : List It) (op : Op) (k : XV → Prop) : Prop :=
  match op with
  | .call c => (match c.callee with
    | .value f => fnOf (opv ts f) (c.args.toList.map (opv ts)) fun f args => lowTs args fun args => CallQ C f args h k
    | _ => False)
  | _ => False

def quOp (C : Cx) (o : Oper) (ts : List XV) (h : List It) (k : List XV → Prop) : Prop :=
  match kindOf o.op with
  | 0 => valX C.T ts h (fun _ => true) o.op fun x => finQ o.dst x ts k
  | 2 => quCall C ts h o.op fun x => finQ o.dst x ts k
  | _ => False

def quX (C : Cx) (all : List Oper) (h : List It) : List Oper → List XV → (List XV → Prop) → Prop
  | [], ts, k => k ts
  | o :: rest, ts, k => (match o.guard with
    | none => quOp C o ts h fun ts => quX C all h rest ts k
    | some (j, want) => (match dstAt all j with
      | none => False
      | some d => (match get ts d, want with
        | .c .bt, true => quOp C o ts h fun ts => quX C all h rest ts k
        | .c .bf, false => quOp C o ts h fun ts => quX C all h rest ts k
        | .c .bt, false => finQ o.dst (.t []) ts fun ts => quX C all h rest ts k
        | .c .bf, true => finQ o.dst (.t []) ts fun ts => quX C all h rest ts k
        | .t [], _ => finQ o.dst (.t []) ts fun ts => quX C all h rest ts k
        | .c (.b x), true => (x = true → setK ts d (.c .bt) fun ts => quOp C o ts h fun ts => quX C all h rest ts k) ∧
            (x = false → setK ts d (.c .bf) fun ts => finQ o.dst (.t []) ts fun ts => quX C all h rest ts k)
        | .c (.b x), false => (x = true → setK ts d (.c .bt) fun ts => finQ o.dst (.t []) ts fun ts => quX C all h rest ts k) ∧
            (x = false → setK ts d (.c .bf) fun ts => quOp C o ts h fun ts => quX C all h rest ts k)
        | _, _ => False)))

section
variable {C : Cx} (hT : TabOk C.P C.T) {E : Env} {h : List It} {w : World}

/-- The worlds that a reading statement passes through. -/
def Later (w : World) : World → Prop := fun w' => Fr (fun _ => False) w w'

theorem Heap.later (hp : Heap C.w0 C.F E h w) {w' : World} (hf : Later w w') : Heap C.w0 C.F E h w' := by
  have keep : ∀ k, k < w.heap.size → w'.heap[k]? = w.heap[k]? := fun k hk => hf.block k hk (fun x => x)
  refine ⟨fun k hB => ⟨Nat.lt_of_lt_of_le (hp.bs k hB).1 hf.size, (keep k (hp.bs k hB).1).trans (hp.bs k hB).2⟩, hp.le, hp.nb, hp.n, ?_, ?_, hp.sep, ?_⟩
  · intro k x hx
    exact (hp.ok k x hx).of_block fun b hb => keep b (hp.own k x b hx hb).1
  · intro k x b hx hb
    have h1 := hp.own k x b hx hb
    exact ⟨Nat.lt_of_lt_of_le h1.1 hf.size, h1.2⟩
  · exact ⟨hf.os.trans hp.fr.os, hf.tape.trans hp.fr.tape, hf.output.trans hp.fr.output, Nat.le_trans hp.fr.size hf.size,
      fun k hk hF => (keep k (Nat.lt_of_lt_of_le hk hp.fr.size)).trans (hp.fr.block k hk hF)⟩

theorem Heap.same (hp : Heap C.w0 C.F E h w) {w' : World} (hf : Later w w') (rd : Nat → Bool) : Same E h rd w w' :=
  ⟨(hp.later hf).bs, fun k x b hx _ hb => hf.block b (hp.own k x b hx hb).1 (fun x => x)⟩

include hT in
theorem quOp_sound {o : Oper} {ts : List XV} {k : List XV → Prop} {a : Act} (hh : quOp C o ts h k) (hr : RelTs E ts a.tmps.toList) (hp : Heap C.w0 C.F E h w) :
    ∃ ts' v, k ts' ∧ RelTs E ts' (a.put o.dst v).tmps.toList ∧ ∀ w', Later w w' → o.quietAt C.P a (Later w) w' v := by
  unfold quOp at hh
  split at hh
  · obtain ⟨x, u, hk, hx, hrun⟩ := valX_sound hT hh hr hp
    rw [finQ_eq] at hk
    refine ⟨_, u, hk, put_rel o.dst hr hx, fun w' hw' => ?_⟩
    unfold Oper.quietAt
    rw [hrun w' (hp.same hw' _)]
    exact ⟨rfl, rfl⟩
  · unfold quCall at hh
    split at hh
    case h_2 => exact hh.elim
    rename_i c hop
    obtain ⟨callee, args, argTypes⟩ := c
    simp only at hh
    split at hh
    case h_2 => exact hh.elim
    rename_i f
    have hf := opv_rel hr f
    have hargs := opvs_rel hr args.toList
    have key : ∀ (g : FuncId) (xs : List XV) (us : List Value), (lowTs xs fun xs => CallQ C g xs h (fun x => finQ o.dst x ts k)) → RelTs E xs us →
        (∀ w, (execOp a.eval o).run C.P w = (callFunc g us.toArray).run C.P w) → ∃ ts' v, k ts' ∧ RelTs E ts' (a.put o.dst v).tmps.toList ∧ ∀ w', Later w w' → o.quietAt C.P a (Later w) w' v := by
      intro g xs us hcall hxs hex
      obtain ⟨xs, hcall, hxs⟩ := lowTs_rel hcall hxs
      unfold CallQ at hcall
      obtain ⟨⟨fn, hfn, hname, hbody⟩, x, u, hk, hdet, hcall⟩ := hcall
      have hrun : ∀ w, (callFunc g us.toArray).run C.P w = .ok (.enter g us.toArray) w := by
        intro w
        cases hb : fn.body with
        | none => rw [hb] at hbody; cases hbody
        | some b =>
          have hne : ¬ fn.name = "runtime.NumGoroutine" := by simpa using hname
          simp [callFunc, hfn, hne, hb]
      rw [finQ_eq] at hk
      refine ⟨_, u, hk, put_rel o.dst hr (hdet E), fun w' hw' => ?_⟩
      unfold Oper.quietAt
      rw [hex, hrun]
      refine ⟨rfl, (hcall E w' us hxs (hp.later hw')).mono fun e w'' he => ⟨he.1, Fr.trans hw' he.2⟩⟩
    unfold fnOf at hh
    split at hh
    · rename_i g fs cs e
      rw [e] at hf
      split at hh
      · rename_i e1 e2
        have hfs : fs = #[] := by cases fs; simpa using e1
        have hcs : cs = #[] := by cases cs; simpa using e2
        subst hfs; subst hcs
        have hv : a.eval f = .func (.func g) #[] #[] := hf.1
        refine key g _ _ hh hargs fun w => ?_
        unfold execOp
        rw [hop]
        have hm : Array.map a.eval args = (List.map a.eval args.toList).toArray := by rw [← Array.toList_map, Array.toArray_toList]
        simp [resolve, hv, Deferred.ofValue, invoke, hm]
      · exact hh.elim
    · rename_i g n caps e
      rw [e] at hf
      obtain ⟨vs, hv, hn, hc⟩ := hf
      refine key g _ _ hh (hargs.append (by have := capL_rel (E := E) (vs := vs) n 0 (caps := caps) (by omega) (fun j hj => hc j (by omega)); simpa using this)) fun w => ?_
      unfold execOp
      rw [hop]
      simp only [resolve, hv, Deferred.ofValue, invoke, Sem.run_bind, Sem.run_pure, Result.andThen_ok]
      have hm : Array.map a.eval args ++ vs = (List.map a.eval args.toList ++ vs.toList).toArray := by rw [← Array.toList_map, ← Array.toList_append, Array.toArray_toList]
      simp [hm]
    · exact hh.elim
  · exact hh.elim

include hT in
theorem quX_sound {all : List Oper} (hp : Heap C.w0 C.F E h w) {Q : Act → Prop} : ∀ {l : List Oper} {ts : List XV} {k : List XV → Prop} {a : Act}, quX C all h l ts k → a.defers = [] → RelTs E ts a.tmps.toList →
    (∀ ts' a', k ts' → a'.defers = [] → RelTs E ts' a'.tmps.toList → Q a') → wpQuiet C.P all.toArray (Later w) Q l a
  | [], ts, k, a, hh, hd, hr, hK => hK _ _ hh hd hr
  | o :: rest, ts, k, a, hh, hd, hr, hK => by
    have run : ∀ {ts : List XV}, (quOp C o ts h fun ts => quX C all h rest ts k) → RelTs E ts a.tmps.toList → o.quiet C.P a (Later w) (wpQuiet C.P all.toArray (Later w) Q rest) := by
      intro ts hh hr
      obtain ⟨ts', v, hk, hr', hq⟩ := quOp_sound hT hh hr hp
      exact ⟨v, hq, quX_sound hp hk (by cases hdst : o.dst <;> simp [Act.put, hd]) hr' hK⟩
    have skip : ∀ {ts : List XV}, (finQ o.dst (.t []) ts fun ts => quX C all h rest ts k) → RelTs E ts a.tmps.toList → wpQuiet C.P all.toArray (Later w) Q rest (a.put o.dst undef) := by
      intro ts hh hr
      rw [finQ_eq] at hh
      exact quX_sound hp hh (by cases hdst : o.dst <;> simp [Act.put, hd]) (put_rel o.dst hr (undef_rel E)) hK
    unfold quX at hh
    unfold wpQuiet
    split at hh
    · rename_i hg
      rw [if_pos (by simp [Region.wanted, hg])]
      exact run hh hr
    · rename_i j want hg
      split at hh
      case h_1 => exact hh.elim
      rename_i d hd'
      rw [wanted_of hg]
      have hv := hr.get d
      split at hh
      · rename_i e; rw [e] at hv
        rw [yielded_of hd' (show _ = Value.bool true from hv), if_pos (by simp)]; exact run hh hr
      · rename_i e; rw [e] at hv
        rw [yielded_of hd' (show _ = Value.bool false from hv), if_pos (by simp)]; exact run hh hr
      · rename_i e; rw [e] at hv
        rw [yielded_of hd' (show _ = Value.bool true from hv), if_neg (by simp)]; exact skip hh hr
      · rename_i e; rw [e] at hv
        rw [yielded_of hd' (show _ = Value.bool false from hv), if_neg (by simp)]; exact skip hh hr
      · rename_i e; rw [e] at hv
        obtain ⟨vs, hvs, hws⟩ := hv
        have : vs = #[] := by
          cases vs with
          | mk l => cases l with
            | nil => rfl
            | cons _ _ => exact hws.elim
        subst this
        rw [yielded_undef hd' hvs, if_neg (by simp)]; exact skip hh hr
      · rename_i x e; rw [e] at hv
        have hv : _ = Value.bool x := hv
        rw [yielded_of hd' hv]
        cases x
        · have h1 := hh.2 rfl
          rw [setK_eq] at h1
          rw [if_neg (by simp)]
          exact skip h1 (hr.set_self d (show RelC E .bf _ from hv))
        · have h1 := hh.1 rfl
          rw [setK_eq] at h1
          rw [if_pos (by simp)]
          exact run h1 (hr.set_self d (show RelC E .bt _ from hv))
      · rename_i x e; rw [e] at hv
        have hv : _ = Value.bool x := hv
        rw [yielded_of hd' hv]
        cases x
        · have h1 := hh.2 rfl
          rw [setK_eq] at h1
          rw [if_pos (by simp)]
          exact run h1 (hr.set_self d (show RelC E .bf _ from hv))
        · have h1 := hh.1 rfl
          rw [setK_eq] at h1
          rw [if_neg (by simp)]
          exact skip h1 (hr.set_self d (show RelC E .bt _ from hv))
      · exact hh.elim

include hT in
/-- A statement whose order is drawn, all of which reads: walked in the text's order. -/
theorem drawx_quiet {id : Nat} {ops : List Oper} {k : KS} {ts : List XV} {h : List It} (hm : C.P.follows .mixedOrders = true) (hB : Region.lexB .any ops.toArray = true) (hh : quX C ops h ops ts fun ts => k ts h) : DrawX C id ops k ts h := by
  unfold DrawX
  intro Q' a w hK hc
  obtain ⟨hd, E, hr, hp⟩ := hc
  refine wp_region_quiet (C := Later w) hm hB ⟨rfl, rfl, rfl, Nat.le_refl _, fun _ _ _ => rfl⟩ ?_
  have : ops.toArray.toList = ops := by simp
  rw [this]
  exact quX_sound hT hp hh hd hr fun ts' a' hk hd' hr' w' hw' => hK _ _ _ _ hk ⟨hd', E, hr', hp.later hw'⟩
end

/-- Values that are one, whatever memory is. -/
def detB : XV → Bool
  | .c (.v x) => x.oneCell'
  | .c (.il _ _) => true
  | .c (.i _ _) => true
  | .c .bt => true
  | .c .bf => true
  | .c (.b _) => true
  | _ => false
theorem detB_spec {v : XV} (hv : detB v = true) : ∃ u, (∀ E, RelV E v u) ∧ ∀ E u', RelV E v u' → u' = u := by
  match v, hv with
  | .c (.v x), hv => exact ⟨x, fun E => ⟨rfl, hv⟩, fun E u' h => h.1⟩
  | .c (.il k n), _ => exact ⟨_, fun E => (rfl : _ = Value.int k n), fun E u' h => h⟩
  | .c (.i k n), _ => exact ⟨_, fun E => (rfl : _ = Value.int k n), fun E u' h => h⟩
  | .c .bt, _ => exact ⟨_, fun E => (rfl : _ = Value.bool true), fun E u' h => h⟩
  | .c .bf, _ => exact ⟨_, fun E => (rfl : _ = Value.bool false), fun E u' h => h⟩
  | .c (.b x), _ => exact ⟨_, fun E => (rfl : _ = Value.bool x), fun E u' h => h⟩

/-- The call of a contract, inside such a statement. -/
theorem callq_tells {C : Cx} {f : FuncId} {args : List XV} {h : List It} {k : XV → Prop} {v : XV} (hf : Fn C.P f args (Tells v)) (hs : stXs args = true)
    (hv : detB v = true) (hk : k v) : CallQ C f args h k := by
  unfold CallQ
  obtain ⟨u, hu, huniq⟩ := detB_spec hv
  refine ⟨hf.ok, v, u, hk, hu, fun E w us hargs hp => ?_⟩
  refine (hf.run E.bs w us hp.bs (stXs_rel (E := E) (E' := ⟨E.bs, 0, fun _ => 0, fun _ => undef, fun _ _ => False⟩) rfl hs hargs)).mono fun e w' ⟨u', x, h', E', he, hR, hx, hp'⟩ => ?_
  have := huniq E' u' (entV_rel hR hx)
  subst this
  exact ⟨he, hp'.fr⟩
end Go.Eng
