/- The engine, part T: a statement whose order is drawn and that writes, by a plan of orders; nothing of any program is proved here. -/
import Derived.Test.YtbhmplbckkipjaaEngSa
import Derived.OrdersHeld
namespace Go.Eng
open Go Go.RowKit
set_option linter.unusedSimpArgs false
set_option linter.unusedVariables false

/-- A plan: 'take' an operation that only reads, ahead of all; where nothing else may come up: 'one', 'two'. -/
inductive Sch where
  | done
  | take (i : Nat) (s : Sch)
  | one (i : Nat) (s : Sch)
  | two (i j : Nat) (s s' : Sch)

def okS (ops : Array Oper) : Nat → Array Bool → Sch → Bool
  | _, listed, .done => (Region.ready .any ops listed).isEmpty
  | n + 1, listed, .take i s => Region.free .any ops listed i && (Region.ready .any ops listed).contains i && okS ops n (listed.setIfInBounds i true) s
  | n + 1, listed, .one i s => (Region.ready .any ops listed == [i]) && okS ops n (listed.setIfInBounds i true) s
  | n + 1, listed, .two i j s s' => (Region.ready .any ops listed == [i, j]) && okS ops n (listed.setIfInBounds i true) s && okS ops n (listed.setIfInBounds j true) s'
  | 0, _, _ => false

/-- A plan for these operations: those that only read ahead of all others ('no': those that are not to be taken ahead). -/
def autoS (ops : Array Oper) (no : List Nat) : Nat → Array Bool → Sch
  | 0, _ => .done
  | n + 1, listed =>
    let r := Region.ready .any ops listed
    match r.find? fun i => Region.free .any ops listed i && ((ops[i]?).map fun o => kindOf o.op == 0).getD false && !no.contains i with
    | some i => .take i (autoS ops no n (listed.setIfInBounds i true))
    | none => match r with
      | [] => .done
      | [i] => .one i (autoS ops no n (listed.setIfInBounds i true))
      | i :: j :: _ => .two i j (autoS ops no n (listed.setIfInBounds i true)) (autoS ops no n (listed.setIfInBounds j true))

def grd (all : List Oper) (o : Oper) (ts : List XV) (yes no : List XV → Prop) : Prop :=
  match o.guard with
  | none => yes ts
  | some (j, want) => (match dstAt all j with
    | none => False
    | some d => (match get ts d, want with
      | .c .bt, true => yes ts
      | .c .bf, false => yes ts
      | .c .bt, false => no ts
      | .c .bf, true => no ts
      | .t [], _ => no ts
      | .c (.b x), true => (x = true → setK ts d (.c .bt) yes) ∧ (x = false → setK ts d (.c .bf) no)
      | .c (.b x), false => (x = true → setK ts d (.c .bt) no) ∧ (x = false → setK ts d (.c .bf) yes)
      | _, _ => False))

/-- A call, of which it is known too that it turned nothing. -/
@[irreducible] def CallF (C : Cx) (f : FuncId) (args : List XV) (ts : List XV) (h : List It) (k : KE) : Prop :=
  FnOk C.P f ∧ ∀ w0 F E w vs us, RelTs E ts vs → RelTs E args us → Heap w0 F E h w →
    Calls C.P f us.toArray w fun e w' => ∃ u x ts' h' E', e = .returned u ∧ k x ts' h' ∧ RelV E' x u ∧ RelTs E' ts' vs ∧ Heap w0 F E' h' w' ∧ Keep E h none w w' ∧ After E h none w.heap.size E' h'
def callGoF (C : Cx) (ts : List XV) (h : List It) (op : Op) (k : KE) : Prop :=
  match op with
  | .call c => (match c.callee with
    | .value f => fnOf (opv ts f) (c.args.toList.map (opv ts)) fun f args => lowTs args fun args => CallF C f args ts h k
    | _ => False)
  | _ => False

/-- An operation left to its own law; that turns no item of rd. -/
@[irreducible] def OpFX (C : Cx) (o : Oper) (ts : List XV) (h : List It) (rd : Nat → Bool) (k : KE) : Prop :=
  ∀ (w0 : Org) (F : Nat → Prop) (E : Env) (w : World) (a : Act), RelTs E ts a.tmps.toList → Heap w0 F E h w → ∃ t, (∀ it, t = some it → rd it = false) ∧ Done C.P w0 F E h t (execOp a.eval o) w a.tmps.toList k
/-- .. that reads nothing but items of rd, and is taken ahead. -/
@[irreducible] def OpTX (C : Cx) (o : Oper) (ts : List XV) (h : List It) (rd : Nat → Bool) (k : XV → Prop) : Prop :=
  ∀ (w0 : Org) (F : Nat → Prop) (E : Env) (w : World) (a : Act), RelTs E ts a.tmps.toList → Heap w0 F E h w → ∃ x u, k x ∧ RelV E x u ∧ ∀ W, Same E h rd w W → (execOp a.eval o).run C.P W = .ok (.value u) W

def opF (C : Cx) (o : Oper) (ts : List XV) (h : List It) (rd : Nat → Bool) (k : KS) : Prop :=
  match isCpy o.op with
  | some (d, s, t) => cpyX C.T h rd t (opv ts d) (opv ts s) ts fun x ts h => fin o.dst x ts h k
  | none => match hookB C.T ts h o.op with
  | true => OpFX C o ts h rd fun x ts h => fin o.dst x ts h k
  | false => match kindOf o.op with
  | 0 => valX C.T ts h (fun _ => true) o.op fun x => fin o.dst x ts h k
  | 1 => when (match tchOp ts o.op with | none => true | some it => !rd it) (effX C.T ts h o.op fun x ts h => fin o.dst x ts h k)
  | _ => callGoF C ts h o.op fun x ts h => fin o.dst x ts h k

def opAt : List Oper → Nat → Option Oper
  | [], _ => none
  | o :: _, 0 => some o
  | _ :: l, n + 1 => opAt l n
theorem opAt_eq : ∀ (l : List Oper) (n : Nat), opAt l n = l[n]?
  | [], _ => rfl
  | _ :: _, 0 => rfl
  | _ :: l, n + 1 => by simp [opAt, opAt_eq l n]

def stepX (C : Cx) (all : List Oper) (rd : Nat → Bool) (i : Nat) (ts : List XV) (h : List It) (next : KS) : Prop :=
  match opAt all i with
  | some o => grd all o ts (fun ts => opF C o ts h rd next) (fun ts => fin o.dst (.t []) ts h next)
  | none => False

def anyX (C : Cx) (all : List Oper) (rd : Nat → Bool) (k : KS) : Sch → List XV → List It → Prop
  | .done, ts, h => k ts h
  | .take i s, ts, h => (match opAt all i with
    | some o => grd all o ts (fun ts => (match hookB C.T ts h o.op with
      | true => OpTX C o ts h rd fun x => finQ o.dst x ts fun ts => anyX C all rd k s ts h
      | false => match kindOf o.op with
      | 0 => valX C.T ts h rd o.op fun x => finQ o.dst x ts fun ts => anyX C all rd k s ts h
      | _ => False)) (fun ts => finQ o.dst (.t []) ts fun ts => anyX C all rd k s ts h)
    | none => False)
  | .one i s, ts, h => stepX C all rd i ts h (anyX C all rd k s)
  | .two i j s s', ts, h => stepX C all rd i ts h (anyX C all rd k s) ∧ stepX C all rd j ts h (anyX C all rd k s')

theorem grd_sound {all : List Oper} {o : Oper} {ts : List XV} {yes no : List XV → Prop} {E : Env} {a : Act} (hh : grd all o ts yes no) (hr : RelTs E ts a.tmps.toList) :
    (∃ ts', yes ts' ∧ RelTs E ts' a.tmps.toList ∧ Region.wanted o (yielded all.toArray a.tmps) = true) ∨ (∃ ts', no ts' ∧ RelTs E ts' a.tmps.toList ∧ Region.wanted o (yielded all.toArray a.tmps) = false) := by
  unfold grd at hh
  split at hh
  · rename_i hg
    exact .inl ⟨_, hh, hr, by simp [Region.wanted, hg]⟩
  · rename_i j want hg
    split at hh
    case h_1 => exact hh.elim
    rename_i d hd
    rw [wanted_of hg]
    have hv := hr.get d
    split at hh
    · rename_i e; rw [e] at hv
      exact .inl ⟨_, hh, hr, by rw [yielded_of hd (show _ = Value.bool true from hv)]; rfl⟩
    · rename_i e; rw [e] at hv
      exact .inl ⟨_, hh, hr, by rw [yielded_of hd (show _ = Value.bool false from hv)]; rfl⟩
    · rename_i e; rw [e] at hv
      exact .inr ⟨_, hh, hr, by rw [yielded_of hd (show _ = Value.bool true from hv)]; rfl⟩
    · rename_i e; rw [e] at hv
      exact .inr ⟨_, hh, hr, by rw [yielded_of hd (show _ = Value.bool false from hv)]; rfl⟩
    · rename_i e; rw [e] at hv
      obtain ⟨vs, hvs, hws⟩ := hv
      have : vs = #[] := by
        cases vs with
        | mk l => cases l with
          | nil => rfl
          | cons _ _ => exact hws.elim
      subst this
      exact .inr ⟨_, hh, hr, by rw [yielded_undef hd hvs]; rfl⟩
    · rename_i x e; rw [e] at hv
      have hv : _ = Value.bool x := hv
      cases x
      · have h1 := hh.2 rfl
        rw [setK_eq] at h1
        exact .inr ⟨_, h1, hr.set_self d (show RelC E .bf _ from hv), by rw [yielded_of hd hv]; rfl⟩
      · have h1 := hh.1 rfl
        rw [setK_eq] at h1
        exact .inl ⟨_, h1, hr.set_self d (show RelC E .bt _ from hv), by rw [yielded_of hd hv]; rfl⟩
    · rename_i x e; rw [e] at hv
      have hv : _ = Value.bool x := hv
      cases x
      · have h1 := hh.2 rfl
        rw [setK_eq] at h1
        exact .inl ⟨_, h1, hr.set_self d (show RelC E .bf _ from hv), by rw [yielded_of hd hv]; rfl⟩
      · have h1 := hh.1 rfl
        rw [setK_eq] at h1
        exact .inr ⟨_, h1, hr.set_self d (show RelC E .bt _ from hv), by rw [yielded_of hd hv]; rfl⟩
    · exact hh.elim

section
variable {C : Cx} (hT : TabOk C.P C.T) {w0 : Org} {F : Nat → Prop} {ds : List Deferred} {rd : Nat → Bool} {ws : World} {Old : Nat → Prop}

/-- The worlds of the statement: what is old and isn't written is as it was. -/
def Stand (ws : World) (Old : Nat → Prop) (W : World) : Prop := ws.heap.size ≤ W.heap.size ∧ ∀ b, Old b → W.heap[b]? = ws.heap[b]?

structure Mid (w0 : Org) (F : Nat → Prop) (rd : Nat → Bool) (ws : World) (Old : Nat → Prop) (n0 : Nat) (E : Env) (h : List It) (w : World) : Prop where
  hp : Heap w0 F E h w
  st : Stand ws Old w
  n : n0 ≤ h.length
  lt : ∀ b, Old b → b < ws.heap.size
  bs : ∀ b, E.bs.B b → Old b
  rdLt : ∀ k, rd k = true → k < n0
  old : ∀ (k : Nat) (x : It) (b : Nat), h[k]? = some x → rd k = true → Ow E k x b → Old b
  new : ∀ (k : Nat) (x : It) (b : Nat), h[k]? = some x → rd k = false → Ow E k x b → ¬ Old b

theorem Mid.same {n0 : Nat} {E : Env} {h : List It} {w W : World} (m : Mid w0 F rd ws Old n0 E h w) (hW : Stand ws Old W) : Same E h rd w W := by
  refine ⟨fun b hB => ?_, fun k x b hx hr hb => ?_⟩
  · have ho := m.bs b hB
    exact ⟨Nat.lt_of_lt_of_le (m.lt b ho) hW.1, (hW.2 b ho).trans ((m.st.2 b ho).symm.trans (m.hp.bs b hB).2)⟩
  · have ho := m.old k x b hx hr hb
    exact (hW.2 b ho).trans (m.st.2 b ho).symm

theorem Mid.next {n0 : Nat} {E E' : Env} {h h' : List It} {w w' : World} {t : Option Nat} (m : Mid w0 F rd ws Old n0 E h w) (hp' : Heap w0 F E' h' w') (hk : Keep E h t w w') (ha : After E h t w.heap.size E' h')
    (ht : ∀ k, t = some k → rd k = false) : Mid w0 F rd ws Old n0 E' h' w' := by
  have hsz := m.st.1
  refine ⟨hp', ⟨Nat.le_trans hsz hk.1, fun b ho => ?_⟩, Nat.le_trans m.n ha.n, m.lt, by rw [ha.bs]; exact m.bs, m.rdLt, ?_, ?_⟩
  · refine (hk.2 b (Nat.lt_of_lt_of_le (m.lt b ho) hsz) fun k x e hx hb => m.new k x b hx (ht k e) hb ho).trans (m.st.2 b ho)
  · intro k y b hy hr hb
    rcases ha.nw k y b hy hb with ⟨x, hx, hxb⟩ | ⟨_, h1 | h1⟩
    · exact m.old k x b hx hr hxb
    · rw [ht k h1] at hr; cases hr
    · have := m.rdLt k hr
      have := m.n
      omega
  · intro k y b hy hr hb ho
    rcases ha.nw k y b hy hb with ⟨x, hx, hxb⟩ | ⟨h1, _⟩
    · exact m.new k x b hx hr hxb ho
    · have := m.lt b ho
      omega

include hT in
theorem opF_sound {n0 : Nat} {o : Oper} {ts : List XV} {h : List It} {k : KS} {K : Act → World → Prop} {Q : Exit → Act → World → Prop} {E : Env} {a : Act} {w : World} (hh : opF C o ts h rd k) (hd : a.defers = ds) (hr : RelTs E ts a.tmps.toList)
    (m : Mid w0 F rd ws Old n0 E h w) (hK : ∀ ts' h' E' a' w', k ts' h' → a'.defers = ds → RelTs E' ts' a'.tmps.toList → Mid w0 F rd ws Old n0 E' h' w' → K a' w') : o.wp C.P a w K Q := by
  have hp := m.hp
  unfold opF at hh
  split at hh
  · rename_i d s t ho
    obtain ⟨it, ht, nx, u, w', x, ts', h', E', hnx, hrun, hk, hx, hr', hp', hkeep, haft⟩ := cpyX_sound hT ho hh hr hp
    rw [fin_eq] at hk
    have m' := m.next hp' hkeep haft (fun k e => by cases e; exact ht)
    unfold Oper.wp
    rw [hrun]
    rcases hnx with rfl | ⟨rfl, rfl⟩
    · exact hK _ _ E' _ _ hk (by cases hdst : o.dst <;> simp [Act.put, hd]) (put_rel (a := a) o.dst hr' hx) m'
    · exact hK _ _ E' _ _ hk (by cases hdst : o.dst <;> simp [Act.put, hd]) (put_rel (a := a) o.dst hr' hx) m'
  split at hh
  · unfold OpFX at hh
    obtain ⟨t, ht, nx, u, w', x, ts', h', E', hnx, hrun, hk, hx, hr', hp', hkeep, haft⟩ := hh w0 F E w a hr hp
    rw [fin_eq] at hk
    have m' := m.next hp' hkeep haft ht
    unfold Oper.wp
    rw [hrun]
    rcases hnx with rfl | ⟨rfl, rfl⟩
    · exact hK _ _ E' _ _ hk (by cases hdst : o.dst <;> simp [Act.put, hd]) (put_rel (a := a) o.dst hr' hx) m'
    · exact hK _ _ E' _ _ hk (by cases hdst : o.dst <;> simp [Act.put, hd]) (put_rel (a := a) o.dst hr' hx) m'
  split at hh
  · obtain ⟨x, u, hk, hx, hrun⟩ := valX_sound hT hh hr hp
    rw [fin_eq] at hk
    unfold Oper.wp
    rw [hrun w (same_refl hp _)]
    exact hK _ _ E _ _ hk (by cases hdst : o.dst <;> simp [Act.put, hd]) (put_rel o.dst hr hx) m
  · replace hh := when_iff hh
    obtain ⟨ht, hh⟩ := hh
    obtain ⟨nx, u, w', x, ts', h', E', hnx, hrun, hk, hx, hr', hp', hkeep, haft⟩ := effX_sound hT hh hr hp
    rw [fin_eq] at hk
    have m' := m.next hp' hkeep haft (fun k e => by rw [e] at ht; simpa using ht)
    unfold Oper.wp
    rw [hrun]
    rcases hnx with rfl | ⟨rfl, rfl⟩
    · exact hK _ _ E' _ _ hk (by cases hdst : o.dst <;> simp [Act.put, hd]) (put_rel (a := a) o.dst hr' hx) m'
    · exact hK _ _ E' _ _ hk (by cases hdst : o.dst <;> simp [Act.put, hd]) (put_rel (a := a) o.dst hr' hx) m'
  · unfold callGoF at hh
    split at hh
    case h_2 => exact hh.elim
    rename_i c hop
    obtain ⟨callee, args, argTypes⟩ := c
    simp only at hh
    split at hh
    case h_2 => exact hh.elim
    rename_i f
    have hf := opv_rel hr f
    have hargs := opvs_rel hr args.toList
    have key : ∀ (g : FuncId) (xs : List XV) (us : List Value), (lowTs xs fun xs => CallF C g xs ts h (fun x ts h => fin o.dst x ts h k)) → RelTs E xs us →
        (execOp a.eval o).run C.P w = (callFunc g us.toArray).run C.P w → o.wp C.P a w K Q := by
      intro g xs us hcall hxs hex
      obtain ⟨xs, hcall, hxs⟩ := lowTs_rel hcall hxs
      unfold CallF at hcall
      obtain ⟨⟨fn, hfn, hname, hbody⟩, hcall⟩ := hcall
      have hrun : (callFunc g us.toArray).run C.P w = .ok (.enter g us.toArray) w := by
        cases hb : fn.body with
        | none => rw [hb] at hbody; cases hbody
        | some b =>
          have hne : ¬ fn.name = "runtime.NumGoroutine" := by simpa using hname
          simp [callFunc, hfn, hne, hb]
      unfold Oper.wp
      rw [hex, hrun]
      simp only [Oper.upon]
      refine (hcall w0 F E w a.tmps.toList us hr hxs hp).mono fun e w' he => ?_
      obtain ⟨u, x, ts', h', E', rfl, hk, hx, hr', hp', hkeep, haft⟩ := he
      rw [fin_eq] at hk
      exact hK _ _ E' _ _ hk (by cases hdst : o.dst <;> simp [Act.put, hd]) (put_rel (a := a) o.dst hr' hx) (m.next hp' hkeep haft (fun k e => by cases e))
    unfold fnOf at hh
    split at hh
    · rename_i g fs cs e
      rw [e] at hf
      split at hh
      · rename_i e1 e2
        have hfs : fs = #[] := by cases fs; simpa using e1
        have hcs : cs = #[] := by cases cs; simpa using e2
        subst hfs; subst hcs
        have hv : a.eval f = .func (.func g) #[] #[] := hf.1
        refine key g _ _ hh hargs ?_
        unfold execOp
        rw [hop]
        have hm : Array.map a.eval args = (List.map a.eval args.toList).toArray := by rw [← Array.toList_map, Array.toArray_toList]
        simp [resolve, hv, Deferred.ofValue, invoke, hm]
      · exact hh.elim
    · rename_i g n caps e
      rw [e] at hf
      obtain ⟨vs, hv, hn, hc⟩ := hf
      refine key g _ _ hh (hargs.append (by have := capL_rel (E := E) (vs := vs) n 0 (caps := caps) (by omega) (fun j hj => hc j (by omega)); simpa using this)) ?_
      unfold execOp
      rw [hop]
      simp only [resolve, hv, Deferred.ofValue, invoke, Sem.run_bind, Sem.run_pure, Result.andThen_ok]
      have hm : Array.map a.eval args ++ vs = (List.map a.eval args.toList ++ vs.toList).toArray := by rw [← Array.toList_map, ← Array.toList_append, Array.toArray_toList]
      simp [hm]
    · exact hh.elim

include hT in
theorem stepX_sound {n0 : Nat} {all : List Oper} {i : Nat} {ts : List XV} {h : List It} {k : KS} {K : Act → World → Prop} {Q : Exit → Act → World → Prop} {E : Env} {a : Act} {w : World} (hh : stepX C all rd i ts h k) (hd : a.defers = ds) (hr : RelTs E ts a.tmps.toList)
    (m : Mid w0 F rd ws Old n0 E h w) (hK : ∀ ts' h' E' a' w', k ts' h' → a'.defers = ds → RelTs E' ts' a'.tmps.toList → Mid w0 F rd ws Old n0 E' h' w' → K a' w') : wpOp C.P all.toArray Q i K a w := by
  unfold stepX at hh
  split at hh
  case h_2 => exact hh.elim
  rename_i o ho
  rw [opAt_eq] at ho
  have ho : all.toArray[i]? = some o := by simpa using ho
  unfold wpOp
  simp only [ho]
  rcases grd_sound hh hr with ⟨ts', hy, hr', hw⟩ | ⟨ts', hn, hr', hw⟩
  · rw [if_pos hw]
    exact .inl (opF_sound hT hy hd hr' m hK)
  · rw [if_neg (by rw [hw]; simp)]
    rw [fin_eq] at hn
    exact hK _ _ E _ _ hn (by cases hdst : o.dst <;> simp [Act.put, hd]) (put_rel o.dst hr' (undef_rel E)) m

include hT in
theorem anyX_sound {n0 : Nat} {all : List Oper} (hs : Region.noSelect all.toArray = true) {k : KS} {Q : Exit → Act → World → Prop} (hQ : ∀ c a w, ¬ Q (.panic c) a w)
    (hK : ∀ ts' h' E' a' w', k ts' h' → a'.defers = ds → RelTs E' ts' a'.tmps.toList → Mid w0 F rd ws Old n0 E' h' w' → Q .normal a' w') :
    ∀ (s : Sch) (n : Nat) (listed : Array Bool) (ts : List XV) (h : List It) (E : Env) (a : Act) (w : World), anyX C all rd k s ts h → okS all.toArray n listed s = true → a.defers = ds → RelTs E ts a.tmps.toList → Mid w0 F rd ws Old n0 E h w →
      wpAnyH C.P .any all.toArray Q (Stand ws Old) n listed a w
  | .done, n, listed, ts, h, E, a, w, hh, hB, hd, hr, m => by
    have hB : (Region.ready .any all.toArray listed).isEmpty = true := by cases n <;> simpa [okS] using hB
    exact wpAnyH_done (by simpa using hB) (hK _ _ _ _ _ hh hd hr m) n
  | .take i s, 0, listed, ts, h, E, a, w, hh, hB, hd, hr, m => by simp [okS] at hB
  | .take i s, n + 1, listed, ts, h, E, a, w, hh, hB, hd, hr, m => by
    simp only [okS, Bool.and_eq_true] at hB
    unfold anyX at hh
    split at hh
    case h_2 => exact hh.elim
    rename_i o ho
    rw [opAt_eq] at ho
    have ho : all.toArray[i]? = some o := by simpa using ho
    rcases grd_sound hh hr with ⟨ts', hy, hr', hw⟩ | ⟨ts', hn, hr', hw⟩
    · split at hy
      · unfold OpTX at hy
        obtain ⟨x, u, hk, hx, hrun⟩ := hy w0 F E w a hr' m.hp
        rw [finQ_eq] at hk
        exact wpAnyH_take ho hs hB.1.1 hB.1.2 (fun c a w hq => (hQ _ _ _ hq).elim) (.inl ⟨hw, fun W hW => hrun W (m.same hW)⟩) m.st
          (anyX_sound hs hQ hK s n _ _ h E _ w hk hB.2 (by cases hdst : o.dst <;> simp [Act.put, hd]) (put_rel o.dst hr' hx) m)
      split at hy
      · obtain ⟨x, u, hk, hx, hrun⟩ := valX_sound hT hy hr' m.hp
        rw [finQ_eq] at hk
        exact wpAnyH_take ho hs hB.1.1 hB.1.2 (fun c a w hq => (hQ _ _ _ hq).elim) (.inl ⟨hw, fun W hW => hrun W (m.same hW)⟩) m.st
          (anyX_sound hs hQ hK s n _ _ h E _ w hk hB.2 (by cases hdst : o.dst <;> simp [Act.put, hd]) (put_rel o.dst hr' hx) m)
      · exact hy.elim
    · rw [finQ_eq] at hn
      exact wpAnyH_take ho hs hB.1.1 hB.1.2 (fun c a w hq => (hQ _ _ _ hq).elim) (.inr ⟨hw, rfl⟩) m.st
        (anyX_sound hs hQ hK s n _ _ h E _ w hn hB.2 (by cases hdst : o.dst <;> simp [Act.put, hd]) (put_rel o.dst hr' (undef_rel E)) m)
  | .one i s, 0, listed, ts, h, E, a, w, hh, hB, hd, hr, m => by simp [okS] at hB
  | .one i s, n + 1, listed, ts, h, E, a, w, hh, hB, hd, hr, m => by
    simp only [okS, Bool.and_eq_true, beq_iff_eq] at hB
    refine wpAnyH_all hB.1 (by simp) fun j hj => ?_
    obtain rfl : j = i := by simpa using hj
    exact stepX_sound hT hh hd hr m fun ts' h' E' a' w' hk hd' hr' m' => ⟨m'.st, anyX_sound hs hQ hK s n _ ts' h' E' a' w' hk hB.2 hd' hr' m'⟩
  | .two i j s s', 0, listed, ts, h, E, a, w, hh, hB, hd, hr, m => by simp [okS] at hB
  | .two i j s s', n + 1, listed, ts, h, E, a, w, hh, hB, hd, hr, m => by
    simp only [okS, Bool.and_eq_true, beq_iff_eq] at hB
    refine wpAnyH_all hB.1.1 (by simp) fun q hq => ?_
    have hq : q = i ∨ q = j := by simpa using hq
    rcases hq with rfl | rfl
    · exact stepX_sound hT hh.1 hd hr m fun ts' h' E' a' w' hk hd' hr' m' => ⟨m'.st, anyX_sound hs hQ hK s n _ ts' h' E' a' w' hk hB.1.2 hd' hr' m'⟩
    · exact stepX_sound hT hh.2 hd hr m fun ts' h' E' a' w' hk hd' hr' m' => ⟨m'.st, anyX_sound hs hQ hK s' n _ ts' h' E' a' w' hk hB.2 hd' hr' m'⟩

def memN (k : Nat) : List Nat → Bool
  | [] => false
  | a :: l => (match Nat.beq k a with | true => true | false => memN k l)
theorem memN_iff {k : Nat} : ∀ {l : List Nat}, memN k l = true ↔ k ∈ l
  | [] => by simp [memN]
  | a :: l => by
    unfold memN
    split
    · rename_i hb
      have := Nat.eq_of_beq_eq_true hb
      simp [this]
    · rename_i hb
      have := beq_ne hb
      rw [memN_iff (l := l)]
      simp [this]
/-- What stood when the statement began, but for what it writes. -/
def rdOf (n0 : Nat) (tl : List Nat) (k : Nat) : Bool := (match Nat.blt k n0 with | true => (match memN k tl with | true => false | false => true) | false => false)

include hT in
/-- A statement whose order is drawn, by a plan; 'tl': the items that it writes. -/
theorem drawx_plan {id : Nat} {ops : List Oper} {k : KS} {ts : List XV} {h : List It} (tl : List Nat) (s : Sch) (hm : C.P.follows .mixedOrders = true) (hs : Region.noSelect ops.toArray = true)
    (hB : okS ops.toArray ops.toArray.size (Array.replicate ops.toArray.size false) s = true) (hh : anyX C ops (rdOf h.length tl) k s ts h) (hnd : C.rd = none ∨ noDefer ops.toArray = true := by first | exact .inl rfl | exact .inr (by kernel_rfl)) : DrawX C id ops k ts h := by
  unfold DrawX
  intro w00 F0 Q' a w hK hc
  obtain ⟨w0, F, hsub, hd, E, hr, hp⟩ := hc
  let ws : World := { w with drawn := w.drawn + 1 }
  have hpw : Heap w0 F E h ws := hp.stays ⟨rfl, rfl, rfl, Nat.le_refl _, fun _ _ _ => rfl⟩
  let Old : Nat → Prop := fun b => b < ws.heap.size ∧ ∀ (j : Nat) (x : It), j ∈ tl → h[j]? = some x → ¬ Ow E j x b
  have hrd : ∀ k, rdOf h.length tl k = true → k < h.length ∧ k ∉ tl := by
    intro k hk
    unfold rdOf at hk
    split at hk
    · rename_i h1
      split at hk
      · cases hk
      · rename_i h2
        exact ⟨blt_lt h1, fun hmem => by rw [memN_iff.2 hmem] at h2; cases h2⟩
    · cases hk
  have hnrd : ∀ k, k < h.length → rdOf h.length tl k = false → k ∈ tl := by
    intro k hk hf
    unfold rdOf at hf
    split at hf
    · split at hf
      · rename_i h2; exact memN_iff.1 h2
      · cases hf
    · rename_i h1
      have : Nat.blt k h.length = true := by simp [Nat.blt, Nat.ble_eq]; omega
      rw [this] at h1; cases h1
  have m : Mid w0 F (rdOf h.length tl) ws Old h.length E h ws := by
    refine ⟨hpw, ⟨Nat.le_refl _, fun _ _ => rfl⟩, Nat.le_refl _, fun b ho => ho.1, ?_, fun k hk => (hrd k hk).1, ?_, ?_⟩
    · intro b hb
      exact ⟨(hpw.bs b hb).1, fun j x _ hx hxb => (hpw.own j x b hx hxb).2.1 hb⟩
    · intro k x b hx hk hb
      refine ⟨(hpw.own k x b hx hb).1, fun j y hj hy hyb => ?_⟩
      have := hpw.sep j k y x b hy hx hyb hb
      subst this
      exact (hrd _ hk).2 hj
    · intro k x b hx hk hb ho
      exact ho.2 k x (hnrd k (List.getElem?_eq_some_iff.1 hx).1 hk) hx hb
  refine fen_drawn (Q := Q' .normal) hnd hm (wpAny_of_held (S := Stand ws Old) _ _ _ _ ?_) (fun _ _ h => h)
  exact anyX_sound (w0 := w0) (F := F) (ds := a.defers) hT hs (Q := fun e a w => e = .normal ∧ Q' .normal a w) (fun c a w hq => by cases hq.1) (fun ts' h' E' a' w' hk hd' hr' m' => ⟨rfl, hK _ _ _ _ hk ⟨w0, F, hsub, by rw [hd']; exact hd, E', hr', m'.hp⟩⟩) s _ _ ts h E a ws hh hB rfl hr m
end

/-- A call by contract there. -/
theorem callf_lend {C : Cx} {f : FuncId} {args : List XV} {ts : List XV} {h : List It} {k : KE} {args' : List XV} {v : XV} (hf : Fn C.P f args' (Tells v)) (hl : args.map (lendV h) = args') (hs : stXs args' = true) (hv : flatV v = true) (hk : k v ts h) : CallF C f args ts h k := by
  unfold CallF
  refine ⟨hf.ok, fun w0 F E w vs us hr hargs hp => ?_⟩
  refine (hf.run (E.lent h w).bs w us hp.lent_ok (stXs_rel (E := E.lent h w) (E' := ⟨(E.lent h w).bs, 0, fun _ => 0, fun _ => undef, fun _ _ => False⟩) rfl hs (hl ▸ lendTs_rel hp hargs))).mono fun e w' ⟨u, x, h', E', he, hR, hx, hp'⟩ => ?_
  exact ⟨u, v, ts, h, E, he, hk, flatV_rel hv (entV_rel hR hx), hr, hp.stays hp'.fr, ⟨hp'.fr.size, fun b hb _ => hp'.fr.block b hb (fun x => x)⟩, ⟨rfl, Nat.le_refl _, fun k y b hy hb => .inl ⟨y, hy, hb⟩⟩⟩
end Go.Eng
