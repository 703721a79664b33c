/- The engine, part L: guarded operations, code, loops, scopes, functions; nothing of any program is proved here. -/
import Derived.Test.YtbhmplbckkipjaaEngK
import Derived.ScopeJumps
namespace Go.Eng
open Go Go.RowKit
set_option linter.unusedSimpArgs false
set_option linter.unusedVariables false

def dstAt : List Oper → Nat → Option Tmp
  | [], _ => none
  | o :: _, 0 => o.dst
  | _ :: l, n + 1 => dstAt l n
theorem dstAt_eq : ∀ (l : List Oper) (n : Nat), dstAt l n = (l[n]?).bind (·.dst)
  | [], _ => rfl
  | _ :: _, 0 => rfl
  | _ :: l, n + 1 => by simp [dstAt, dstAt_eq l n]

def bitX (b : Bool) : XV := match b with | true => .c .bt | false => .c .bf

def opsX (C : Cx) (all : List Oper) : List Oper → List XV → List It → KS → Prop
  | [], ts, h, k => k ts h
  | o :: rest, ts, h, k => (match o.guard with
    | none => opX C o ts h fun ts h => opsX C all rest ts h k
    | some (j, want) => (match dstAt all j with
      | none => False
      | some d => (match get ts d, want with
        | .c .bt, true => opX C o ts h fun ts h => opsX C all rest ts h k
        | .c .bf, false => opX C o ts h fun ts h => opsX C all rest ts h k
        | .c .bt, false => fin o.dst (.t []) ts h fun ts h => opsX C all rest ts h k
        | .c .bf, true => fin o.dst (.t []) ts h fun ts h => opsX C all rest ts h k
        | .t [], _ => fin o.dst (.t []) ts h fun ts h => opsX C all rest ts h k
        | .c (.b x), true => (x = true → setK ts d (.c .bt) fun ts => opX C o ts h fun ts h => opsX C all rest ts h k) ∧
            (x = false → setK ts d (.c .bf) fun ts => fin o.dst (.t []) ts h fun ts h => opsX C all rest ts h k)
        | .c (.b x), false => (x = true → setK ts d (.c .bt) fun ts => fin o.dst (.t []) ts h fun ts h => opsX C all rest ts h k) ∧
            (x = false → setK ts d (.c .bf) fun ts => opX C o ts h fun ts h => opsX C all rest ts h k)
        | _, _ => False)))

theorem RelTs.set_self {E : Env} : ∀ {ts : List XV} {vs : List Value} (d : Nat) {x : XV}, RelTs E ts vs → RelV E x (vs.getD d undef) → RelTs E (ts.set d x) vs
  | [], [], _, _, _, _ => trivial
  | _ :: _, _ :: _, 0, _, h, hx => ⟨hx, h.2⟩
  | _ :: _, _ :: _, d + 1, _, h, hx => ⟨h.1, RelTs.set_self d h.2 (by simpa using hx)⟩
  | [], _ :: _, _, _, h, _ => h.elim
  | _ :: _, [], _, _, h, _ => h.elim

theorem undef_rel (E : Env) : RelV E (.t []) undef := ⟨#[], rfl, trivial⟩

/-- What the guard of an operation sees. -/
theorem yielded_of {all : List Oper} {a : Act} {j : Nat} {d : Tmp} {b : Bool} (hd : dstAt all j = some d) (hv : a.tmps.toList.getD d undef = .bool b) : yielded all.toArray a.tmps j = some b := by
  rw [dstAt_eq] at hd
  have hv' : a.tmps[d]? = some (.bool b) := by
    rw [List.getD_eq_getElem?_getD] at hv
    cases h : a.tmps.toList[d]? with
    | none => rw [h] at hv; simp [undef] at hv
    | some v => rw [h] at hv; simp at hv; subst hv; simpa using h
  unfold yielded
  simp [hd, hv']
theorem yielded_undef {all : List Oper} {a : Act} {j : Nat} {d : Tmp} (hd : dstAt all j = some d) (hv : a.tmps.toList.getD d undef = undef) : yielded all.toArray a.tmps j = none := by
  rw [dstAt_eq] at hd
  unfold yielded
  simp only [List.getElem?_toArray, hd, Option.bind_some]
  rw [List.getD_eq_getElem?_getD] at hv
  cases h : a.tmps[d]? with
  | none => rfl
  | some v =>
    have : a.tmps.toList[d]? = some v := by simpa using h
    rw [this] at hv; simp at hv; subst hv; rfl

theorem wanted_of {o : Oper} {j : Nat} {want : Bool} (hg : o.guard = some (j, want)) (y : Nat → Option Bool) : Region.wanted o y = (y j == some want) := by simp [Region.wanted, hg]

section
variable {C : Cx} (hT : TabOk C.P C.T)

include hT in
theorem opsX_sound {w0 : Org} {F : Nat → Prop} {Q : Exit → Act → World → Prop} {all : List Oper} : ∀ {l : List Oper} {ts : List XV} {h : List It} {k : KS} {a : Act} {w : World}, opsX C all l ts h k → Cfg w0 F ts h a w →
    (∀ ts' h' a' w', k ts' h' → Cfg w0 F ts' h' a' w' → Q .normal a' w') → wpListIn (fen C.rd) 0 C.P all.toArray Q l a w
  | [], ts, h, k, a, w, hh, hc, hK => hK _ _ _ _ hh hc
  | o :: rest, ts, h, k, a, w, hh, hc, hK => by
    have run : ∀ {ts : List XV}, (opX C o ts h fun ts h => opsX C all rest ts h k) → Cfg w0 F ts h a w → o.wpIn (fen C.rd) 0 C.P a w (wpListIn (fen C.rd) 0 C.P all.toArray Q rest) Q :=
      fun hh hc => opX_sound hT hh hc fun ts' h' a' w' hk hc' => opsX_sound hk hc' hK
    have skip : ∀ {ts : List XV}, (fin o.dst (.t []) ts h fun ts h => opsX C all rest ts h k) → Cfg w0 F ts h a w → (∀ f, o.about C.P w a.eval = some f → (fen C.rd).fn f) ∧ wpListIn (fen C.rd) 0 C.P all.toArray Q rest (a.put o.dst undef) w := by
      intro ts hh hc
      rw [fin_eq] at hh
      obtain ⟨w1, F1, hsub, hd, E, hr, hp⟩ := hc
      exact ⟨fun _ _ => trivial, opsX_sound hh ⟨w1, F1, hsub, by rw [put_defers]; exact hd, E, put_rel o.dst hr (undef_rel E), hp⟩ hK⟩
    unfold opsX at hh
    unfold wpListIn
    split at hh
    · rename_i hg
      rw [if_pos (by simp [Region.wanted, hg])]
      exact run hh hc
    · rename_i j want hg
      split at hh
      case h_1 => exact hh.elim
      rename_i d hd
      rw [wanted_of hg]
      obtain ⟨w1, F1, hsub, hdef, E, hr, hp⟩ := id hc
      have hv := hr.get d
      split at hh
      · rename_i e; rw [e] at hv
        rw [yielded_of hd (show _ = Value.bool true from hv), if_pos (by simp)]; exact run hh hc
      · rename_i e; rw [e] at hv
        rw [yielded_of hd (show _ = Value.bool false from hv), if_pos (by simp)]; exact run hh hc
      · rename_i e; rw [e] at hv
        rw [yielded_of hd (show _ = Value.bool true from hv), if_neg (by simp)]; exact skip hh hc
      · rename_i e; rw [e] at hv
        rw [yielded_of hd (show _ = Value.bool false from hv), if_neg (by simp)]; exact skip hh hc
      · rename_i e; rw [e] at hv
        obtain ⟨vs, hvs, hws⟩ := hv
        have : vs = #[] := by
          cases vs with
          | mk l => cases l with
            | nil => rfl
            | cons _ _ => exact hws.elim
        subst this
        rw [yielded_undef hd hvs, if_neg (by simp)]; exact skip hh hc
      · rename_i x e; rw [e] at hv
        have hv : _ = Value.bool x := hv
        rw [yielded_of hd hv]
        cases x
        · have h1 := hh.2 rfl
          rw [setK_eq] at h1
          rw [if_neg (by simp)]
          exact skip h1 ⟨w1, F1, hsub, hdef, E, hr.set_self d (show RelC E .bf _ from hv), hp⟩
        · have h1 := hh.1 rfl
          rw [setK_eq] at h1
          rw [if_pos (by simp)]
          exact run h1 ⟨w1, F1, hsub, hdef, E, hr.set_self d (show RelC E .bt _ from hv), hp⟩
      · rename_i x e; rw [e] at hv
        have hv : _ = Value.bool x := hv
        rw [yielded_of hd hv]
        cases x
        · have h1 := hh.2 rfl
          rw [setK_eq] at h1
          rw [if_pos (by simp)]
          exact run h1 ⟨w1, F1, hsub, hdef, E, hr.set_self d (show RelC E .bf _ from hv), hp⟩
        · have h1 := hh.1 rfl
          rw [setK_eq] at h1
          rw [if_neg (by simp)]
          exact skip h1 ⟨w1, F1, hsub, hdef, E, hr.set_self d (show RelC E .bt _ from hv), hp⟩
      · exact hh.elim
end

/-! ### code -/
inductive Ex where
  | normal
  | ret
  | exit (n : Nat)
  | goto (n : Nat)
def Ex.conc : Ex → Exit
  | .normal => .normal
  | .ret => .ret
  | .exit n => .exit n
  | .goto n => .goto n
abbrev KQ := Ex → List XV → List It → Prop

def QOk (w0 : Org) (F : Nat → Prop) (Q : KQ) (Q' : Exit → Act → World → Prop) : Prop := ∀ e ts h a w, Q e ts h → Cfg w0 F ts h a w → Q' e.conc a w

def seqQ (next : KS) (Q : KQ) : KQ
  | .normal, t, h => next t h
  | .ret, t, h => Q .ret t h
  | .exit n, t, h => Q (.exit n) t h
  | .goto n, t, h => Q (.goto n) t h
def blockQ (id : Nat) (Q : KQ) : KQ
  | .normal, t, h => Q .normal t h
  | .ret, t, h => Q .ret t h
  | .exit n, t, h => (match Nat.beq n id with | true => Q .normal t h | false => Q (.exit n) t h)
  | .goto n, t, h => Q (.goto n) t h

/-- A loop, left to its invariant. -/
@[irreducible] def LoopX (C : Cx) (b : Code) (Q : KQ) (ts : List XV) (h : List It) : Prop :=
  ∀ w0 F Q' a w, QOk w0 F Q Q' → Cfg w0 F ts h a w → (Code.loop b).wpIn (fen C.rd) 0 C.P Q' a w
/-- A scope with labels. -/
@[irreducible] def ScopeX (C : Cx) (b : Code) (Q : KQ) (ts : List XV) (h : List It) : Prop :=
  ∀ w0 F Q' a w, QOk w0 F Q Q' → Cfg w0 F ts h a w → (Code.scope b).wpIn (fen C.rd) 0 C.P Q' a w
/-- A statement whose order is drawn. -/
@[irreducible] def DrawX (C : Cx) (id : Nat) (ops : List Oper) (Q : KS) (ts : List XV) (h : List It) : Prop :=
  ∀ w0 F Q' a w, (∀ ts' h' a' w', Q ts' h' → Cfg w0 F ts' h' a' w' → Q' .normal a' w') → Cfg w0 F ts h a w → (Code.region id ops.toArray true).wpIn (fen C.rd) 0 C.P Q' a w
/-- A range over a function. -/
@[irreducible] def RangeX (C : Cx) (f : Operand) (params : Array Tmp) (assign body : Code) (Q : KQ) (ts : List XV) (h : List It) : Prop :=
  ∀ w0 F Q' a w, QOk w0 F Q Q' → Cfg w0 F ts h a w → (Code.rangeFunc f params assign body).wpIn (fen C.rd) 0 C.P Q' a w

/-- Two pieces one behind the other, of which the first begins where a cut is wanted. -/
@[irreducible] def SeqX (C : Cx) (x y : Code) (Q : KQ) (ts : List XV) (h : List It) : Prop :=
  ∀ w0 F Q' a w, QOk w0 F Q Q' → Cfg w0 F ts h a w → (Code.seq x y).wpIn (fen C.rd) 0 C.P Q' a w
def firstId : Code → Option Nat
  | .region id _ _ => some id
  | .seq a _ => firstId a
  | .block _ b => firstId b
  | .loop b => firstId b
  | .scope b => firstId b
  | _ => none
def memJ (n : Nat) : List Nat → Bool
  | [] => false
  | a :: l => (match Nat.beq n a with | true => true | false => memJ n l)
def cutB (js : List Nat) (c : Code) : Bool := match js with
  | [] => false
  | js => (match firstId c with | some n => memJ n js | none => false)

/-- Operations in a row ahead of which a stop is wanted (its number, and 100000 more, among the cuts). -/
@[irreducible] def RegX (C : Cx) (id : Nat) (ops : List Oper) (Q : KQ) (ts : List XV) (h : List It) : Prop :=
  ∀ w0 F Q' a w, QOk w0 F Q Q' → Cfg w0 F ts h a w → (Code.region id ops.toArray false).wpIn (fen C.rd) 0 C.P Q' a w
def regB (js : List Nat) (id : Nat) : Bool := match js with
  | [] => false
  | js => memJ (Nat.add id 100000) js

def codeX (C : Cx) : Code → KQ → List XV → List It → Prop
  | .skip, Q, t, h => Q .normal t h
  | .label _, Q, t, h => Q .normal t h
  | .ret, Q, t, h => Q .ret t h
  | .exit n, Q, t, h => Q (.exit n) t h
  | .goto n, Q, t, h => Q (.goto n) t h
  | .region id ops false, Q, t, h => (match regB C.js id with
    | true => RegX C id ops.toList Q t h
    | false => opsX C ops.toList ops.toList t h (Q .normal))
  | .region id ops true, Q, t, h => DrawX C id ops.toList (Q .normal) t h
  | .seq a b, Q, t, h => (match cutB C.js a with
    | true => SeqX C a b Q t h
    | false => codeX C a (seqQ (codeX C b Q) Q) t h)
  | .cond c a b, Q, t, h => (match opv t c with
    | .c .bt => codeX C a Q t h
    | .c .bf => codeX C b Q t h
    | .c (.b x) => (x = true → codeX C a Q t h) ∧ (x = false → codeX C b Q t h)
    | _ => False)
  | .block id b, Q, t, h => codeX C b (blockQ id Q) t h
  | .loop b, Q, t, h => LoopX C b Q t h
  | .scope b, Q, t, h => ScopeX C b Q t h
  | .rangeFunc f ps as b, Q, t, h => RangeX C f ps as b Q t h
  | .refuse _, _, _, _ => False

section
variable {C : Cx} (hT : TabOk C.P C.T)

theorem QOk.seq {w0 : Org} {F : Nat → Prop} {Q : KQ} {Q' : Exit → Act → World → Prop} {next : KS} {K : Act → World → Prop} (h : QOk w0 F Q Q') (hn : ∀ t h a w, next t h → Cfg w0 F t h a w → K a w) : QOk w0 F (seqQ next Q) (Exit.then K Q') := by
  intro e ts hh a w hq hc
  cases e with
  | normal => exact hn _ _ _ _ hq hc
  | ret => exact h .ret _ _ _ _ hq hc
  | exit n => exact h (.exit n) _ _ _ _ hq hc
  | goto n => exact h (.goto n) _ _ _ _ hq hc
theorem QOk.block {w0 : Org} {F : Nat → Prop} {Q : KQ} {Q' : Exit → Act → World → Prop} {id : Nat} (h : QOk w0 F Q Q') : QOk w0 F (blockQ id Q) (Exit.inBlock id Q') := by
  intro e ts hh a w hq hc
  cases e with
  | normal => exact h .normal _ _ _ _ hq hc
  | ret => exact h .ret _ _ _ _ hq hc
  | exit n =>
    simp only [blockQ] at hq
    simp only [Ex.conc, Exit.inBlock]
    split at hq
    · rename_i e; rw [if_pos (Nat.eq_of_beq_eq_true e)]; exact h .normal _ _ _ _ hq hc
    · rename_i e; rw [if_neg (beq_ne e)]; exact h (.exit n) _ _ _ _ hq hc
  | goto n => exact h (.goto n) _ _ _ _ hq hc

include hT in
theorem codeX_sound {w0 : Org} {F : Nat → Prop} : ∀ (c : Code) {Q : KQ} {Q' : Exit → Act → World → Prop} {t : List XV} {h : List It} {a : Act} {w : World}, codeX C c Q t h → Cfg w0 F t h a w → QOk w0 F Q Q' → c.wpIn (fen C.rd) 0 C.P Q' a w
  | .skip, _, _, _, _, _, _, hh, hc, hQ => wpIn_skip (hQ .normal _ _ _ _ hh hc)
  | .label _, _, _, _, _, _, _, hh, hc, hQ => wpIn_label (hQ .normal _ _ _ _ hh hc)
  | .ret, _, _, _, _, _, _, hh, hc, hQ => wpIn_ret (hQ .ret _ _ _ _ hh hc)
  | .exit n, _, _, _, _, _, _, hh, hc, hQ => wpIn_exit (hQ (.exit n) _ _ _ _ hh hc)
  | .goto n, _, _, _, _, _, _, hh, hc, hQ => wpIn_goto (hQ (.goto n) _ _ _ _ hh hc)
  | .region id ops false, Q, Q', t, h, a, w, hh, hc, hQ => by
    unfold codeX at hh
    split at hh
    · unfold RegX at hh
      have := hh w0 F Q' a w hQ hc
      simpa using this
    refine wpIn_region_list ?_
    have := opsX_sound hT (Q := Q') hh hc fun ts' h' a' w' hk hc' => hQ .normal _ _ _ _ hk hc'
    simpa using this
  | .region id ops true, Q, Q', t, h, a, w, hh, hc, hQ => by
    unfold codeX DrawX at hh
    have := hh w0 F Q' a w (fun ts' h' a' w' hk hc' => hQ .normal _ _ _ _ hk hc') hc
    simpa using this
  | .seq x y, Q, Q', t, h, a, w, hh, hc, hQ => by
    unfold codeX at hh
    split at hh
    · unfold SeqX at hh
      exact hh w0 F Q' a w hQ hc
    exact wpIn_seq (codeX_sound x hh hc (hQ.seq fun t h a w hn hc' => codeX_sound y hn hc' hQ))
  | .cond c x y, Q, Q', t, h, a, w, hh, hc, hQ => by
    unfold codeX at hh
    obtain ⟨_, _, _, hd, E, hr, hp⟩ := id hc
    have hv := opv_rel hr c
    split at hh
    · rename_i e; rw [e] at hv
      exact wpIn_cond_true (show _ = Value.bool true from hv) (codeX_sound x hh hc hQ)
    · rename_i e; rw [e] at hv
      exact wpIn_cond_false (show _ = Value.bool false from hv) (codeX_sound y hh hc hQ)
    · rename_i b e; rw [e] at hv
      exact wpIn_cond_split (show _ = Value.bool b from hv) (fun hb => codeX_sound x (hh.1 hb) hc hQ) (fun hb => codeX_sound y (hh.2 hb) hc hQ)
    · exact hh.elim
  | .block id b, Q, Q', t, h, a, w, hh, hc, hQ => wpIn_block (codeX_sound b hh hc hQ.block)
  | .loop b, Q, Q', t, h, a, w, hh, hc, hQ => by
    unfold codeX LoopX at hh
    exact hh w0 F Q' a w hQ hc
  | .scope b, Q, Q', t, h, a, w, hh, hc, hQ => by
    unfold codeX ScopeX at hh
    exact hh w0 F Q' a w hQ hc
  | .rangeFunc f ps as b, Q, Q', t, h, a, w, hh, hc, hQ => by
    unfold codeX RangeX at hh
    exact hh w0 F Q' a w hQ hc
  | .refuse _, _, _, _, _, _, _, hh, _, _ => by unfold codeX at hh; exact hh.elim
include hT in
/-- Go on. -/
theorem regx_go {id : Nat} {ops : List Oper} {Q : KQ} {ts : List XV} {h : List It} (hh : opsX C ops ops ts h (Q .normal)) : RegX C id ops Q ts h := by
  unfold RegX
  intro w0 F Q' a w hQ hc
  refine wpIn_region_list ?_
  have := opsX_sound hT (Q := Q') hh hc fun ts' h' a' w' hk hc' => hQ .normal _ _ _ _ hk hc'
  simpa using this
end
end Go.Eng
