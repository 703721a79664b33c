/- The engine, part In: walks in an activation, or in a round of a loop over a function. Nothing of any program is proved here. -/
import Derived.RangeFuncCalls
import Derived.RangeFuncLeaves
import Derived.RangeFuncRecord
import Derived.OrdersIn
import Derived.TacticsIn
import Derived.LoopNIn
import Derived.Sort.LoopGhostIn
import Derived.ScopeJumps
import Derived.Orders
import Derived.WalkKit
import Derived.WalkLawsBesides
import Derived.Maps.AppendAt
import Derived.Deep.Quiet
import Derived.ChangeKeysEq
import Derived.WalkSpells
namespace Go.Eng
open Go
set_option linter.unusedVariables false

/-- An activation (none), or a round of the loop whose record is l. -/
def fen (r : Option Nat) : Fence := { fn := fun _ => True, depth := none, alive := false, round := r }
theorem fen_none : fen none = Fence.wide := rfl
theorem fen_fenced (P : Program) (r : Option Nat) (m : Machine) : m.fenced P (fen r) := fenced_wide P m

theorem fen_calls {r : Option Nat} {n : Nat} {P : Program} {f : FuncId} {args : Array Value} {w : World} {R : Ending → World → Prop} (h : Calls P f args w R) : CallsIn (fen r) n P f args w R := by
  have h1 : CallsIn Fence.wide n P f args w R := callsIn_wide.2 h
  cases r with
  | none => exact h1
  | some l => exact h1.inRound l
theorem fen_rows {r : Option Nat} {n : Nat} {P : Program} {row : String} {args : Array Value} {w : World} {R : Value → World → Prop} (h : Rows P row args w R) : RowsIn (fen r) n P row args w R := fun c cs _ => by
  obtain ⟨v, w', hr, hs⟩ := h c cs
  exact ⟨v, w', hr, (StepsIn.of_steps hs).mono fun m _ => fen_fenced P r m⟩

/-- An operation walked in an activation goes in a round as well, but for a deferred call. -/
theorem fen_oper {r : Option Nat} {n : Nat} {P : Program} {o : Oper} {a : Act} {w : World} {K : Act → World → Prop} {Q : Exit → Act → World → Prop} (hd : r = none ∨ ∀ c, o.op ≠ .defer c) (h : o.wp P a w K Q) : o.wpIn (fen r) n P a w K Q := by
  refine ⟨fun _ _ => trivial, ?_⟩
  have hs : Oper.semAt (fen r).round a.eval o = execOp a.eval o := by
    rcases hd with rfl | hd
    · rfl
    · exact Oper.semAt_eq _ _ _ hd
  rw [hs]
  unfold Oper.wp at h
  generalize (execOp a.eval o).run P w = res at h ⊢
  cases res with
  | ok x w' =>
    cases x <;> simp only [Oper.upon, Oper.uponIn] at h ⊢ <;>
      first
        | exact h
        | exact ⟨fun h => by simp [fen] at h, (fen_calls h).mono fun e w'' he => by cases e <;> exact he⟩
        | exact ⟨fun h => by simp [fen] at h, fen_rows h⟩
        | exact h.elim
  | halt x w' => cases x <;> simp only [Oper.upon, Oper.uponIn] at h ⊢ <;> exact h

def noDefer (ops : Array Oper) : Bool := ops.toList.all fun o => match o.op with | .defer _ => false | _ => true
theorem noDefer_at {ops : Array Oper} (h : noDefer ops = true) {i : Nat} {o : Oper} (ho : ops[i]? = some o) : ∀ c, o.op ≠ .defer c := fun c e => by
  have h1 := List.all_eq_true.1 h o (by simpa using Array.mem_of_getElem? ho)
  rw [e] at h1; cases h1

theorem fen_op {r : Option Nat} {n : Nat} {P : Program} {ops : Array Oper} {Q : Exit → Act → World → Prop} (hQ : ¬ LetsOut Q) {i : Nat} {K : Act → World → Prop} {a : Act} {w : World} (hd : r = none ∨ noDefer ops = true)
    (h : wpOp P ops Q i K a w) : wpOpIn (fen r) n P ops Q i K a w := by
  unfold wpOp at h
  unfold wpOpIn
  cases ho : ops[i]? with
  | none => simpa [ho] using h
  | some o =>
    simp only [ho] at h ⊢
    split at h
    · rename_i hw
      rw [if_pos hw]
      rcases h with h | h
      · exact fen_oper (hd.imp_right fun h => noDefer_at h ho) h
      · exact (hQ h.2).elim
    · rename_i hw
      rw [if_neg hw]
      exact ⟨fun _ _ => trivial, h⟩
theorem fen_any {r : Option Nat} {n : Nat} {P : Program} {ops : Array Oper} {Q : Exit → Act → World → Prop} (hQ : ¬ LetsOut Q) (hd : r = none ∨ noDefer ops = true) :
    ∀ (fuel : Nat) (listed : Array Bool) (a : Act) (w : World), wpAny P .any ops Q fuel listed a w → wpAnyIn (fen r) n P .any ops Q fuel listed a w
  | 0, _, _, _, h => h
  | fuel + 1, _, _, _, h => ⟨h.1, fun i hi => wpOpIn_mono (fun a' w' h' => fen_any hQ hd fuel _ a' w' h') (fen_op hQ hd (h.2 i hi))⟩
/-- A statement whose order is drawn. -/
theorem fen_drawn {r : Option Nat} {P : Program} {ops : Array Oper} {Q : Act → World → Prop} {id : Nat} {a : Act} {w : World} (hd : r = none ∨ noDefer ops = true) (hm : P.follows .mixedOrders = true)
    (h : wpAny P .any ops (fun e a w => e = .normal ∧ Q a w) ops.size (Array.replicate ops.size false) a { w with drawn := w.drawn + 1 }) {Q' : Exit → Act → World → Prop} (hQ : ∀ a w, Q a w → Q' .normal a w) :
    (Code.region id ops true).wpIn (fen r) 0 P Q' a w :=
  Go.wpIn_mono (wpIn_region_any (Q := fun e a w => e = .normal ∧ Q a w) hm (fen_any (fun hl => by obtain ⟨_, _, h, _⟩ := hl; cases h) hd _ _ _ _ h)) fun e a w hq => by obtain ⟨rfl, hq⟩ := hq; exact hQ _ _ hq

section
variable {F : Fence} {n : Nat} {P : Program} {b : Frame} {a : Act} {k : List Item} {cs : List Frame} {w : World} {Q : Exit → Act → World → Prop}
theorem stepR_scope {c : Code} : step P (lone (b.atR a (.code (.scope c) :: k)) cs w) = .next (lone (b.atR a (.code c :: .inScope c :: k)) cs w) :=
  step_lone_go (by simp [stepG, stepG.exec, Frame.atR])
theorem stepR_inScope {c : Code} : step P (lone (b.atR a (.inScope c :: k)) cs w) = .next (lone (b.atR a k) cs w) :=
  step_lone_go (by simp [stepG, stepG.exec, Frame.atR])

theorem exitTo_scope (id : Nat) (c : Code) (k : List Item) : exitTo id (.inScope c :: k) = exitTo id k := by simp [exitTo]

theorem wpIn_scope_straight {c : Code} (h : c.wpIn F n P (Exit.noGoto Q) a w) : (Code.scope c).wpIn F n P Q a w := by
  intro b k cs hro hb hr
  have h0 : (lone (b.atR a (.code (.scope c) :: k)) cs w).fenced P F := fenced_calm hb hr rfl
  obtain ⟨e, a₁, w₁, hq, harr⟩ := h b (.inScope c :: k) cs hro hb hr
  cases e with
  | normal => exact ⟨.normal, a₁, w₁, hq, .head h0 stepR_scope (StepsIn.trans harr (.one (fenced_calm hb hr rfl) stepR_inScope))⟩
  | exit id =>
    have hx := exitTo_scope id c k
    exact ⟨.exit id, a₁, w₁, hq, fun k' hk => .head h0 stepR_scope (harr.1 k' (by rw [hx]; exact hk)),
      fun hr' hk => let ⟨k₁, h1, h2⟩ := harr.2 hr' (by rw [hx]; exact hk); ⟨k₁, h1, .head h0 stepR_scope h2⟩⟩
  | goto l => exact hq.elim
  | ret => exact ⟨_, a₁, w₁, hq, .of_steps (.one h0 stepR_scope) harr⟩
  | panic ch => exact ⟨_, a₁, w₁, hq, .of_steps (.one h0 stepR_scope) harr⟩
  | outgrown => exact ⟨_, a₁, w₁, hq, .of_steps (.one h0 stepR_scope) harr⟩

theorem wpIn_scope_jumps {c rest : Code} (l : Nat) (J : Act → World → Prop) (μ : Act → World → Nat) (hf : findLabel c l = some rest)
    (first : c.wpIn F n P (Exit.jump l J Q) a w)
    (pass : ∀ a w, J a w → rest.wpIn F n P (Exit.jump l (fun a' w' => J a' w' ∧ μ a' w' < μ a w) Q) a w) : (Code.scope c).wpIn F n P Q a w := by
  intro b k cs hro hb hr
  have hg : gotoIn l (.inScope c :: k) = some (.code rest :: .inScope c :: k) := by simp [gotoIn, hf]
  have hex : ∀ id, exitTo id (.inScope c :: k) = exitTo id k := fun id => exitTo_scope id c k
  have h0 : (lone (b.atR a (.code (.scope c) :: k)) cs w).fenced P F := fenced_calm hb hr rfl
  have key : ∀ m a w, μ a w = m → J a w → ∃ e a' w', Q e a' w' ∧ ArrivesIn (Machine.fenced P F) P (lone (b.atR a (.code rest :: .inScope c :: k)) cs w) b k cs e a' w' := by
    intro m
    induction m using Nat.strongRecOn with
    | _ m ih =>
      intro a w hn hJ
      obtain ⟨e, a₁, w₁, hq, harr⟩ := pass a w hJ b (.inScope c :: k) cs hro hb hr
      cases e with
      | normal => exact ⟨.normal, a₁, w₁, hq, StepsIn.trans harr (.one (fenced_calm hb hr rfl) stepR_inScope)⟩
      | exit id => exact ⟨.exit id, a₁, w₁, hq, fun k' hk => harr.1 k' (by rw [hex]; exact hk), fun hr' hk => harr.2 hr' (by rw [hex]; exact hk)⟩
      | goto l' =>
        obtain ⟨rfl, hJ', hlt⟩ := hq
        obtain ⟨e₂, a₂, w₂, hq₂, harr₂⟩ := ih _ (by omega) a₁ w₁ rfl hJ'
        exact ⟨e₂, a₂, w₂, hq₂, .of_steps (harr.1 _ hg) harr₂⟩
      | ret => exact ⟨_, a₁, w₁, hq, harr⟩
      | panic ch => exact ⟨_, a₁, w₁, hq, harr⟩
      | outgrown => exact ⟨_, a₁, w₁, hq, harr⟩
  obtain ⟨e, a₁, w₁, hq, harr⟩ := first b (.inScope c :: k) cs hro hb hr
  cases e with
  | normal => exact ⟨.normal, a₁, w₁, hq, .head h0 stepR_scope (StepsIn.trans harr (.one (fenced_calm hb hr rfl) stepR_inScope))⟩
  | exit id =>
    exact ⟨.exit id, a₁, w₁, hq, fun k' hk => .head h0 stepR_scope (harr.1 k' (by rw [hex]; exact hk)),
      fun hr' hk => let ⟨k₁, h1, h2⟩ := harr.2 hr' (by rw [hex]; exact hk); ⟨k₁, h1, .head h0 stepR_scope h2⟩⟩
  | goto l' =>
    obtain ⟨rfl, hJ'⟩ := hq
    obtain ⟨e₂, a₂, w₂, hq₂, harr₂⟩ := key _ a₁ w₁ rfl hJ'
    exact ⟨e₂, a₂, w₂, hq₂, .of_steps (.head h0 stepR_scope (harr.1 _ hg)) harr₂⟩
  | ret => exact ⟨_, a₁, w₁, hq, .of_steps (.one h0 stepR_scope) harr⟩
  | panic ch => exact ⟨_, a₁, w₁, hq, .of_steps (.one h0 stepR_scope) harr⟩
  | outgrown => exact ⟨_, a₁, w₁, hq, .of_steps (.one h0 stepR_scope) harr⟩
end
end Go.Eng

/- The engine, part A: abstract values, owned blocks, what they say of memory; nothing of any program is proved here. -/
namespace Go.Eng
open Go Go.RowKit

/-- One cell, as far as it is known. -/
inductive XC where
  | un
  | il (k : IntKind) (n : Int)
  | i (k : IntKind) (n : Int)
  | bt
  | bf
  | b (x : Bool)
  | p (it off : Nat)
  | ep (m : Nat) (f : Nat → XC)
  | rs (n z : Nat) (f : Nat → Nat → XC)
  | ts (n z : Nat) (f : Nat → Nat → XC)
  | ow (it : Nat)
  | q (it i z off : Nat)
  | sw (it off n z : Nat)
  | sp (it off n z : Nat)
  | mp (it : Nat)
  | fn (f n : Nat) (caps : Nat → XC)
  | v (x : Value)

inductive XW where
  | c (x : XC)
  | a (l : List XC)

/-- What a slot holds. -/
inductive XV where
  | un
  | c (x : XC)
  | a (l : List XC)
  | t (l : List XW)

structure Base where
  wb : World
  B : Nat → Prop
/-- What is owned behind a value, in words of its own: it hangs on the blocks S, and on memory that doesn't turn. -/
structure Abs where
  is : Base → Value → (Nat → Prop) → World → Prop
  one : ∀ {bs v S w}, is bs v S w → v.oneCell' = true
  st : ∀ {bs bs' : Base} {v : Value} {S : Nat → Prop} {w w' : World}, (∀ b, bs.B b → bs'.B b ∧ bs'.wb.heap[b]? = bs.wb.heap[b]?) → (∀ b, S b → w'.heap[b]? = w.heap[b]?) → is bs v S w → is bs' v S w'

structure Env where
  bs : Base
  n : Nat
  blk : Nat → Nat
  sl : Nat → Value
  ext : Nat → Nat → Prop

def Base.ok (b : Base) (w : World) : Prop := ∀ k, b.B k → k < w.heap.size ∧ w.heap[k]? = b.wb.heap[k]?

/-- A cell of which memory that turns says nothing. -/
def St : XC → Prop
  | .p _ _ | .ow _ | .q _ _ _ _ | .sw _ _ _ _ | .sp _ _ _ _ | .mp _ | .fn _ _ _ => False
  | _ => True

def RelC (E : Env) : XC → Value → Prop
  | .un, v => v.oneCell' = true
  | .il k n, v => v = .int k n
  | .i k n, v => v = .int k n
  | .bt, v => v = .bool true
  | .bf, v => v = .bool false
  | .b x, v => v = .bool x
  | .p it off, v => it < E.n ∧ v = .pointer (some ⟨E.blk it, off, none⟩)
  | .ep m f, v => ∃ ad : Addr, v = .pointer (some ad) ∧ ∀ j, j < m → E.bs.B ad.block ∧ ∃ u, E.bs.wb.cell? (ad.add j) = some u ∧ St (f j) ∧ RelC E (f j) u
  | .rs n z f, v => ∃ (A : Option Addr) (c : Nat), v = .slice A n c ∧ n ≤ c ∧ c ≤ maxLen ∧
      ∀ i, i < n → ∃ ad, A = some ad ∧ ∀ j, j < z → E.bs.B ad.block ∧ ∃ u, E.bs.wb.cell? (ad.add (i * z + j)) = some u ∧ St (f i j) ∧ RelC E (f i j) u
  | .ts n z f, v => ∃ A : Option Addr, v = .slice A n n ∧ n ≤ maxLen ∧
      ∀ i, i < n → ∃ ad, A = some ad ∧ ∀ j, j < z → E.bs.B ad.block ∧ ∃ u, E.bs.wb.cell? (ad.add (i * z + j)) = some u ∧ St (f i j) ∧ RelC E (f i j) u
  | .ow it, v => it < E.n ∧ v = E.sl it ∧ v.oneCell' = true
  | .q it i z off, v => it < E.n ∧ ∃ g n c, E.sl it = .slice (some ⟨g, 0, none⟩) n c ∧ v = .pointer (some ⟨g, i * z + off, none⟩)
  | .sw it off n z, v => it < E.n ∧ ∃ (A : Option Addr) (m c : Nat), E.sl it = .slice A m c ∧ off + n ≤ m ∧ v = sliced A off (off + n) c z
  | .sp it off n z, v => it < E.n ∧ ∃ c, v = .slice (some ⟨E.blk it, off, none⟩) n c ∧ n ≤ c ∧ c = n + z
  | .mp it, v => it < E.n ∧ v = .map (some (E.blk it))
  | .fn f n caps, v => ∃ vs : Array Value, v = .func (.func f) #[] vs ∧ vs.size = n ∧ ∀ j, j < n → ∃ u, vs[j]? = some u ∧ RelC E (caps j) u
  | .v x, v => v = x ∧ x.oneCell' = true

def stB : XC → Bool
  | .p _ _ | .ow _ | .q _ _ _ _ | .sw _ _ _ _ | .sp _ _ _ _ | .mp _ | .fn _ _ _ => false
  | _ => true
theorem stB_iff {x : XC} (h : stB x = true) : St x := by cases x <;> first | trivial | simp [stB] at h
def RelL (E : Env) : List XC → List Value → Prop
  | [], [] => True
  | x :: xs, v :: vs => RelC E x v ∧ RelL E xs vs
  | _, _ => False

def RelW (E : Env) : XW → Value → Prop
  | .c x, v => RelC E x v
  | .a l, v => ∃ vs : Array Value, v = .agg vs ∧ RelL E l vs.toList

def RelWs (E : Env) : List XW → List Value → Prop
  | [], [] => True
  | x :: xs, v :: vs => RelW E x v ∧ RelWs E xs vs
  | _, _ => False

def RelV (E : Env) : XV → Value → Prop
  | .un, _ => True
  | .c x, v => RelC E x v
  | .a l, v => ∃ vs : Array Value, v = .agg vs ∧ RelL E l vs.toList
  | .t l, v => ∃ vs : Array Value, v = .tuple vs ∧ RelWs E l vs.toList

def RelTs (E : Env) : List XV → List Value → Prop
  | [], [] => True
  | x :: xs, v :: vs => RelV E x v ∧ RelTs E xs vs
  | _, _ => False

/-- What is owned behind some cells, in words of its own. 'pk': what is known of them whatever else turns; 'fz': what is known once all that is owned turns no more. -/
structure AbsL where
  is : Base → List Value → (Nat → Prop) → World → Prop
  one : ∀ {bs vs S w}, is bs vs S w → ∀ v ∈ vs, v.oneCell' = true
  st : ∀ {bs bs' : Base} {vs : List Value} {S : Nat → Prop} {w w' : World}, (∀ b, bs.B b → bs'.B b ∧ bs'.wb.heap[b]? = bs.wb.heap[b]?) → (∀ b, S b → w'.heap[b]? = w.heap[b]?) → is bs vs S w → is bs' vs S w'
  pk : List XC
  pkSt : ∀ x ∈ pk, St x
  pkOk : ∀ {bs vs S w}, is bs vs S w → ∀ E : Env, (∀ b, bs.B b → E.bs.B b ∧ E.bs.wb.heap[b]? = bs.wb.heap[b]?) → RelL E pk vs
  fz : List XC
  fzSt : ∀ x ∈ fz, St x
  fzOk : ∀ {bs vs S w}, is bs vs S w → ∀ E : Env, (∀ b, bs.B b → E.bs.B b ∧ E.bs.wb.heap[b]? = bs.wb.heap[b]?) → (∀ b, S b → E.bs.B b ∧ E.bs.wb.heap[b]? = w.heap[b]?) → RelL E fz vs

/-- A block that the run owns. -/
inductive It where
  | dead
  | cells (ty : TypeId) (cs : List XC)
  | row (e : TypeId) (z : Nat) (xs : List (List XC))
  | obj (Φ : Obj → Prop)
  | abs (A : Abs)
  | held (vs : List Value) (xs : List XV)
  | prow (e : TypeId) (z : Nat) (as : List AbsL) (o : Option (Nat × List XC))

theorem RelC.one {E : Env} {x : XC} {v : Value} (h : RelC E x v) : v.oneCell' = true := by
  cases x <;> simp only [RelC] at h
  case un => exact h
  case ep m f => obtain ⟨ad, rfl, _⟩ := h; rfl
  case rs n z f => obtain ⟨A, c, rfl, _⟩ := h; rfl
  case ts n z f => obtain ⟨A, rfl, _⟩ := h; rfl
  case ow it => exact h.2.2
  case q it i z off => obtain ⟨_, g, n, c, _, rfl⟩ := h; rfl
  case sw it off n z => obtain ⟨_, A, m, c, _, _, rfl⟩ := h; rfl
  case sp it off n z => obtain ⟨_, c, rfl, _⟩ := h; rfl
  case fn f n caps => obtain ⟨vs, rfl, _⟩ := h; rfl
  case v x => rw [h.1]; exact h.2
  case p => obtain ⟨_, rfl⟩ := h; rfl
  case mp => obtain ⟨_, rfl⟩ := h; rfl
  all_goals (subst h; rfl)

theorem RelL.len {E : Env} : ∀ {l : List XC} {vs : List Value}, RelL E l vs → l.length = vs.length
  | [], [], _ => rfl
  | _ :: _, _ :: _, h => by simp [RelL.len h.2]
  | [], _ :: _, h => h.elim
  | _ :: _, [], h => h.elim

theorem RelL.get {E : Env} : ∀ {l : List XC} {vs : List Value} (_ : RelL E l vs) (i : Nat) {x : XC}, l[i]? = some x → ∃ v, vs[i]? = some v ∧ RelC E x v
  | [], [], _, i, x, h => by simp at h
  | _ :: _, v :: _, h, 0, x, hx => by simp at hx; subst hx; exact ⟨v, rfl, h.1⟩
  | _ :: l, _ :: vs, h, i + 1, x, hx => by simpa using RelL.get h.2 i (by simpa using hx)

theorem RelL.get' {E : Env} {l : List XC} {vs : List Value} (h : RelL E l vs) (i : Nat) {v : Value} (hv : vs[i]? = some v) : ∃ x, l[i]? = some x ∧ RelC E x v := by
  have hlt : i < l.length := by rw [h.len]; exact (List.getElem?_eq_some_iff.1 hv).1
  obtain ⟨v', hv', hr⟩ := h.get i (List.getElem?_eq_getElem hlt)
  rw [hv] at hv'; cases hv'
  exact ⟨_, List.getElem?_eq_getElem hlt, hr⟩

theorem RelL.mk {E : Env} : ∀ {l : List XC} {vs : List Value}, l.length = vs.length → (∀ (i : Nat) (x : XC) (v : Value), l[i]? = some x → vs[i]? = some v → RelC E x v) → RelL E l vs
  | [], [], _, _ => trivial
  | x :: l, v :: vs, hl, h => ⟨h 0 x v rfl rfl, RelL.mk (by simpa using hl) fun i x v hx hv => h (i + 1) x v (by simpa using hx) (by simpa using hv)⟩
  | [], _ :: _, hl, _ => by simp at hl
  | _ :: _, [], hl, _ => by simp at hl

theorem RelL.all {E : Env} {l : List XC} {vs : List Value} (h : RelL E l vs) : ∀ u ∈ vs, u.oneCell' = true := by
  intro u hu
  obtain ⟨i, hi⟩ := List.mem_iff_getElem?.1 hu
  obtain ⟨x, _, hr⟩ := h.get' i hi
  exact hr.one

theorem RelL.append {E : Env} : ∀ {l l' : List XC} {vs vs' : List Value}, RelL E l vs → RelL E l' vs' → RelL E (l ++ l') (vs ++ vs')
  | [], _, [], _, _, h => h
  | _ :: _, _, _ :: _, _, h, h' => ⟨h.1, RelL.append h.2 h'⟩
  | [], _, _ :: _, _, h, _ => h.elim
  | _ :: _, _, [], _, h, _ => h.elim

theorem RelL.take {E : Env} : ∀ {l : List XC} {vs : List Value} (n : Nat), RelL E l vs → RelL E (l.take n) (vs.take n)
  | _, _, 0, _ => by simp [RelL]
  | [], [], n + 1, _ => by simp [RelL]
  | _ :: _, _ :: _, n + 1, h => ⟨h.1, RelL.take n h.2⟩
  | [], _ :: _, _ + 1, h => h.elim
  | _ :: _, [], _ + 1, h => h.elim

theorem RelL.drop {E : Env} : ∀ {l : List XC} {vs : List Value} (n : Nat), RelL E l vs → RelL E (l.drop n) (vs.drop n)
  | _, _, 0, h => h
  | [], [], n + 1, _ => by simp [RelL]
  | _ :: _, _ :: _, n + 1, h => RelL.drop n h.2
  | [], _ :: _, _ + 1, h => h.elim
  | _ :: _, [], _ + 1, h => h.elim

theorem RelTs.len {E : Env} : ∀ {l : List XV} {vs : List Value}, RelTs E l vs → l.length = vs.length
  | [], [], _ => rfl
  | _ :: _, _ :: _, h => by simp [RelTs.len h.2]
  | [], _ :: _, h => h.elim
  | _ :: _, [], h => h.elim

theorem RelTs.set {E : Env} : ∀ {l : List XV} {vs : List Value} (i : Nat) {x : XV} {v : Value}, RelTs E l vs → RelV E x v → RelTs E (l.set i x) (vs.set i v)
  | [], [], _, _, _, _, _ => trivial
  | _ :: _, _ :: _, 0, _, _, h, hx => ⟨hx, h.2⟩
  | _ :: _, _ :: _, i + 1, _, _, h, hx => ⟨h.1, RelTs.set i h.2 hx⟩
  | [], _ :: _, _, _, _, h, _ => h.elim
  | _ :: _, [], _, _, _, h, _ => h.elim

/-- The slot's content; 'un' beyond the end. -/
def get : List XV → Nat → XV
  | [], _ => .un
  | a :: _, 0 => a
  | _ :: l, n + 1 => get l n

theorem RelTs.get {E : Env} : ∀ {l : List XV} {vs : List Value}, RelTs E l vs → ∀ i, RelV E (Eng.get l i) (vs.getD i undef)
  | [], [], _, _ => trivial
  | _ :: _, _ :: _, h, 0 => h.1
  | _ :: l, _ :: vs, h, i + 1 => by simpa [Eng.get] using RelTs.get h.2 i
  | [], _ :: _, h, _ => h.elim
  | _ :: _, [], h, _ => h.elim

/-! ### forcing -/
def forceC (x : XC) (k : XC → Prop) : Prop :=
  match x with
  | .un => k .un | .il a n => k (.il a n) | .i a n => k (.i a n) | .bt => k .bt | .bf => k .bf | .b x => k (.b x) | .p a o => k (.p a o)
  | .ep m f => k (.ep m f) | .rs n z f => k (.rs n z f) | .ts n z f => k (.ts n z f) | .ow it => k (.ow it) | .q a b c d => k (.q a b c d) | .sw a b c d => k (.sw a b c d) | .sp a b c d => k (.sp a b c d) | .mp a => k (.mp a) | .fn a b c => k (.fn a b c) | .v x => k (.v x)
theorem forceC_eq (x : XC) (k : XC → Prop) : forceC x k = k x := by cases x <;> rfl

def forceL : List XC → (List XC → Prop) → Prop
  | [], k => k []
  | a :: l, k => forceC a fun a => forceL l fun l => k (a :: l)
theorem forceL_eq : ∀ (l : List XC) (k : List XC → Prop), forceL l k = k l
  | [], _ => rfl
  | a :: l, k => by simp only [forceL, forceC_eq, forceL_eq l]

def forceW (x : XW) (k : XW → Prop) : Prop :=
  match x with
  | .c x => forceC x fun x => k (.c x)
  | .a l => forceL l fun l => k (.a l)
theorem forceW_eq (x : XW) (k : XW → Prop) : forceW x k = k x := by cases x <;> simp only [forceW, forceC_eq, forceL_eq]
def forceWs : List XW → (List XW → Prop) → Prop
  | [], k => k []
  | a :: l, k => forceW a fun a => forceWs l fun l => k (a :: l)
theorem forceWs_eq : ∀ (l : List XW) (k : List XW → Prop), forceWs l k = k l
  | [], _ => rfl
  | a :: l, k => by simp only [forceWs, forceW_eq, forceWs_eq l]

def forceV (x : XV) (k : XV → Prop) : Prop :=
  match x with
  | .un => k .un
  | .c x => forceC x fun x => k (.c x)
  | .a l => forceL l fun l => k (.a l)
  | .t l => forceWs l fun l => k (.t l)
theorem forceV_eq (x : XV) (k : XV → Prop) : forceV x k = k x := by cases x <;> simp only [forceV, forceC_eq, forceL_eq, forceWs_eq]

def setK : List XV → Nat → XV → (List XV → Prop) → Prop
  | [], _, _, k => k []
  | _ :: l, 0, v, k => k (v :: l)
  | a :: l, n + 1, v, k => setK l n v fun l => k (a :: l)
theorem setK_eq : ∀ (l : List XV) (n : Nat) (v : XV) (k : List XV → Prop), setK l n v k = k (l.set n v)
  | [], _, _, _ => rfl
  | _ :: _, 0, _, _ => rfl
  | a :: l, n + 1, v, k => by simp only [setK, setK_eq l n, List.set_cons_succ]

/-! ### the whole state -/
def Ow (E : Env) (k : Nat) : It → Nat → Prop
  | .dead, _ => False
  | .cells _ _, b => E.blk k = b
  | .row _ _ _, b => (E.sl k).ownBlock = some b
  | .obj _, b => E.blk k = b
  | .abs _, b => E.ext k b
  | .prow _ _ _ _, b => E.ext k b
  | .held _ _, _ => False

/-- A row of which each element owns what lies behind it; 'o': the element that lies open, and its cells. -/
structure PRow (E : Env) (w : World) (k e z : Nat) (as : List AbsL) (o : Option (Nat × List XC)) (ys : List Value) (Ss : Nat → Nat → Prop) : Prop where
  row : w.ownsRow 0 e z (E.sl k) as.length ys
  el : ∀ (i : Nat) (a : AbsL), as[i]? = some a → (∀ cs, o ≠ some (i, cs)) → a.is E.bs ((ys.drop (i * z)).take z) (Ss i) w
  op : ∀ (i : Nat) (cs : List XC), o = some (i, cs) → i < as.length ∧ cs.length = z ∧ RelL E cs ((ys.drop (i * z)).take z)
  sep : ∀ i j b, Ss i b → Ss j b → i = j
  own : ∀ i b, Ss i b → E.ext k b ∧ (E.sl k).ownBlock ≠ some b
  blk : ∀ b, (E.sl k).ownBlock = some b → E.ext k b

def ItOk (E : Env) (w : World) (k : Nat) : It → Prop
  | .dead => True
  | .cells ty cs => ∃ vs : Array Value, w.heap[E.blk k]? = some (.cells vs ty (0, 0)) ∧ RelL E cs vs.toList
  | .row e z xs => ∃ ys : List Value, w.ownsRow 0 e z (E.sl k) xs.length ys ∧ RelL E xs.flatten ys ∧ (∀ l ∈ xs, l.length = z) ∧ ∀ x ∈ xs.flatten, St x
  | .obj Φ => ∃ o, w.heap[E.blk k]? = some o ∧ Φ o ∧ (o matches .cells ..) = false
  | .abs A => A.is E.bs (E.sl k) (E.ext k) w
  | .held vs xs => RelTs E xs vs
  | .prow e z as o => ∃ ys Ss, PRow E w k e z as o ys Ss

/-- Of what stood in the world w0, and isn't in F, nothing has turned. -/
structure Fr (F : Nat → Prop) (w0 w : World) : Prop where
  os : w.os = w0.os
  tape : w.tape = w0.tape
  output : w.output = w0.output
  size : w0.heap.size ≤ w.heap.size
  block : ∀ k, k < w0.heap.size → ¬ F k → w.heap[k]? = w0.heap[k]?

theorem Fr.refl (F : Nat → Prop) (w : World) : Fr F w w := ⟨rfl, rfl, rfl, Nat.le_refl _, fun _ _ _ => rfl⟩
theorem Fr.trans {F : Nat → Prop} {a b c : World} (h : Fr F a b) (k : Fr F b c) : Fr F a c :=
  ⟨k.os.trans h.os, k.tape.trans h.tape, k.output.trans h.output, Nat.le_trans h.size k.size, fun i hi hF => (k.block i (Nat.lt_of_lt_of_le hi h.size) hF).trans (h.block i hi hF)⟩
theorem Fr.below {w w' : World} (h : Fr (fun _ => False) w w') : Below w.heap.size w w' := ⟨h.os, h.tape, h.output, h.size, fun k hk => h.block k hk (fun x => x)⟩
theorem Fr.of_below {w w' : World} (F : Nat → Prop) (h : Below w.heap.size w w') : Fr F w w' := ⟨h.os, h.tape, h.output, h.size, fun k hk _ => h.block k hk⟩

def BsLe (a b : Base) : Prop := ∀ k, a.B k → b.B k ∧ b.wb.heap[k]? = a.wb.heap[k]?
theorem BsLe.refl (a : Base) : BsLe a a := fun _ h => ⟨h, rfl⟩
theorem BsLe.trans {a b c : Base} (h : BsLe a b) (k : BsLe b c) : BsLe a c := fun i hi => ⟨(k i (h i hi).1).1, (k i (h i hi).1).2.trans (h i hi).2⟩

/-- Where a run began: its world, and what was told of memory that doesn't turn. -/
structure Org where
  w : World
  bs : Base

structure Heap (w0 : Org) (F : Nat → Prop) (E : Env) (h : List It) (w : World) : Prop where
  bs : E.bs.ok w
  le : BsLe w0.bs E.bs
  nb : ∀ b, E.bs.B b → w0.bs.B b ∨ w0.w.heap.size ≤ b ∨ F b
  n : E.n = h.length
  ok : ∀ k x, h[k]? = some x → ItOk E w k x
  own : ∀ k x b, h[k]? = some x → Ow E k x b → b < w.heap.size ∧ ¬ E.bs.B b ∧ (w0.w.heap.size ≤ b ∨ F b)
  sep : ∀ j k x y b, h[j]? = some x → h[k]? = some y → Ow E j x b → Ow E k y b → j = k
  fr : Fr F w0.w w

/-- What is framed by the inner origin is framed by the outer one. -/
def Sub (w0 : Org) (F : Nat → Prop) (w1 : Org) (F1 : Nat → Prop) : Prop := w0.w.heap.size ≤ w1.w.heap.size ∧ ∀ E h w, Heap w1 F1 E h w → Heap w0 F E h w
theorem Sub.refl (w0 : Org) (F : Nat → Prop) : Sub w0 F w0 F := ⟨Nat.le_refl _, fun _ _ _ h => h⟩
theorem Sub.trans {w0 w1 w2 : Org} {F F1 F2 : Nat → Prop} (h : Sub w0 F w1 F1) (k : Sub w1 F1 w2 F2) : Sub w0 F w2 F2 := ⟨Nat.le_trans h.1 k.1, fun _ _ _ x => h.2 _ _ _ (k.2 _ _ _ x)⟩

/-- The mark of a loop over a function. -/
def markOf (b : Nat) : Deferred := { target := .collected b, args := #[] }
/-- The deferred calls of an activation are marks of loops over functions; their blocks lie behind the outer origin and are no part of what the inner one lets turn. -/
def Marks (w0 : Org) (w1 : Org) (F1 : Nat → Prop) (ds : List Deferred) : Prop :=
  ∃ bl : List Nat, bl.Nodup ∧ ds = bl.map markOf ∧ ∀ b ∈ bl, w0.w.heap.size ≤ b ∧ b < w1.w.heap.size ∧ ¬ F1 b ∧ ¬ w1.bs.B b ∧ w1.w.heap[b]? = some (.deferred (some []))
theorem Marks.nil (w0 w1 : Org) (F1 : Nat → Prop) : Marks w0 w1 F1 [] := ⟨[], List.nodup_nil, rfl, fun _ h => by simp at h⟩

/-- 'ts' and 'h' say what is in the slots of 'a' and in the world. -/
def Cfg (w0 : Org) (F : Nat → Prop) (ts : List XV) (h : List It) (a : Act) (w : World) : Prop :=
  ∃ w1 F1, Sub w0 F w1 F1 ∧ Marks w0 w1 F1 a.defers ∧ ∃ E, RelTs E ts a.tmps.toList ∧ Heap w1 F1 E h w
theorem Cfg.start {w0 : Org} {F : Nat → Prop} {ts : List XV} {h : List It} {a : Act} {w : World} {E : Env} (hd : a.defers = []) (hr : RelTs E ts a.tmps.toList) (hp : Heap w0 F E h w) : Cfg w0 F ts h a w :=
  ⟨w0, F, Sub.refl _ _, by rw [hd]; exact Marks.nil _ _ _, E, hr, hp⟩

end Go.Eng

/- The engine, part B: the table of types, and what the model's operations on values come to; nothing of any program is proved here. -/
namespace Go.Eng
open Go Go.RowKit
set_option linter.unusedSimpArgs false
set_option linter.unusedVariables false

inductive Kd where
  | other
  | int (k : IntKind)
  | bool
  | str
  | ptr
  | st (fs : List (Nat × TypeId))
  | arr (len : Nat) (e : TypeId)
  | sl (e : TypeId)
  | mp (k e : TypeId)

/-- The leaves of a type that is compared cell by cell: 0 a number, 1 a bool, 2 a text. -/
structure TI where
  size : Nat
  bytes : Nat
  agg : Bool
  zero : List Value
  kd : Kd
  flat : Option (List Nat)

def isAggT (P : Program) (t : TypeId) : Bool := match P.underlying t with | some (.struct _) => true | some (.array _ _) => true | _ => false
def zeroT (P : Program) (t : TypeId) : List Value := (((P.info? t).bind (·.zero)).map (·.cells.toList)).getD []

def mkKd (P : Program) (t : TypeId) : Kd :=
  match P.underlying t with
  | some (.int k) => .int k
  | some .bool => .bool
  | some .string => .str
  | some (.pointer _) => .ptr
  | some (.struct fs) => .st (fs.toList.map fun f => (f.offset, f.type))
  | some (.array n e) => .arr n e
  | some (.slice e) => .sl e
  | some (.map k e) => .mp k e
  | _ => .other

mutual
def flatT (P : Program) : Nat → TypeId → Option (List Nat)
  | 0, _ => none
  | d + 1, t =>
    match P.underlying t with
    | some (.int _) => some [0]
    | some .bool => some [1]
    | some .string => some [2]
    | some (.array n e) => match flatT P d e with
      | some l => if l.length = P.cellsOf e ∧ (P.info? e).isSome then some (List.replicate n l).flatten else none
      | none => none
    | some (.struct fs) => if P.stoodInHeld t then none else flatFs P d 0 fs.toList
    | _ => none
def flatFs (P : Program) : Nat → Nat → List Field → Option (List Nat)
  | 0, _, _ => none
  | _ + 1, _, [] => some []
  | d + 1, off, f :: fs =>
    if f.name ≠ "_" ∧ f.offset = off ∧ (P.info? f.type).isSome then
      match flatT P d f.type, flatFs P d (off + P.cellsOf f.type) fs with
      | some l, some r => if l.length = P.cellsOf f.type then some (l ++ r) else none
      | _, _ => none
    else none
end

/-- A type that can be compared by its leaves. -/
def flatOf (P : Program) (t : TypeId) : Option (List Nat) :=
  match flatT P 40 t with
  | some l => if P.eqGuardType P.depth t = false ∧ l.length = P.cellsOf t then some l else none
  | none => none

def zAgg : Option Value → Bool
  | some (.agg _) => true
  | _ => false

def mkTI (P : Program) (t : TypeId) : Option TI :=
  match P.info? t, P.underlying t with
  | some i, some _ =>
    if (i.zero.isSome && (zeroT P t).length == i.size && (zeroT P t).all (·.oneCell') && (isAggT P t || i.size == 1) && (isAggT P t == zAgg i.zero)) = true then
      some { size := i.size, bytes := i.bytes, agg := isAggT P t, zero := zeroT P t, kd := mkKd P t, flat := flatOf P t }
    else none
  | _, _ => none

def Tab := TypeId → Option TI
def TabOk (P : Program) (T : Tab) : Prop := ∀ t i, T t = some i → mkTI P t = some i

def tabGet : List (Option TI) → Nat → Option TI
  | [], _ => none
  | a :: _, 0 => a
  | _ :: l, n + 1 => tabGet l n
theorem tabGet_eq : ∀ (l : List (Option TI)) (n : Nat), tabGet l n = (l[n]?).getD none
  | [], _ => rfl
  | _ :: _, 0 => rfl
  | _ :: l, n + 1 => by simp [tabGet, tabGet_eq l n]
theorem TabOk.of_list {P : Program} {l : List (Option TI)} (h : (List.range l.length).map (mkTI P) = l) : TabOk P (tabGet l) := by
  intro t i ht
  rw [tabGet_eq] at ht
  cases hx : l[t]? with
  | none => simp [hx] at ht
  | some x =>
    have hlt := (List.getElem?_eq_some_iff.1 hx).1
    have h2 : ((List.range l.length).map (mkTI P))[t]? = some x := by rw [h]; exact hx
    simp [hlt] at h2
    simp [hx] at ht
    rw [h2, ht]

section
variable {P : Program} {t : TypeId} {ti : TI}
structure TIs (P : Program) (t : TypeId) (ti : TI) : Prop where
  info : ∃ i, P.info? t = some i ∧ i.size = ti.size ∧ i.bytes = ti.bytes ∧ ∃ z, i.zero = some z ∧ z.cells.toList = ti.zero ∧ (ti.agg = true → z = .agg ti.zero.toArray) ∧ z.cells.size = ti.size
  und : ∃ d, P.underlying t = some d
  size : P.cellsOf t = ti.size
  agg : isAggT P t = ti.agg
  one : ti.agg = false → ti.size = 1
  zlen : ti.zero.length = ti.size
  zone : ∀ u ∈ ti.zero, u.oneCell' = true
  kd : ti.kd = mkKd P t
  flat : ti.flat = flatOf P t

theorem TIs.of (h : mkTI P t = some ti) : TIs P t ti := by
  unfold mkTI at h
  cases hi : P.info? t with
  | none => simp [hi] at h
  | some i =>
    cases hd : P.underlying t with
    | none => simp [hi, hd] at h
    | some d =>
      simp only [hi, hd] at h
      split at h
      case isFalse => cases h
      case isTrue hc =>
        simp only [Bool.and_eq_true, beq_iff_eq, Bool.or_eq_true, List.all_eq_true] at hc
        obtain ⟨⟨⟨⟨hz, hl⟩, ho⟩, ha⟩, hg⟩ := hc
        cases h
        obtain ⟨z, hz⟩ := Option.isSome_iff_exists.1 hz
        have hzt : zeroT P t = z.cells.toList := by simp [zeroT, hi, hz]
        refine ⟨⟨i, hi, rfl, rfl, z, hz, hzt.symm, ?_, ?_⟩, ⟨d, hd⟩, by simp [Program.cellsOf, hi], rfl, ?_, hl, ho, rfl, rfl⟩
        · intro h2
          simp only at h2
          rw [h2, hz] at hg
          cases z <;> simp [zAgg] at hg
          simp [hzt, Value.cells]
        · rw [← Array.length_toList, ← hzt]; exact hl
        · intro h2
          simp only at h2 ⊢
          rcases ha with ha | ha
          · rw [h2] at ha; cases ha
          · exact ha

theorem run_isAggT (h : TIs P t ti) (w : World) : (isAgg t).run P w = .ok ti.agg w := by
  obtain ⟨d, hd⟩ := h.und
  have ha := h.agg
  unfold isAggT at ha
  rw [hd] at ha
  unfold isAgg
  rw [Sem.run_bind, run_underlying hd w]
  cases d <;> simp_all
theorem run_size (h : TIs P t ti) (w : World) : (sizeOf t).run P w = .ok ti.size w := by
  obtain ⟨i, hi, hs, _⟩ := h.info
  simp [sizeOf, typeInfo, hi, hs]
theorem run_zero (h : TIs P t ti) (w : World) : ∃ z, (zeroValue t).run P w = .ok z w ∧ z.cells.toList = ti.zero := by
  obtain ⟨i, hi, hs, _, z, hz, hc, _⟩ := h.info
  exact ⟨z, by simp [zeroValue, typeInfo, hi, hz], hc⟩

/-- The value of so many cells. -/
def mkVal (agg : Bool) (l : List Value) : Value := if agg then .agg l.toArray else l.headD undef

theorem mkVal_cells (agg : Bool) (l : List Value) (h1 : ∀ u ∈ l, u.oneCell' = true) (h : agg = false → l.length = 1) : (mkVal agg l).cells.toList = l := by
  cases agg with
  | true => simp [mkVal, Value.cells]
  | false =>
    match l, h rfl with
    | [u], _ =>
      have := h1 u (by simp)
      cases u <;> simp [mkVal, Value.cells] <;> simp [Value.oneCell'] at this

theorem run_loadVar (h : TIs P t ti) (w : World) (a : Addr) (l : List Value) (hl : l.length = ti.size) (hc : ∀ j u, l[j]? = some u → w.cell? (a.add j) = some u) :
    (loadVar t a).run P w = .ok (mkVal ti.agg l) w := by
  have hr := run_loadCells_list (P := P) w a l hc
  unfold loadVar
  rw [Sem.run_bind, run_isAggT h w]
  cases ha : ti.agg with
  | true => simp [run_size h w, ← hl, hr, mkVal]
  | false =>
    have h1 := h.one ha
    match l, hl.trans h1 with
    | [u], _ =>
      have := hc 0 u rfl
      rw [Addr.add_zero'] at this
      simp [run_load, this, mkVal]

theorem run_part (h : TIs P t ti) (w : World) (cs : Array Value) (off : Nat) (l : List Value) (hl : l.length = ti.size) (hc : (cs.toList.drop off).take ti.size = l) :
    (part t cs off).run P w = .ok (mkVal ti.agg l) w := by
  unfold part
  rw [Sem.run_bind, run_isAggT h w]
  cases ha : ti.agg with
  | true =>
    simp only [Result.andThen_ok, if_true, Sem.run_bind, run_size h w, Sem.run_pure, mkVal]
    congr 2
    apply Array.ext'
    rw [Array.toList_extract]
    simp [List.extract_eq_take_drop, ← hc]
  | false =>
    have h1 := h.one ha
    match l, hl.trans h1 with
    | [u], _ =>
      have hx : cs[off]? = some u := by
        have h2 : ((cs.toList.drop off).take ti.size)[0]? = some u := by rw [hc]; rfl
        rw [h1] at h2
        simpa using h2
      simp [hx, mkVal]

theorem run_storeVar (h : TIs P t ti) (w : World) (g o : Nat) (ty : TypeId) (cur : Array Value) (v : Value) (hg : w.heap[g]? = some (.cells cur ty (0, 0)))
    (hv : v.cells.size = ti.size) (h1 : ∀ u ∈ v.cells.toList, u.oneCell' = true) (hfit : o + ti.size ≤ cur.size) :
    (storeVar t ⟨g, o, none⟩ v).run P w = .ok () (w.setRow g (cur.toList.take o ++ v.cells.toList ++ cur.toList.drop (o + ti.size)).toArray) := by
  have hs := run_storeCells_at P g o ty v.cells.toList 0 cur w hg (by simp; omega) h1
  simp only [Nat.add_zero, Array.length_toList, hv] at hs
  unfold storeVar
  simp [Sem.run_bind, run_size h w, hv, hs]
end

/-! ### values compared by their leaves -/
def leafEq : Value → Value → Bool
  | .int _ a, .int _ b => a == b
  | .bool a, .bool b => a == b
  | .string a, .string b => a.toList == b.toList
  | _, _ => false
def leafOk : Nat → Value → Value → Bool
  | 0, .int k _, .int k' _ => decide (k = k')
  | 1, .bool _, .bool _ => true
  | 2, .string _, .string _ => true
  | _, _, _ => false
def leavesEq : List Value → List Value → Bool
  | a :: l, b :: r => leafEq a b && leavesEq l r
  | _, _ => true
def leavesOk : List Nat → List Value → List Value → Bool
  | n :: ns, a :: l, b :: r => leafOk n a b && leavesOk ns l r
  | [], [], [] => true
  | _, _, _ => false

theorem leafOk_int {x y : Value} (h : leafOk 0 x y = true) : ∃ k a b, x = .int k a ∧ y = .int k b := by
  unfold leafOk at h
  split at h
  · have := of_decide_eq_true h; subst this; exact ⟨_, _, _, rfl, rfl⟩
  all_goals first | (rename_i e; exact absurd e (by decide)) | cases h
theorem leafOk_bool {x y : Value} (h : leafOk 1 x y = true) : ∃ a b, x = .bool a ∧ y = .bool b := by
  unfold leafOk at h
  split at h
  all_goals first | (rename_i e; exact absurd e (by decide)) | exact ⟨_, _, rfl, rfl⟩ | cases h
theorem leafOk_str {x y : Value} (h : leafOk 2 x y = true) : ∃ a b, x = .string a ∧ y = .string b := by
  unfold leafOk at h
  split at h
  all_goals first | (rename_i e; exact absurd e (by decide)) | exact ⟨_, _, rfl, rfl⟩ | cases h
theorem leavesOk_append : ∀ (n m : List Nat) (l r : List Value), leavesOk (n ++ m) l r = true →
    leavesOk n (l.take n.length) (r.take n.length) = true ∧ leavesOk m (l.drop n.length) (r.drop n.length) = true
  | [], m, l, r, h => ⟨by simp [leavesOk], by simpa using h⟩
  | x :: n, m, a :: l, b :: r, h => by
    simp only [List.cons_append, leavesOk, Bool.and_eq_true] at h
    have := leavesOk_append n m l r h.2
    exact ⟨by simp [leavesOk, h.1, this.1], by simpa using this.2⟩
  | x :: n, m, [], r, h => by cases r <;> simp [leavesOk] at h
  | x :: n, m, a :: l, [], h => by simp [leavesOk] at h
theorem leavesOk_len : ∀ (n : List Nat) (l r : List Value), leavesOk n l r = true → l.length = n.length ∧ r.length = n.length
  | [], [], [], _ => ⟨rfl, rfl⟩
  | x :: n, a :: l, b :: r, h => by
    simp only [leavesOk, Bool.and_eq_true] at h
    have := leavesOk_len n l r h.2
    simp [this.1, this.2]
  | [], [], _ :: _, h => by simp [leavesOk] at h
  | [], _ :: _, _, h => by simp [leavesOk] at h
  | _ :: _, [], _, h => by simp [leavesOk] at h
  | _ :: _, _ :: _, [], h => by simp [leavesOk] at h
theorem leavesOk_one {n : Nat} {l r : List Value} (h : leavesOk [n] l r = true) : ∃ x y, l = [x] ∧ r = [y] ∧ leafOk n x y = true := by
  have := leavesOk_len _ _ _ h
  match l, r, this, h with
  | [x], [y], _, h => exact ⟨x, y, rfl, rfl, by simpa [leavesOk] using h⟩
theorem leavesEq_append : ∀ (l r l' r' : List Value), l.length = r.length → leavesEq (l ++ l') (r ++ r') = (leavesEq l r && leavesEq l' r')
  | [], [], _, _, _ => by simp [leavesEq]
  | a :: l, b :: r, l', r', h => by simp [leavesEq, leavesEq_append l r l' r' (by simpa using h), Bool.and_assoc]
  | [], _ :: _, _, _, h => by simp at h
  | _ :: _, [], _, _, h => by simp at h

theorem flat_info {P : Program} {d : Nat} {t : TypeId} {l : List Nat} (h : flatT P d t = some l) (hi : (P.info? t).isSome = true) :
    ∃ dd, P.underlying t = some dd := by
  cases d with
  | zero => simp [flatT] at h
  | succ d =>
    unfold flatT at h
    cases hu : P.underlying t with
    | none => simp [hu] at h
    | some x => exact ⟨x, rfl⟩

/-- What a part of a flat type comes to. -/
theorem run_part_flat {P : Program} {d : Nat} {t : TypeId} {l : List Nat} (h : flatT P d t = some l) (hl : l.length = P.cellsOf t) (hi : (P.info? t).isSome = true)
    (w : World) (cs : Array Value) (off : Nat) (vs : List Value) (hv : vs.length = P.cellsOf t) (hc : (cs.toList.drop off).take (P.cellsOf t) = vs) :
    (part t cs off).run P w = .ok (mkVal (isAggT P t) vs) w := by
  obtain ⟨dd, hu⟩ := flat_info h hi
  obtain ⟨i, hi⟩ := Option.isSome_iff_exists.1 hi
  have hagg : (isAgg t).run P w = .ok (isAggT P t) w := by
    unfold isAgg isAggT
    rw [Sem.run_bind, run_underlying hu w, hu]
    cases dd <;> simp
  unfold part
  rw [Sem.run_bind, hagg]
  cases ha : isAggT P t with
  | true =>
    simp only [Result.andThen_ok, if_true, Sem.run_bind, run_sizeOf w hi, Sem.run_pure, mkVal]
    congr 2
    apply Array.ext'
    rw [Array.toList_extract]
    simp [List.extract_eq_take_drop, ← hc]
  | false =>
    have h1 : P.cellsOf t = 1 := by
      rw [← hl]
      cases d with
      | zero => simp [flatT] at h
      | succ d =>
        unfold flatT at h
        unfold isAggT at ha
        rw [hu] at h ha
        cases dd <;> simp at h ha <;> subst h <;> rfl
    match vs, hv.trans h1 with
    | [u], _ =>
      have hx : cs[off]? = some u := by
        have h2 : ((cs.toList.drop off).take (P.cellsOf t))[0]? = some u := by rw [hc]; rfl
        rw [h1] at h2
        simpa using h2
      simp [hx, mkVal]

theorem leavesEq_nil : leavesEq [] [] = true := rfl

mutual
theorem flat_equal {P : Program} : ∀ (d : Nat) (t : TypeId) (l : List Nat), flatT P d t = some l → ∀ (e : Nat) (xs ys : List Value) (w : World), d ≤ e → leavesOk l xs ys = true →
    (Op.equalIn e t (mkVal (isAggT P t) xs) (mkVal (isAggT P t) ys)).run P w = .ok (leavesEq xs ys) w
  | 0, _, _, h, _, _, _, _, _, _ => by simp [flatT] at h
  | d + 1, t, l, h, e, xs, ys, w, he, hk => by
    obtain ⟨e, rfl⟩ : ∃ m, e = m + 1 := ⟨e - 1, by omega⟩
    unfold flatT at h
    cases hu : P.underlying t with
    | none => simp [hu] at h
    | some dd =>
      rw [hu] at h
      cases dd <;> simp only [reduceCtorEq] at h
      case int k =>
        cases h
        obtain ⟨x, y, rfl, rfl, hq⟩ := leavesOk_one hk
        obtain ⟨k, a, b, rfl, rfl⟩ := leafOk_int hq
        simp [isAggT, hu, mkVal, run_equalIn_int w e t _ _ _ _ hu, leavesEq, leafEq]
      case bool =>
        cases h
        obtain ⟨x, y, rfl, rfl, hq⟩ := leavesOk_one hk
        obtain ⟨a, b, rfl, rfl⟩ := leafOk_bool hq
        simp [isAggT, hu, mkVal, run_equalIn_bool' w e t _ _ hu, leavesEq, leafEq]
      case string =>
        cases h
        obtain ⟨x, y, rfl, rfl, hq⟩ := leavesOk_one hk
        obtain ⟨a, b, rfl, rfl⟩ := leafOk_str hq
        simp [isAggT, hu, mkVal, run_equalIn_string w e t _ _ hu, leavesEq, leafEq]
      case array n el =>
        cases hf : flatT P d el with
        | none => simp [hf] at h
        | some m =>
          simp only [hf] at h
          split at h
          case isFalse => cases h
          case isTrue hm =>
            cases h
            obtain ⟨hlen, hinfo⟩ := hm
            obtain ⟨i, hi⟩ := Option.isSome_iff_exists.1 hinfo
            have hag : isAggT P t = true := by simp [isAggT, hu]
            rw [hag]
            simp only [mkVal, if_true]
            rw [run_equalIn_array w e xs.toArray ys.toArray hu hi]
            have key : ∀ (n off : Nat) (xs ys : List Value), leavesOk (List.replicate n m).flatten (xs.drop (off * P.cellsOf el)) (ys.drop (off * P.cellsOf el)) = true →
                (Op.eqItems e el (P.cellsOf el) xs.toArray ys.toArray (List.range' off n)).run P w = .ok (leavesEq (xs.drop (off * P.cellsOf el)) (ys.drop (off * P.cellsOf el))) w := by
              intro n
              induction n with
              | zero =>
                intro off xs ys hk
                simp only [List.replicate_zero, List.flatten_nil] at hk
                have := leavesOk_len _ _ _ hk
                simp only [List.length_nil] at this
                simp [Op.eqItems, List.eq_nil_of_length_eq_zero this.1, List.eq_nil_of_length_eq_zero this.2, leavesEq]
              | succ n ih =>
                intro off xs ys hk
                rw [List.replicate_succ, List.flatten_cons] at hk
                obtain ⟨ha, hb⟩ := leavesOk_append _ _ _ _ hk
                have hla := leavesOk_len _ _ _ ha
                rw [hlen] at ha hb
                rw [List.drop_drop, List.drop_drop, show off * P.cellsOf el + P.cellsOf el = (off + 1) * P.cellsOf el by rw [Nat.succ_mul]] at hb
                have px := run_part_flat hf hlen hinfo w xs.toArray (off * P.cellsOf el) _ (by rw [← hlen]; exact hla.1) (by simp [hlen])
                have py := run_part_flat hf hlen hinfo w ys.toArray (off * P.cellsOf el) _ (by rw [← hlen]; exact hla.2) (by simp [hlen])
                have eq := flat_equal d el m hf e ((xs.drop (off * P.cellsOf el)).take m.length) ((ys.drop (off * P.cellsOf el)).take m.length) w (by omega) (by rw [hlen]; exact ha)
                have ih' := ih (off + 1) xs ys hb
                simp only [List.range'_succ, Op.eqItems, Sem.run_bind, px, py, Result.andThen_ok, eq, Sem.run_ite, Sem.run_pure, ih']
                have hsplit : leavesEq (xs.drop (off * P.cellsOf el)) (ys.drop (off * P.cellsOf el)) =
                    (leavesEq ((xs.drop (off * P.cellsOf el)).take m.length) ((ys.drop (off * P.cellsOf el)).take m.length) && leavesEq (xs.drop ((off + 1) * P.cellsOf el)) (ys.drop ((off + 1) * P.cellsOf el))) := by
                  conv => lhs; rw [← List.take_append_drop m.length (xs.drop (off * P.cellsOf el)), ← List.take_append_drop m.length (ys.drop (off * P.cellsOf el))]
                  rw [leavesEq_append _ _ _ _ (hla.1.trans hla.2.symm), List.drop_drop, List.drop_drop, hlen, show off * P.cellsOf el + P.cellsOf el = (off + 1) * P.cellsOf el by rw [Nat.succ_mul]]
                rw [hsplit]
                cases leavesEq ((xs.drop (off * P.cellsOf el)).take m.length) ((ys.drop (off * P.cellsOf el)).take m.length) <;> simp
            have := key n 0 xs ys (by simpa using hk)
            simpa [List.range_eq_range'] using this
      case struct fs =>
        split at h
        case isTrue => cases h
        case isFalse hst =>
          have hag : isAggT P t = true := by simp [isAggT, hu]
          have hfo : P.fieldsOf t = fs := by simp [Program.fieldsOf, hu]
          rw [hag]
          simp only [mkVal, if_true]
          rw [run_equalIn_struct w e t xs.toArray ys.toArray (by rw [hfo]; exact hu) (by simpa using hst), hfo]
          have := flat_fields d 0 fs.toList l h e xs ys w (by omega) (by simpa using hk)
          simpa using this
theorem flat_fields {P : Program} : ∀ (d off : Nat) (fs : List Field) (l : List Nat), flatFs P d off fs = some l → ∀ (e : Nat) (xs ys : List Value) (w : World), d ≤ e →
    leavesOk l (xs.drop off) (ys.drop off) = true → (Op.eqFields e xs.toArray ys.toArray fs).run P w = .ok (leavesEq (xs.drop off) (ys.drop off)) w
  | 0, _, _, _, h, _, _, _, _, _, _ => by simp [flatFs] at h
  | d + 1, off, [], l, h, e, xs, ys, w, he, hk => by
    simp only [flatFs] at h
    cases h
    have := leavesOk_len _ _ _ hk
    simp only [List.length_nil] at this
    simp [Op.eqFields, List.eq_nil_of_length_eq_zero this.1, List.eq_nil_of_length_eq_zero this.2, leavesEq]
  | d + 1, off, f :: fs, l, h, e, xs, ys, w, he, hk => by
    simp only [flatFs] at h
    split at h
    case isFalse => cases h
    case isTrue hc =>
      obtain ⟨hn, ho, hinfo⟩ := hc
      cases hf : flatT P d f.type with
      | none => simp [hf] at h
      | some m =>
        cases hr : flatFs P d (off + P.cellsOf f.type) fs with
        | none => simp [hf, hr] at h
        | some r =>
          simp only [hf, hr] at h
          split at h
          case isFalse => cases h
          case isTrue hlen =>
            cases h
            obtain ⟨ha, hb⟩ := leavesOk_append _ _ _ _ hk
            have hla := leavesOk_len _ _ _ ha
            rw [hlen] at ha hb
            rw [List.drop_drop, List.drop_drop] at hb
            have px := run_part_flat hf hlen hinfo w xs.toArray off _ (by rw [← hlen]; exact hla.1) (by simp [hlen])
            have py := run_part_flat hf hlen hinfo w ys.toArray off _ (by rw [← hlen]; exact hla.2) (by simp [hlen])
            have eq := flat_equal d f.type m hf e ((xs.drop off).take m.length) ((ys.drop off).take m.length) w (by omega) (by rw [hlen]; exact ha)
            have ih := flat_fields d (off + P.cellsOf f.type) fs r hr e xs ys w (by omega) hb
            simp only [Op.eqFields, ne_eq, hn, not_false_eq_true, if_true, ho, Sem.run_bind, px, py, Result.andThen_ok, eq, Sem.run_ite, Sem.run_pure, ih]
            have hsplit : leavesEq (xs.drop off) (ys.drop off) = (leavesEq ((xs.drop off).take m.length) ((ys.drop off).take m.length) && leavesEq (xs.drop (off + P.cellsOf f.type)) (ys.drop (off + P.cellsOf f.type))) := by
              conv => lhs; rw [← List.take_append_drop m.length (xs.drop off), ← List.take_append_drop m.length (ys.drop off)]
              rw [leavesEq_append _ _ _ _ (hla.1.trans hla.2.symm), List.drop_drop, List.drop_drop, hlen]
            rw [hsplit]
            cases leavesEq ((xs.drop off).take m.length) ((ys.drop off).take m.length) <;> simp
end
end Go.Eng

/- The engine, part C: operations that leave the world alone; nothing of any program is proved here. -/
namespace Go.Eng
open Go Go.RowKit
set_option linter.unusedSimpArgs false
set_option linter.unusedVariables false

/-- In every world of S the computation yields one value, of which k knows enough. -/
def Gives (P : Program) (S : World → Prop) (s : Sem Value) (E : Env) (k : XV → Prop) : Prop :=
  ∃ x u, k x ∧ RelV E x u ∧ ∀ w, S w → s.run P w = .ok u w

theorem Gives.mk {P : Program} {S : World → Prop} {s : Sem Value} {E : Env} {k : XV → Prop} {x : XV} {u : Value} (hk : k x) (hr : RelV E x u) (h : ∀ w, S w → s.run P w = .ok u w) : Gives P S s E k := ⟨x, u, hk, hr, h⟩

def kNum : IntKind → Nat
  | .i8 => 0 | .i16 => 1 | .i32 => 2 | .i64 => 3 | .u8 => 4 | .u16 => 5 | .u32 => 6 | .u64 => 7
theorem kNum_inj {a b : IntKind} (h : kNum a = kNum b) : a = b := by cases a <;> cases b <;> simp [kNum] at h <;> rfl
/-- If the kinds are one. -/
def kIf (a b : IntKind) (p : Prop) : Prop := match Nat.beq (kNum a) (kNum b) with | true => p | false => False
theorem kIf_iff {a b : IntKind} {p : Prop} : kIf a b p → a = b ∧ p := by
  unfold kIf; split
  · rename_i h; intro hp; exact ⟨kNum_inj (Nat.eq_of_beq_eq_true h), hp⟩
  · exact False.elim
/-- If the closed test holds. -/
def when (b : Bool) (p : Prop) : Prop := match b with | true => p | false => False
theorem when_iff {b : Bool} {p : Prop} : when b p → b = true ∧ p := by cases b <;> simp [when]

def asI : XC → Option (Bool × IntKind × Int)
  | .il k n => some (true, k, n)
  | .i k n => some (false, k, n)
  | _ => none
def asB : XC → Option (Bool × Bool)
  | .bt => some (true, true)
  | .bf => some (true, false)
  | .b x => some (false, x)
  | _ => none
def asS : XC → Option ByteArray
  | .v (.string s) => some s
  | _ => none
theorem asI_rel {E : Env} {x : XC} {u : Value} {l : Bool} {k : IntKind} {n : Int} (h : asI x = some (l, k, n)) (hr : RelC E x u) : u = .int k n := by
  cases x <;> simp [asI] at h <;> (obtain ⟨_, rfl, rfl⟩ := h; exact hr)
theorem asB_rel {E : Env} {x : XC} {u : Value} {l b : Bool} (h : asB x = some (l, b)) (hr : RelC E x u) : u = .bool b := by
  cases x <;> simp [asB] at h <;> (obtain ⟨_, rfl⟩ := h; exact hr)
theorem asS_rel {E : Env} {x : XC} {u : Value} {s : ByteArray} (h : asS x = some s) (hr : RelC E x u) : u = .string s := by
  cases x <;> simp [asS] at h
  rename_i v
  cases v <;> simp [asS] at h
  subst h; exact hr.1

def ofI (l : Bool) (k : IntKind) (n : Int) : XC := match l with | true => .il k n | false => .i k n
def ofB (l : Bool) (x : Bool) : XC := match l with | true => (match x with | true => .bt | false => .bf) | false => .b x
theorem ofI_rel (E : Env) (l : Bool) (k : IntKind) (n : Int) : RelC E (ofI l k n) (.int k n) := by cases l <;> rfl
theorem ofB_rel (E : Env) (l x : Bool) : RelC E (ofB l x) (.bool x) := by cases l <;> cases x <;> rfl

def intBin (op : BinOp) (k : IntKind) (a b : Int) (l : Bool) (kk : XC → Prop) : Prop :=
  match op with
  | .add => kk (ofI l k (k.wrap (a + b)))
  | .sub => kk (ofI l k (k.wrap (a - b)))
  | .mul => kk (ofI l k (k.wrap (a * b)))
  | .and => kk (ofI l k (bits .and k a b))
  | .or => kk (ofI l k (bits .or k a b))
  | .xor => kk (ofI l k (bits .xor k a b))
  | .eql => kk (ofB l (a == b))
  | .neq => kk (ofB l (a != b))
  | .lss => kk (ofB l (decide (a < b)))
  | .leq => kk (ofB l (decide (a ≤ b)))
  | .gtr => kk (ofB l (decide (a > b)))
  | .geq => kk (ofB l (decide (a ≥ b)))
  | _ => False

/-- A divisor that isn't 0: seen at once, or left to be shown. -/
def notZero (l : Bool) (b : Int) (p : Prop) : Prop :=
  match l with
  | true => (match b with | .ofNat 0 => False | .ofNat (_ + 1) => p | .negSucc _ => p)
  | false => b ≠ 0 ∧ p
theorem notZero_iff {l : Bool} {b : Int} {p : Prop} (h : notZero l b p) : b ≠ 0 ∧ p := by
  cases l with
  | false => exact h
  | true =>
    match b, h with
    | .ofNat (n + 1), h => exact ⟨fun e => Int.noConfusion e (fun e => Nat.noConfusion e), h⟩
    | .negSucc n, h => exact ⟨fun e => Int.noConfusion e, h⟩

/-- A shift by a number that isn't below 0. -/
def notNeg (l : Bool) (b : Int) (p : Prop) : Prop :=
  match l with
  | true => (match b with | .ofNat _ => p | .negSucc _ => False)
  | false => 0 ≤ b ∧ p
theorem notNeg_iff {l : Bool} {b : Int} {p : Prop} (h : notNeg l b p) : 0 ≤ b ∧ p := by
  cases l with
  | false => exact h
  | true =>
    match b, h with
    | .ofNat n, h => exact ⟨Int.natCast_nonneg n, h⟩

/-- Places that may be asked: seen at once, or left to be shown. -/
def inside (l : Bool) (i : Int) (n : Nat) (p : Prop) : Prop :=
  match l with
  | true => (match i with | .ofNat j => when (Nat.blt j n) p | .negSucc _ => False)
  | false => (0 ≤ i ∧ i < (n : Int)) ∧ p
theorem inside_iff {l : Bool} {i : Int} {n : Nat} {p : Prop} (h : inside l i n p) : (0 ≤ i ∧ i < (n : Int)) ∧ p := by
  cases l with
  | false => exact h
  | true =>
    match i, h with
    | .ofNat j, h =>
      obtain ⟨h1, h2⟩ := when_iff h
      have : j + 1 ≤ n := by simpa [Nat.blt, Nat.ble_eq] using h1
      exact ⟨⟨Int.natCast_nonneg j, Int.ofNat_lt.2 this⟩, h2⟩

def binC (op : BinOp) (x y : XC) (k : XC → Prop) : Prop :=
  match asI x, asI y with
  | some (l1, k1, a), some (l2, k2, b) =>
    (match op with
    | .shl => notNeg l2 b (k (ofI (l1 && l2) k1 (k1.wrap (a * 2 ^ (min b.toNat k1.bits)))))
    | .shr => notNeg l2 b (k (ofI (l1 && l2) k1 (a.fdiv (2 ^ (min b.toNat k1.bits)))))
    | .quo => kIf k1 k2 (notZero l2 b (k (ofI (l1 && l2) k1 (k1.wrap (a.tdiv b)))))
    | .rem => kIf k1 k2 (notZero l2 b (k (ofI (l1 && l2) k1 (a.tmod b))))
    | op => kIf k1 k2 (intBin op k1 a b (l1 && l2) k))
  | _, _ =>
    match asS x, asS y with
    | some a, some b =>
      (match op with
      | .eql => k (.b (a == b))
      | .neq => k (.b (!(a == b)))
      | .add => (a.size + b.size ≤ maxLen) ∧ k (.v (.string (a ++ b)))
      | .lss => k (.b (Op.bytesLess a.toList b.toList))
      | _ => False)
    | _, _ => False

theorem eqGuard_int (op : BinOp) (t : TypeId) (x y : Operand) (k : IntKind) (n : Int) (v : Value) : eqGuard op t x y (.int k n) v = pure () := by cases op <;> rfl
theorem eqGuard_str (op : BinOp) (t : TypeId) (x y : Operand) (s : ByteArray) (v : Value) : eqGuard op t x y (.string s) v = pure () := by cases op <;> rfl

theorem intBin_sound {P : Program} {S : World → Prop} {E : Env} {op : BinOp} {k : IntKind} {a b : Int} {l : Bool} {kk : XC → Prop} (t : TypeId)
    (h : intBin op k a b l kk) : Gives P S (binOp op t (.int k a) (.int k b)) E (fun x => ∃ c, x = .c c ∧ kk c) := by
  unfold intBin at h
  cases op <;> simp only [] at h <;> first
    | exact h.elim
    | exact Gives.mk ⟨_, rfl, h⟩ (ofI_rel E _ _ _) (fun w _ => by simp [binOp, Op.intArith, Op.intBits, bits])
    | exact Gives.mk ⟨_, rfl, h⟩ (ofB_rel E _ _) (fun w _ => by simp [binOp, Op.intCmp])

theorem binC_sound {P : Program} {S : World → Prop} {E : Env} {op : BinOp} {x y : XC} {u v : Value} {k : XC → Prop} (t : TypeId) (X Y : Operand)
    (h : binC op x y k) (hx : RelC E x u) (hy : RelC E y v) : Gives P S (do eqGuard op t X Y u v; binOp op t u v) E (fun x => ∃ c, x = .c c ∧ k c) := by
  unfold binC at h
  split at h
  · rename_i l1 k1 a l2 k2 b e1 e2
    have hu := asI_rel e1 hx
    have hv := asI_rel e2 hy
    subst hu; subst hv
    split at h
    · obtain ⟨h0, hk⟩ := notNeg_iff h
      exact Gives.mk ⟨_, rfl, hk⟩ (ofI_rel E _ _ _) (fun w _ => by simp [eqGuard_int, binOp, Op.shift, Int.not_lt.2 h0])
    · obtain ⟨h0, hk⟩ := notNeg_iff h
      exact Gives.mk ⟨_, rfl, hk⟩ (ofI_rel E _ _ _) (fun w _ => by simp [eqGuard_int, binOp, Op.shift, Int.not_lt.2 h0])
    · obtain ⟨rfl, h'⟩ := kIf_iff h
      obtain ⟨h0, hk⟩ := notZero_iff h'
      exact Gives.mk ⟨_, rfl, hk⟩ (ofI_rel E _ _ _) (fun w _ => by simp [eqGuard_int, binOp, Op.intDiv, h0])
    · obtain ⟨rfl, h'⟩ := kIf_iff h
      obtain ⟨h0, hk⟩ := notZero_iff h'
      exact Gives.mk ⟨_, rfl, hk⟩ (ofI_rel E _ _ _) (fun w _ => by simp [eqGuard_int, binOp, Op.intDiv, h0])
    · obtain ⟨rfl, h'⟩ := kIf_iff h
      obtain ⟨z, w, hk, hr, hrun⟩ := intBin_sound (P := P) (S := S) (E := E) t h'
      exact ⟨z, w, hk, hr, fun W hW => by simp only [eqGuard_int, Sem.run_bind, Sem.run_pure, Result.andThen_ok]; exact hrun W hW⟩
  · split at h
    · rename_i a b e1 e2
      have hu := asS_rel e1 hx
      have hv := asS_rel e2 hy
      subst hu; subst hv
      split at h
      · exact Gives.mk ⟨_, rfl, h⟩ (show RelC E _ _ from rfl) (fun w _ => by simp [eqGuard_str, binOp, Op.stringOp, beq_toListBytes])
      · exact Gives.mk ⟨_, rfl, h⟩ (show RelC E _ _ from rfl) (fun w _ => by simp [eqGuard_str, binOp, Op.stringOp, beq_toListBytes])
      · have h1 := h.1
        have : ¬ ((a.size + b.size : Nat) : Int) > IntKind.i64.max := by simp only [maxLen] at h1; simp [IntKind.max_i64]; omega
        exact Gives.mk ⟨_, rfl, h.2⟩ (show RelC E _ _ from ⟨rfl, rfl⟩) (fun w _ => by simp only [eqGuard_str, binOp, Op.stringOp, Sem.run_bind, Sem.run_pure, Result.andThen_ok]; rw [if_neg this]; rfl)
      · exact Gives.mk ⟨_, rfl, h⟩ (show RelC E _ _ from rfl) (fun w _ => by simp [eqGuard_str, binOp, Op.stringOp])
      · exact h.elim
    · exact h.elim

/-! ### bools, nil, and lists of leaves -/
def eqC (n : Nat) (x y : XC) (k : Bool → Bool → Prop) : Prop :=
  match n with
  | 0 => (match asI x, asI y with | some (l1, k1, a), some (l2, k2, b) => kIf k1 k2 (k (l1 && l2) (a == b)) | _, _ => False)
  | 1 => (match asB x, asB y with | some (l1, a), some (l2, b) => k (l1 && l2) (a == b) | _, _ => False)
  | 2 => (match asS x, asS y with | some a, some b => k false (a == b) | _, _ => False)
  | _ => False
def andB (l : Bool) (x : Bool) (y : Bool) : Bool := match l with | true => (match x with | true => y | false => false) | false => x && y
theorem andB_eq (l x y : Bool) : andB l x y = (x && y) := by cases l <;> cases x <;> rfl
def eqL : List Nat → List XC → List XC → (Bool → Prop) → Prop
  | [], [], [], k => k true
  | [n], [x], [y], k => eqC n x y fun _ b => k b
  | n :: ns, x :: xs, y :: ys, k => eqC n x y fun l b => (match l, b with
      | true, true => eqL ns xs ys k
      | _, _ => eqL ns xs ys fun r => k (b && r))
  | _, _, _, _ => False

theorem eqC_sound {E : Env} {n : Nat} {x y : XC} {u v : Value} {k : Bool → Bool → Prop} (h : eqC n x y k) (hx : RelC E x u) (hy : RelC E y v) :
    leafOk n u v = true ∧ ∃ l, k l (leafEq u v) := by
  unfold eqC at h
  split at h
  · split at h
    · rename_i l1 k1 a l2 k2 b e1 e2
      obtain ⟨rfl, h'⟩ := kIf_iff h
      have hu := asI_rel e1 hx; have hv := asI_rel e2 hy; subst hu; subst hv
      exact ⟨by simp [leafOk], _, by simpa [leafEq] using h'⟩
    · exact h.elim
  · split at h
    · rename_i l1 a l2 b e1 e2
      have hu := asB_rel e1 hx; have hv := asB_rel e2 hy; subst hu; subst hv
      exact ⟨by simp [leafOk], _, by simpa [leafEq] using h⟩
    · exact h.elim
  · split at h
    · rename_i a b e1 e2
      have hu := asS_rel e1 hx; have hv := asS_rel e2 hy; subst hu; subst hv
      exact ⟨by simp [leafOk], _, by simpa [leafEq, beq_toListBytes] using h⟩
    · exact h.elim
  · exact h.elim

theorem eqL_sound {E : Env} : ∀ {ns : List Nat} {xs ys : List XC} {us vs : List Value} {k : Bool → Prop}, eqL ns xs ys k → RelL E xs us → RelL E ys vs →
    leavesOk ns us vs = true ∧ k (leavesEq us vs)
  | [], [], [], [], [], k, h, _, _ => ⟨rfl, h⟩
  | [n], [x], [y], [u], [v], k, h, hx, hy => by
    simp only [eqL] at h
    obtain ⟨h1, l, h2⟩ := eqC_sound h hx.1 hy.1
    exact ⟨by simp [leavesOk, h1], by simpa [leavesEq] using h2⟩
  | n :: m :: ns, x :: xs, y :: ys, u :: us, v :: vs, k, h, hx, hy => by
    simp only [eqL] at h
    obtain ⟨h1, l, h2⟩ := eqC_sound h hx.1 hy.1
    split at h2
    · rename_i hb
      obtain ⟨h3, h4⟩ := eqL_sound h2 hx.2 hy.2
      exact ⟨by simp [leavesOk, h1, h3], by simpa [leavesEq, hb] using h4⟩
    · obtain ⟨h3, h4⟩ := eqL_sound h2 hx.2 hy.2
      exact ⟨by simp [leavesOk, h1, h3], h4⟩
  | [n], x :: x' :: xs, y :: ys, u :: us, v :: vs, k, h, hx, hy => by
    simp only [eqL] at h
    obtain ⟨h1, l, h2⟩ := eqC_sound h hx.1 hy.1
    split at h2 <;> cases ys <;> exact h2.elim
  | [n], [x], y :: y' :: ys, u :: us, v :: vs, k, h, hx, hy => by
    simp only [eqL] at h
    obtain ⟨h1, l, h2⟩ := eqC_sound h hx.1 hy.1
    split at h2 <;> exact h2.elim
  | [], [], _ :: _, _, _, _, h, _, _ => by simp [eqL] at h
  | [], _ :: _, _, _, _, _, h, _, _ => by simp [eqL] at h
  | n :: ns, [], _, _, _, _, h, _, _ => by cases ns <;> simp [eqL] at h
  | n :: ns, _ :: _, [], _, _, _, h, _, _ => by cases ns <;> simp [eqL] at h
  | _, [], _, _ :: _, _, _, _, hx, _ => hx.elim
  | _, _ :: _, _, [], _, _, _, hx, _ => hx.elim
  | _, _, [], _, _ :: _, _, _, _, hy => hy.elim
  | _, _, _ :: _, _, [], _, _, _, hy => hy.elim

/-- Nothing but nil is held against these. -/
def notNilPtr : XC → Option Bool
  | .p _ _ => some true
  | .ep _ _ => some true
  | .q _ _ _ _ => some true
  | .v (.pointer none) => some false
  | _ => none

def eqNil (x y : XC) : Option Bool :=
  match notNilPtr x, notNilPtr y with
  | some true, some false => some false
  | some false, some true => some false
  | some false, some false => some true
  | _, _ => none

def cells : XV → Option (List XC)
  | .c x => some [x]
  | .a l => some l
  | _ => none
theorem cells_rel {E : Env} {x : XV} {u : Value} {l : List XC} (h : cells x = some l) (hr : RelV E x u) : RelL E l u.cells.toList := by
  cases x with
  | un => simp [cells] at h
  | t l => simp [cells] at h
  | c x =>
    simp [cells] at h; subst h
    have h1 := RelC.one (E := E) hr
    cases u <;> simp [Value.cells] <;> first | exact ⟨hr, trivial⟩ | simp [Value.oneCell'] at h1
  | a l' =>
    simp [cells] at h; subst h
    obtain ⟨vs, rfl, h⟩ := hr
    exact h

def binX (T : Tab) (op : BinOp) (ty : TypeId) (x y : XV) (k : XV → Prop) : Prop :=
  match x, y with
  | .c x, .c y =>
    (match T ty with
    | some { kd := .bool, .. } =>
      (match asB x, asB y, op with
      | some (l1, a), some (l2, b), .eql => k (.c (ofB (l1 && l2) (a == b)))
      | some (l1, a), some (l2, b), .neq => k (.c (ofB (l1 && l2) (!(a == b))))
      | _, _, _ => False)
    | some { kd := .ptr, .. } =>
      (match eqNil x y, op with
      | some b, .eql => k (.c (ofB true b))
      | some b, .neq => k (.c (ofB true (!b)))
      | _, _ => False)
    | _ => binC op x y fun c => k (.c c))
  | .a xs, .a ys =>
    (match T ty with
    | some { flat := some ns, agg := true, .. } =>
      (match op with
      | .eql => eqL ns xs ys fun b => k (.c (.b b))
      | .neq => eqL ns xs ys fun b => k (.c (.b (!b)))
      | _ => False)
    | _ => False)
  | _, _ => False

theorem flatOf_spec {P : Program} {t : TypeId} {ns : List Nat} (h : flatOf P t = some ns) : flatT P 40 t = some ns ∧ P.eqGuardType P.depth t = false ∧ ns.length = P.cellsOf t := by
  unfold flatOf at h
  split at h
  · rename_i l hl
    split at h
    · rename_i hc; cases h; exact ⟨hl, hc.1, hc.2⟩
    · cases h
  · cases h

theorem eqNil_sound {E : Env} {x y : XC} {u v : Value} {b : Bool} (h : eqNil x y = some b) (hx : RelC E x u) (hy : RelC E y v) :
    ∃ p q, u = .pointer p ∧ v = .pointer q ∧ (p = none ∨ q = none) ∧ b = (p.isNone && q.isNone) := by
  have key : ∀ {z : XC} {w : Value} {c : Bool}, notNilPtr z = some c → RelC E z w → ∃ p, w = .pointer p ∧ (c = true ↔ p.isSome = true) := by
    intro z w c hz hr
    unfold notNilPtr at hz
    split at hz <;> cases hz
    · exact ⟨_, hr.2, by simp⟩
    · obtain ⟨ad, rfl, _⟩ := hr; exact ⟨_, rfl, by simp⟩
    · obtain ⟨_, g, n, c, _, rfl⟩ := hr; exact ⟨_, rfl, by simp⟩
    · exact ⟨none, hr.1, by simp⟩
  unfold eqNil at h
  split at h
  all_goals first | cases h | skip
  all_goals
    rename_i e1 e2
    obtain ⟨p, rfl, hp⟩ := key e1 hx
    obtain ⟨q, rfl, hq⟩ := key e2 hy
    refine ⟨p, q, rfl, rfl, ?_, ?_⟩ <;> cases p <;> cases q <;> simp at hp hq ⊢

theorem run_eq_ptr_nil {P : Program} {ty e : TypeId} (hu : P.underlying ty = some (.pointer e)) {p q : Option Addr} (h : p = none ∨ q = none) (d : Nat) (w : World) :
    (Op.equalIn (d + 1) ty (.pointer p) (.pointer q)).run P w = .ok (p.isNone && q.isNone) w := by
  rcases h with rfl | rfl
  · simp [Op.equalIn, run_underlying hu]
  · cases p <;> simp [Op.equalIn, run_underlying hu]

theorem eqGuard_ptr (op : BinOp) (t : TypeId) (x y : Operand) (p : Option Addr) (v : Value) : eqGuard op t x y (.pointer p) v = pure () := by cases op <;> rfl
theorem eqGuard_bool (op : BinOp) (t : TypeId) (x y : Operand) (b : Bool) (v : Value) : eqGuard op t x y (.bool b) v = pure () := by cases op <;> rfl

theorem mkKd_int {P : Program} {t : TypeId} {k : IntKind} (h : mkKd P t = .int k) : P.underlying t = some (.int k) := by
  unfold mkKd at h; split at h <;> first | cases h | skip
  rename_i hu; exact hu
theorem mkKd_bool {P : Program} {t : TypeId} (h : mkKd P t = .bool) : P.underlying t = some .bool := by
  unfold mkKd at h; split at h <;> first | cases h | skip
  rename_i hu; exact hu
theorem mkKd_str {P : Program} {t : TypeId} (h : mkKd P t = .str) : P.underlying t = some .string := by
  unfold mkKd at h; split at h <;> first | cases h | skip
  rename_i hu; exact hu
theorem mkKd_ptr {P : Program} {t : TypeId} (h : mkKd P t = .ptr) : ∃ e, P.underlying t = some (.pointer e) := by
  unfold mkKd at h; split at h <;> first | cases h | skip
  rename_i hu; exact ⟨_, hu⟩
theorem mkKd_st {P : Program} {t : TypeId} {l : List (Nat × TypeId)} (h : mkKd P t = .st l) :
    ∃ fs, P.underlying t = some (.struct fs) ∧ l = fs.toList.map fun f => (f.offset, f.type) := by
  unfold mkKd at h; split at h <;> first | cases h | skip
  rename_i hu; exact ⟨_, hu, rfl⟩
theorem mkKd_arr {P : Program} {t e : TypeId} {n : Nat} (h : mkKd P t = .arr n e) : P.underlying t = some (.array n e) := by
  unfold mkKd at h; split at h <;> first | cases h | skip
  rename_i hu; exact hu
theorem mkKd_sl {P : Program} {t e : TypeId} (h : mkKd P t = .sl e) : P.underlying t = some (.slice e) := by
  unfold mkKd at h; split at h <;> first | cases h | skip
  rename_i hu; exact hu

theorem binX_sound {P : Program} {T : Tab} (hT : TabOk P T) {S : World → Prop} {E : Env} {op : BinOp} {ty : TypeId} {x y : XV} {u v : Value} {k : XV → Prop} (X Y : Operand)
    (h : binX T op ty x y k) (hx : RelV E x u) (hy : RelV E y v) : Gives P S (do eqGuard op ty X Y u v; binOp op ty u v) E k := by
  unfold binX at h
  split at h
  · rename_i x y
    split at h
    · rename_i ti _ _ _ _ _ ht
      have hs := TIs.of (hT _ _ ht)
      have hu : P.underlying ty = some .bool := mkKd_bool hs.kd.symm
      split at h
      · rename_i e1 e2
        have e1 := asB_rel e1 hx; have e2 := asB_rel e2 hy; subst e1; subst e2
        exact Gives.mk h (ofB_rel E _ _) (fun w _ => by simp only [eqGuard_bool, Sem.run_bind, Sem.run_pure, Result.andThen_ok]; exact run_eql_bool w ty _ _ hu)
      · rename_i e1 e2
        have e1 := asB_rel e1 hx; have e2 := asB_rel e2 hy; subst e1; subst e2
        exact Gives.mk h (ofB_rel E _ _) (fun w _ => by
          simp only [eqGuard_bool, Sem.run_bind, Sem.run_pure, Result.andThen_ok, binOp, Op.equal, Op.maxDepth]
          rw [run_equalIn_bool w 9999 ty _ _ hu]; simp)
      · exact h.elim
    · rename_i ti _ _ _ _ _ ht
      have hs := TIs.of (hT _ _ ht)
      obtain ⟨e, hu⟩ := mkKd_ptr hs.kd.symm
      split at h
      · rename_i e1
        obtain ⟨p, q, rfl, rfl, hpq, rfl⟩ := eqNil_sound e1 hx hy
        exact Gives.mk h (ofB_rel E _ _) (fun w _ => by
          simp only [eqGuard_ptr, Sem.run_bind, Sem.run_pure, Result.andThen_ok, binOp, Op.equal, Op.maxDepth]
          rw [run_eq_ptr_nil hu hpq 9999]; simp)
      · rename_i e1
        obtain ⟨p, q, rfl, rfl, hpq, rfl⟩ := eqNil_sound e1 hx hy
        exact Gives.mk h (ofB_rel E _ _) (fun w _ => by
          simp only [eqGuard_ptr, Sem.run_bind, Sem.run_pure, Result.andThen_ok, binOp, Op.equal, Op.maxDepth]
          rw [run_eq_ptr_nil hu hpq 9999]; simp)
      · exact h.elim
    · obtain ⟨z, w, ⟨c, rfl, hk⟩, hr, hrun⟩ := binC_sound (P := P) (S := S) (E := E) ty X Y h hx hy
      exact ⟨_, w, hk, hr, hrun⟩
  · rename_i xs ys
    obtain ⟨us, rfl, hxs⟩ := hx
    obtain ⟨vs, rfl, hys⟩ := hy
    split at h
    · rename_i _ _ _ _ ns ht
      have hs := TIs.of (hT _ _ ht)
      obtain ⟨hf, hg, _⟩ := flatOf_spec hs.flat.symm
      have hag : isAggT P ty = true := hs.agg
      have hcore : ∀ (w : World), leavesOk ns us.toList vs.toList = true → (Op.equalIn 10000 ty (.agg us) (.agg vs)).run P w = .ok (leavesEq us.toList vs.toList) w := by
        intro w hok
        have := flat_equal 40 ty ns hf 10000 us.toList vs.toList w (by omega) hok
        simpa [hag, mkVal] using this
      split at h
      · obtain ⟨h1, h2⟩ := eqL_sound h hxs hys
        exact Gives.mk h2 (show RelC E (.b _) (.bool _) from rfl) (fun w _ => by
          simp only [Sem.run_bind, run_eqGuard_agg w .eql ty X Y us vs hg, Result.andThen_ok]
          rw [run_eql_struct w ty us vs, hcore w h1]; rfl)
      · obtain ⟨h1, h2⟩ := eqL_sound h hxs hys
        exact Gives.mk h2 (show RelC E (.b _) (.bool _) from rfl) (fun w _ => by
          simp only [Sem.run_bind, run_eqGuard_agg w .neq ty X Y us vs hg, Result.andThen_ok]
          rw [run_neq_struct w ty us vs, hcore w h1]; rfl)
      · exact h.elim
    · exact h.elim
  · exact h.elim

def unX (op : UnOp) (x : XV) (k : XV → Prop) : Prop :=
  match op, x with
  | .not, .c .bt => k (.c .bf)
  | .not, .c .bf => k (.c .bt)
  | .not, .c (.b x) => k (.c (.b (!x)))
  | .neg, .c (.il kd n) => k (.c (.il kd (kd.wrap (0 - n))))
  | .neg, .c (.i kd n) => k (.c (.i kd (kd.wrap (0 - n))))
  | _, _ => False
theorem unX_sound {P : Program} {S : World → Prop} {E : Env} {op : UnOp} {x : XV} {u : Value} {k : XV → Prop} (h : unX op x k) (hx : RelV E x u) : Gives P S (Op.unary op u) E k := by
  unfold unX at h
  split at h
  · have : u = .bool true := hx
    subst this; exact Gives.mk h (show RelC E .bf (.bool false) from rfl) (fun w _ => by simp [Op.unary])
  · have : u = .bool false := hx
    subst this; exact Gives.mk h (show RelC E .bt (.bool true) from rfl) (fun w _ => by simp [Op.unary])
  · rename_i b
    have : u = .bool b := hx
    subst this; exact Gives.mk h (show RelC E (.b _) (.bool (!b)) from rfl) (fun w _ => by simp [Op.unary])
  · rename_i kd n
    have : u = .int kd n := hx
    subst this; exact Gives.mk h (show RelC E (.il _ _) (.int kd (kd.wrap (0 - n))) from rfl) (fun w _ => by simp [Op.unary, Op.intArith])
  · rename_i kd n
    have : u = .int kd n := hx
    subst this; exact Gives.mk h (show RelC E (.i _ _) (.int kd (kd.wrap (0 - n))) from rfl) (fun w _ => by simp [Op.unary, Op.intArith])
  · exact h.elim

def convX (T : Tab) (src dst : TypeId) (x : XV) (k : XV → Prop) : Prop :=
  match T src, T dst with
  | some _, some { kd := .int kd, .. } => (match x with
    | .c (.il _ n) => k (.c (.il kd (kd.wrap n)))
    | .c (.i _ n) => k (.c (.i kd (kd.wrap n)))
    | _ => False)
  | some { kd := .str, .. }, some { kd := .str, .. } => (match x with
    | .c (.v (.string s)) => k (.c (.v (.string s)))
    | _ => False)
  | _, _ => False
theorem convX_sound {P : Program} {T : Tab} (hT : TabOk P T) {S : World → Prop} {E : Env} {src dst : TypeId} {x : XV} {u : Value} {k : XV → Prop} (h : convX T src dst x k) (hx : RelV E x u) :
    Gives P S (convert src dst u) E k := by
  unfold convX at h
  split at h
  · rename_i t1 ti _ _ _ _ _ h1 h2
    obtain ⟨d, hd⟩ := (TIs.of (hT _ _ h1)).und
    have hu := mkKd_int (TIs.of (hT _ _ h2)).kd.symm
    split at h
    · rename_i k0 n
      have : u = .int k0 n := hx
      subst this; exact Gives.mk h (show RelC E (.il _ _) (.int _ _) from rfl) (fun w _ => by simp [convert, run_underlying hd, run_underlying hu, Conv.intToInt])
    · rename_i k0 n
      have : u = .int k0 n := hx
      subst this; exact Gives.mk h (show RelC E (.i _ _) (.int _ _) from rfl) (fun w _ => by simp [convert, run_underlying hd, run_underlying hu, Conv.intToInt])
    · exact h.elim
  · rename_i t1 ti _ _ _ _ _ _ _ _ _ _ h1 h2
    have hu1 := mkKd_str (TIs.of (hT _ _ h1)).kd.symm
    have hu2 := mkKd_str (TIs.of (hT _ _ h2)).kd.symm
    split at h
    · rename_i s
      have : u = .string s := hx.1
      subst this; exact Gives.mk h (show RelC E (.v _) _ from ⟨rfl, rfl⟩) (fun w _ => by simp [convert, run_underlying hu1, run_underlying hu2])
    · exact h.elim
  · exact h.elim
end Go.Eng

/- The engine, part D: addresses, parts, loads: operations that look at memory and leave it alone; nothing of any program is proved here. -/
namespace Go.Eng
open Go Go.RowKit
set_option linter.unusedSimpArgs false
set_option linter.unusedVariables false

theorem block_add (a : Addr) (n : Nat) : (a.add n).block = a.block := by unfold Addr.add; split <;> rfl
theorem add_add (a : Addr) (i j : Nat) : (a.add i).add j = a.add (i + j) := by
  unfold Addr.add
  by_cases hi : i = 0 <;> by_cases hj : j = 0 <;> simp [hi, hj, Nat.add_assoc]
theorem add_lit (b o n : Nat) : Addr.add ⟨b, o, none⟩ n = ⟨b, o + n, none⟩ := Addr.add_lit b o n

def ofVal : Value → XC
  | .int k n => .il k n
  | .bool true => .bt
  | .bool false => .bf
  | v => .v v
theorem ofVal_rel (E : Env) (v : Value) (h : v.oneCell' = true) : RelC E (ofVal v) v := by
  unfold ofVal
  split <;> first | rfl | exact ⟨rfl, h⟩

def ofConst : Value → XV
  | .agg cs => (match cs.toList.all (·.oneCell') with | true => .a (cs.toList.map ofVal) | false => .un)
  | .tuple _ => .un
  | v => .c (ofVal v)
theorem ofConst_rel (E : Env) (v : Value) : RelV E (ofConst v) v := by
  cases v
  case agg cs =>
    simp only [ofConst]
    split
    · rename_i h
      refine ⟨cs, rfl, ?_⟩
      have h' : ∀ u ∈ cs.toList, u.oneCell' = true := fun u hu => List.all_eq_true.1 h u hu
      generalize cs.toList = l at h'
      clear h
      induction l with
      | nil => trivial
      | cons u l ih => exact ⟨ofVal_rel E u (h' u (by simp)), ih fun v hv => h' v (by simp [hv])⟩
    · trivial
  case tuple => trivial
  all_goals exact ofVal_rel E _ rfl

def opv (ts : List XV) : Operand → XV
  | .tmp t => get ts t
  | .const v => ofConst v
  | .func f => .c (.v (.func (.func f) #[] #[]))
  | .global _ => .un
theorem opv_rel {E : Env} {ts : List XV} {a : Act} (h : RelTs E ts a.tmps.toList) (x : Operand) : RelV E (opv ts x) (a.eval x) := by
  cases x with
  | tmp t =>
    have := h.get t
    have e : a.eval (.tmp t) = a.tmps.toList.getD t undef := by simp [Act.eval]
    rw [e]; exact this
  | const v => exact ofConst_rel E v
  | func f => exact ⟨rfl, rfl⟩
  | global g => trivial

/-! ### so many cells as a value -/
def mkX (agg : Bool) (l : List XC) (k : XV → Prop) : Prop :=
  match agg, l with
  | true, l => k (.a l)
  | false, [x] => k (.c x)
  | false, _ => False
theorem mkX_sound {E : Env} {agg : Bool} {l : List XC} {us : List Value} {k : XV → Prop} (h : mkX agg l k) (hr : RelL E l us) : ∃ x, k x ∧ RelV E x (mkVal agg us) := by
  unfold mkX at h
  split at h
  · exact ⟨_, h, us.toArray, rfl, by simpa using hr⟩
  · match us, hr with
    | [u], hr => exact ⟨_, h, hr.1⟩
  · exact h.elim

def cutK (l : List XC) (off n : Nat) (k : List XC → Prop) : Prop := forceL ((l.drop off).take n) fun r => when (Nat.beq r.length n) (k r)
theorem cutK_iff {l : List XC} {off n : Nat} {k : List XC → Prop} (h : cutK l off n k) : ((l.drop off).take n).length = n ∧ k ((l.drop off).take n) := by
  unfold cutK at h
  rw [forceL_eq] at h
  obtain ⟨h1, h2⟩ := when_iff h
  exact ⟨Nat.eq_of_beq_eq_true h1, h2⟩

/-- So many cells of a function. -/
def genK : Nat → Nat → (Nat → XC) → (List XC → Prop) → Prop
  | 0, _, _, k => k []
  | n + 1, o, f, k => forceC (f o) fun x => genK n (o + 1) f fun l => k (x :: l)
theorem genK_eq : ∀ (n o : Nat) (f : Nat → XC) (k : List XC → Prop), genK n o f k = k ((List.range' o n).map f)
  | 0, _, _, _ => rfl
  | n + 1, o, f, k => by simp only [genK, forceC_eq, genK_eq n (o + 1) f, List.range'_succ, List.map_cons]

/-! ### parts of values -/
def fieldX (T : Tab) (s : TypeId) (x : XV) (f : Nat) (k : XV → Prop) : Prop :=
  match T s with
  | some { kd := .st fs, .. } => (match fs[f]? with
    | some (o, ft) => (match T ft, x with
      | some fi, .a l => cutK l o fi.size fun r => mkX fi.agg r k
      | _, _ => False)
    | none => False)
  | _ => False

theorem fieldX_sound {P : Program} {T : Tab} (hT : TabOk P T) {S : World → Prop} {E : Env} {s : TypeId} {x : XV} {u : Value} {f : Nat} {k : XV → Prop} (h : fieldX T s x f k) (hx : RelV E x u) :
    Gives P S (Instr.field s u f) E k := by
  unfold fieldX at h
  split at h
  case h_2 => exact h.elim
  rename_i fs _ ht
  obtain ⟨fields, hu, hfs⟩ := mkKd_st (TIs.of (hT _ _ ht)).kd.symm
  split at h
  case h_2 => exact h.elim
  rename_i o ft hf
  split at h
  case h_2 => exact h.elim
  rename_i fi l hft
  have hs := TIs.of (hT _ _ hft)
  obtain ⟨vs, rfl, hl⟩ := hx
  obtain ⟨hlen, h⟩ := cutK_iff h
  rw [hfs] at hf
  simp only [List.getElem?_map, Option.map_eq_some_iff, Prod.mk.injEq] at hf
  obtain ⟨fd, hfd, rfl, rfl⟩ := hf
  have hr := (hl.drop fd.offset).take fi.size
  obtain ⟨y, hk, hy⟩ := mkX_sound h hr
  have hlv := hr.len.symm.trans hlen
  have hfa : fields[f]? = some fd := by simpa using hfd
  refine ⟨y, _, hk, hy, fun w _ => ?_⟩
  simp only [Instr.field, Sem.run_bind, run_underlying hu, Result.andThen_ok, hfa, asAgg, Sem.run_pure, run_part hs w vs fd.offset _ hlv rfl]

def indexX (T : Tab) (t : TypeId) (x y : XV) (k : XV → Prop) : Prop :=
  match y with
  | .c y => (match asI y with
    | some (l, _, i) => (match T t, x with
      | some { kd := .arr n e, .. }, .a cs => (match T e with
        | some ei => inside l i n (cutK cs (i.toNat * ei.size) ei.size fun r => mkX ei.agg r k)
        | none => False)
      | some { kd := .str, .. }, .c (.v (.string s)) => inside false i s.size (k (.c (.i .u8 (s.data.toList.getD i.toNat 0).toNat)))
      | _, _ => False)
    | none => False)
  | _ => False

theorem indexX_sound {P : Program} {T : Tab} (hT : TabOk P T) {S : World → Prop} {E : Env} {t : TypeId} {x y : XV} {u v : Value} {k : XV → Prop} (h : indexX T t x y k) (hx : RelV E x u) (hy : RelV E y v) :
    Gives P S (Instr.index t u v) E k := by
  unfold indexX at h
  split at h
  case h_2 => exact h.elim
  split at h
  case h_2 => exact h.elim
  rename_i y l kd i hi
  have hv := asI_rel hi hy
  subst hv
  split at h
  · rename_i n e _ cs ht
    have hu := mkKd_arr (TIs.of (hT _ _ ht)).kd.symm
    split at h
    case h_2 => exact h.elim
    rename_i ei hte
    have hs := TIs.of (hT _ _ hte)
    obtain ⟨vs, rfl, hl⟩ := hx
    obtain ⟨hin, h⟩ := inside_iff h
    obtain ⟨hlen, h⟩ := cutK_iff h
    have hr := (hl.drop (i.toNat * ei.size)).take ei.size
    obtain ⟨z, hk, hz⟩ := mkX_sound h hr
    refine ⟨z, _, hk, hz, fun w _ => ?_⟩
    simp only [Instr.index, Sem.run_bind, asIntOf, Sem.run_pure, Result.andThen_ok, run_underlying hu, hin, and_self, if_true, run_size hs, run_part hs w vs _ _ (hr.len.symm.trans hlen) rfl]
  · rename_i s ht
    have hu := mkKd_str (TIs.of (hT _ _ ht)).kd.symm
    have : u = .string s := hx.1
    subst this
    obtain ⟨hin, h⟩ := inside_iff h
    have hlt : i.toNat < s.size := by omega
    refine Gives.mk h (show RelC E (.i _ _) (.int .u8 (s[i.toNat]).toNat) from ?_) (fun w _ => ?_)
    · have : s.data.toList.getD i.toNat 0 = s[i.toNat] := by
        have hl : i.toNat < s.data.toList.length := by simpa using hlt
        rw [List.getD_eq_getElem?_getD, List.getElem?_eq_getElem hl]
        rfl
      rw [this]; rfl
    · rw [run_index_string w t s kd i hu, dif_pos hin]
  · exact h.elim

def extractX (x : XV) (i : Nat) (k : XV → Prop) : Prop :=
  match x with
  | .t l => (match l[i]? with | some (.c x) => k (.c x) | some (.a l) => k (.a l) | none => False)
  | _ => False
theorem RelWs.get {E : Env} : ∀ {l : List XW} {vs : List Value} (_ : RelWs E l vs) (i : Nat) {x : XW}, l[i]? = some x → ∃ v, vs[i]? = some v ∧ RelW E x v
  | [], [], _, i, x, h => by simp at h
  | _ :: _, v :: _, h, 0, x, hx => by simp at hx; subst hx; exact ⟨v, rfl, h.1⟩
  | _ :: l, _ :: vs, h, i + 1, x, hx => by simpa using RelWs.get h.2 i (by simpa using hx)
theorem extractX_sound {P : Program} {S : World → Prop} {E : Env} {x : XV} {u : Value} {i : Nat} {k : XV → Prop} (h : extractX x i k) (hx : RelV E x u) : Gives P S (Instr.extract u i) E k := by
  unfold extractX at h
  split at h
  case h_2 => exact h.elim
  obtain ⟨vs, rfl, hl⟩ := hx
  split at h
  · rename_i y e
    obtain ⟨v, hv, hr⟩ := hl.get i e
    exact Gives.mk h (show RelV E (.c y) v from hr) (fun w _ => by simp [Instr.extract, show vs[i]? = some v by simpa using hv])
  · rename_i y e
    obtain ⟨v, hv, hr⟩ := hl.get i e
    exact Gives.mk h (show RelV E (.a y) v from hr) (fun w _ => by simp [Instr.extract, show vs[i]? = some v by simpa using hv])
  · exact h.elim

/-! ### structs and arrays that are built -/
def zeroX (z : List Value) : List XC := z.map ofVal
theorem zeroX_rel (E : Env) : ∀ (z : List Value), (∀ u ∈ z, u.oneCell' = true) → RelL E (zeroX z) z
  | [], _ => trivial
  | u :: z, h => ⟨ofVal_rel E u (h u (by simp)), zeroX_rel E z fun v hv => h v (by simp [hv])⟩

def putL (cs : List XC) (o : Nat) (new : List XC) : List XC := cs.take o ++ new ++ cs.drop (o + new.length)

/-- The parts, each at its place ('place' tells where a part begins and how many cells it has). -/
def fillX (place : Nat → Option (Nat × Nat)) : List (Nat × XV) → List XC → (List XC → Prop) → Prop
  | [], cs, k => k cs
  | (i, x) :: ps, cs, k => (match place i, cells x with
    | some (o, z), some l => when (Nat.beq l.length z && Nat.ble (o + z) cs.length) (forceL (putL cs o l) fun cs => fillX place ps cs k)
    | _, _ => False)

theorem foldl_put (o : Nat) : ∀ (vs : List Value) (j : Nat) (cs : Array Value), o + j + vs.length ≤ cs.size →
    ((vs.zipIdx j).foldl (fun (cs : Array Value) (c : Value × Nat) => cs.setIfInBounds (o + c.2) c.1) cs).toList = cs.toList.take (o + j) ++ vs ++ cs.toList.drop (o + j + vs.length)
  | [], j, cs, _ => by simp
  | v :: vs, j, cs, h => by
    simp only [List.length_cons] at h
    have ih := foldl_put o vs (j + 1) (cs.setIfInBounds (o + j) v) (by simp; omega)
    simp only [List.zipIdx_cons, List.foldl_cons]
    rw [ih]
    have hlt : o + j < cs.toList.length := by simp; omega
    simp only [Array.toList_setIfInBounds]
    rw [show o + (j + 1) = o + j + 1 by omega, List.take_succ_eq_append_getElem (by simpa using hlt), List.getElem_set_self, List.take_set_of_le (Nat.le_refl _), List.drop_set_of_lt (by omega),
      List.append_assoc, List.append_assoc, List.append_assoc, show o + j + 1 + vs.length = o + j + (vs.length + 1) by omega]
    rfl

theorem RelL.put {E : Env} {cs : List XC} {us : List Value} {l : List XC} {vs : List Value} (o : Nat) (h : RelL E cs us) (h' : RelL E l vs) :
    RelL E (putL cs o l) (us.take o ++ vs ++ us.drop (o + vs.length)) := by
  unfold putL
  rw [h'.len]
  exact ((h.take o).append h').append (h.drop _)

theorem fillX_sound {E : Env} {place : Nat → Option (Nat × Nat)} : ∀ {ps : List (Nat × XV)} {us : List (Nat × Value)} {cs : List XC} {vs : Array Value} {k : List XC → Prop},
    fillX place ps cs k → ps.map (·.1) = us.map (·.1) → (∀ (i : Nat) (x : XV) (u : Value), (ps.map (·.2))[i]? = some x → (us.map (·.2))[i]? = some u → RelV E x u) → RelL E cs vs.toList →
    ∃ cs' vs', k cs' ∧ Instr.fill place vs us = some vs' ∧ RelL E cs' vs'.toList ∧ vs'.size = vs.size
  | [], [], cs, vs, k, h, _, _, hr => ⟨cs, vs, h, rfl, hr, rfl⟩
  | (i, x) :: ps, (j, u) :: us, cs, vs, k, h, hi, hx, hr => by
    simp only [List.map_cons, List.cons.injEq] at hi
    obtain ⟨rfl, hi⟩ := hi
    unfold fillX at h
    split at h
    case h_2 => exact h.elim
    rename_i o z l hp hc
    obtain ⟨hb, h⟩ := when_iff h
    rw [forceL_eq] at h
    simp only [Bool.and_eq_true] at hb
    have hlz : l.length = z := Nat.eq_of_beq_eq_true hb.1
    have hle : o + z ≤ cs.length := Nat.le_of_ble_eq_true hb.2
    have hru := cells_rel hc (hx 0 x u rfl rfl)
    have hlu : u.cells.size = z := by rw [← hlz, hru.len, Array.length_toList]
    have hcl : cs.length = vs.size := by rw [hr.len, Array.length_toList]
    have hput := RelL.put o hr hru
    have hfold := foldl_put o u.cells.toList 0 vs (by simp; omega)
    simp only [Nat.add_zero] at hfold
    have hzip : u.cells.zipIdx.foldl (fun (cs : Array Value) (c : Value × Nat) => cs.setIfInBounds (o + c.2) c.1) vs = (u.cells.toList.zipIdx 0).foldl (fun (cs : Array Value) (c : Value × Nat) => cs.setIfInBounds (o + c.2) c.1) vs := by
      rw [← Array.foldl_toList, Array.toList_zipIdx]
    obtain ⟨cs', vs', hk, hf, hr', hsz⟩ := fillX_sound (vs := u.cells.zipIdx.foldl (fun (cs : Array Value) (c : Value × Nat) => cs.setIfInBounds (o + c.2) c.1) vs) h hi
      (fun n y v hy hv => hx (n + 1) y v (by simpa using hy) (by simpa using hv)) (by rw [hzip, hfold]; exact hput)
    refine ⟨cs', vs', hk, ?_, hr', ?_⟩
    · unfold Instr.fill
      simp only [hp]
      rw [if_neg (by simp; omega)]
      exact hf
    · rw [hsz, hzip, ← Array.length_toList, hfold]
      simp; omega
  | [], _ :: _, _, _, _, _, hi, _, _ => by simp at hi
  | _ :: _, [], _, _, _, _, hi, _, _ => by simp at hi

/-- Where the fields lie. -/
def placesX (T : Tab) (fs : List (Nat × TypeId)) (i : Nat) : Option (Nat × Nat) :=
  match fs[i]? with
  | some (o, ft) => (match T ft with | some fi => some (o, fi.size) | none => none)
  | none => none

def buildX (T : Tab) (t : TypeId) (ps : List (Nat × XV)) (k : XV → Prop) : Prop :=
  match T t with
  | some ti => (match ti.kd with
    | .st fs => when (fs.all fun f => (T f.2).isSome) (forceL (zeroX ti.zero) fun z => fillX (placesX T fs) ps z fun r => k (.a r))
    | .arr _ e => (match T e with
      | some ei => forceL (zeroX ti.zero) fun z => fillX (fun i => some (i * ei.size, ei.size)) ps z fun r => k (.a r)
      | none => False)
    | _ => False)
  | none => False

theorem fill_congr {place place' : Nat → Option (Nat × Nat)} (h : ∀ i p, place i = some p → place' i = some p) : ∀ (us : List (Nat × Value)) (vs vs' : Array Value), Instr.fill place vs us = some vs' → Instr.fill place' vs us = some vs'
  | [], vs, vs', e => e
  | (i, u) :: us, vs, vs', e => by
    unfold Instr.fill at e ⊢
    split at e
    · cases e
    · rename_i o z hp
      rw [h _ _ hp]
      simp only [] at e ⊢
      split at e
      · cases e
      · rename_i hc
        rw [if_neg hc]
        exact fill_congr h us _ _ e

theorem mapM_places {P : Program} {T : Tab} (hT : TabOk P T) : ∀ (fs : List Field), (fs.map fun f => (f.offset, f.type)).all (fun f => (T f.2).isSome) = true →
    ∃ pl, fs.mapM (fun f => (P.info? f.type).map fun i => (f.offset, i.size)) = some pl ∧ ∀ i : Nat, pl[i]? = placesX T (fs.map fun f => (f.offset, f.type)) i
  | [], _ => ⟨[], rfl, fun i => by simp [placesX]⟩
  | f :: fs, h => by
    simp only [List.map_cons, List.all_cons, Bool.and_eq_true] at h
    obtain ⟨pl, hp, hi⟩ := mapM_places hT fs h.2
    obtain ⟨fi, hf⟩ := Option.isSome_iff_exists.1 h.1
    obtain ⟨inf, hinf, hsz, _⟩ := (TIs.of (hT _ _ hf)).info
    refine ⟨(f.offset, fi.size) :: pl, by simp [List.mapM_cons, hinf, hp, hsz], fun i => ?_⟩
    cases i with
    | zero => simp [placesX, hf]
    | succ i => simpa [placesX] using hi i

theorem buildX_sound {P : Program} {T : Tab} (hT : TabOk P T) {S : World → Prop} {E : Env} {t : TypeId} {ps : List (Nat × XV)} {us : Array (Nat × Value)} {k : XV → Prop} (h : buildX T t ps k)
    (hi : ps.map (·.1) = us.toList.map (·.1)) (hx : ∀ (i : Nat) (x : XV) (u : Value), (ps.map (·.2))[i]? = some x → (us.toList.map (·.2))[i]? = some u → RelV E x u) : Gives P S (Instr.build t us) E k := by
  unfold buildX at h
  split at h
  case h_2 => exact h.elim
  rename_i ti ht
  have hs := TIs.of (hT _ _ ht)
  obtain ⟨info, hinfo, hsz, _, zv, hz, hzc, _⟩ := hs.info
  have hz0 := zeroX_rel E _ hs.zone
  rw [← hzc] at hz0
  split at h
  · rename_i fs hkd
    obtain ⟨hall, h⟩ := when_iff h
    rw [forceL_eq, ← hzc] at h
    obtain ⟨fields, hu, rfl⟩ := mkKd_st (hs.kd.symm.trans hkd)
    obtain ⟨pl, hpl, hpi⟩ := mapM_places hT fields.toList hall
    obtain ⟨cs', vs', hk, hf, hr, _⟩ := fillX_sound h hi hx hz0
    refine Gives.mk hk (show RelV E (.a _) (.agg vs') from ⟨vs', rfl, hr⟩) (fun w _ => run_build w t us vs' ?_)
    have hf2 := fill_congr (place' := (pl.toArray[·]?)) (fun i p e => by rw [← e, ← hpi i]; simp) us.toList zv.cells vs' hf
    simp only [Program.built, hinfo, hu, hz, hpl]
    exact hf2
  · rename_i n e hkd
    have hu := mkKd_arr (hs.kd.symm.trans hkd)
    split at h
    case h_2 => exact h.elim
    rename_i ei hte
    obtain ⟨einfo, heinfo, hesz, _⟩ := (TIs.of (hT _ _ hte)).info
    rw [forceL_eq, ← hzc] at h
    obtain ⟨cs', vs', hk, hf, hr, _⟩ := fillX_sound h hi hx hz0
    refine Gives.mk hk (show RelV E (.a _) (.agg vs') from ⟨vs', rfl, hr⟩) (fun w _ => run_build w t us vs' ?_)
    simp only [Program.built, hinfo, hu, hz, heinfo, hesz]
    exact hf
  · exact h.elim
end Go.Eng

/- The engine, part E: addresses, slices, lengths, loads, and all operations that leave the world alone under one name; nothing of any program is proved here. -/
namespace Go.Eng
open Go Go.RowKit
set_option linter.unusedSimpArgs false
set_option linter.unusedVariables false

def itemAt : List It → Nat → It
  | [], _ => .dead
  | a :: _, 0 => a
  | _ :: l, n + 1 => itemAt l n
theorem itemAt_eq : ∀ (l : List It) (n : Nat) {x : It}, itemAt l n = x → x ≠ .dead → l[n]? = some x
  | [], _, x, h, hx => absurd h.symm hx
  | a :: _, 0, x, h, _ => by simpa [itemAt] using h
  | _ :: l, n + 1, x, h, hx => by simpa [itemAt] using itemAt_eq l n h hx

/-- The worlds in which what may be read lies as in w. -/
def Same (E : Env) (h : List It) (rd : Nat → Bool) (w w' : World) : Prop :=
  E.bs.ok w' ∧ ∀ k x b, h[k]? = some x → rd k = true → Ow E k x b → w'.heap[b]? = w.heap[b]?

theorem Base.cell {b : Base} {w : World} (h : b.ok w) {a : Addr} (ha : b.B a.block) : w.cell? a = b.wb.cell? a := by
  simp [World.cell?, (h a.block ha).2]

section
variable {P : Program} {T : Tab} (hT : TabOk P T) {E : Env} {h : List It} {w0 : Org} {w : World} {F : Nat → Prop} {rd : Nat → Bool}

def faddrX (T : Tab) (s : TypeId) (x : XV) (f : Nat) (k : XV → Prop) : Prop :=
  match T s with
  | some ti => (match ti.kd with
    | .st fs => (match fs[f]? with
      | some (o, ft) => (match T ft with
        | some fi => when (Nat.blt 0 fi.size) (match x with
          | .c (.p it off) => k (.c (.p it (off + o)))
          | .c (.ep m g) => k (.c (.ep (m - o) fun j => g (o + j)))
          | .c (.q it i z off) => k (.c (.q it i z (off + o)))
          | _ => False)
        | none => False)
      | none => False)
    | _ => False)
  | none => False

theorem ep_add {m o : Nat} {g : Nat → XC} {u : Value} (hx : RelC E (.ep m g) u) : ∃ ad : Addr, u = .pointer (some ad) ∧ RelC E (.ep (m - o) fun j => g (o + j)) (.pointer (some (ad.add o))) := by
  obtain ⟨ad, rfl, hc⟩ := hx
  refine ⟨ad, rfl, ad.add o, rfl, fun j hj => ?_⟩
  obtain ⟨hb, v, hv, hr⟩ := hc (o + j) (by omega)
  exact ⟨by rw [block_add]; exact hb, v, by rw [add_add]; exact hv, hr⟩

include hT in
theorem faddrX_sound {S : World → Prop} {s : TypeId} {x : XV} {u : Value} {f : Nat} {k : XV → Prop} (hh : faddrX T s x f k) (hx : RelV E x u) : Gives P S (Instr.fieldAt s u f) E k := by
  unfold faddrX at hh
  split at hh
  case h_2 => exact hh.elim
  rename_i ti ht
  split at hh
  case h_2 => exact hh.elim
  rename_i fs hkd
  obtain ⟨fields, hu, rfl⟩ := mkKd_st ((TIs.of (hT _ _ ht)).kd.symm.trans hkd)
  split at hh
  case h_2 => exact hh.elim
  rename_i o ft hf
  split at hh
  case h_2 => exact hh.elim
  rename_i fi hft
  have hs := TIs.of (hT _ _ hft)
  replace hh := when_iff hh; obtain ⟨hz, hh⟩ := hh
  have hz : fi.size ≠ 0 := by
    have : 0 + 1 ≤ fi.size := by simpa [Nat.blt, Nat.ble_eq] using hz
    omega
  simp only [List.getElem?_map, Option.map_eq_some_iff, Prod.mk.injEq] at hf
  obtain ⟨fd, hfd, rfl, rfl⟩ := hf
  have hfa : fields[f]? = some fd := by simpa using hfd
  have run : ∀ (ad : Addr) (W : World), (Instr.fieldAt s (.pointer (some ad)) f).run P W = .ok (.pointer (some (ad.add fd.offset))) W := fun ad W => by
    simp [Instr.fieldAt, run_underlying hu, hfa, Instr.sureAddr, fieldPlace, run_size hs, hz]
  split at hh
  · rename_i it off
    obtain ⟨hn, rfl⟩ := hx
    exact Gives.mk hh (show RelC E (.p _ _) (.pointer (some ⟨E.blk it, off + fd.offset, none⟩)) from ⟨hn, rfl⟩) (fun W _ => by rw [run, add_lit])
  · obtain ⟨ad, rfl, hr⟩ := ep_add (E := E) (o := fd.offset) hx
    exact Gives.mk hh hr (fun W _ => run ad W)
  · rename_i it i z off
    obtain ⟨hn, g, n, c, he, rfl⟩ := hx
    exact Gives.mk hh (show RelC E (.q it i z (off + fd.offset)) (.pointer (some ⟨g, i * z + off + fd.offset, none⟩)) from ⟨hn, g, n, c, he, by rw [Nat.add_assoc]⟩) (fun W _ => by rw [run, add_lit])
  · exact hh.elim

def iaddrX (T : Tab) (t : TypeId) (x y : XV) (h : List It) (k : XV → Prop) : Prop :=
  match y with
  | .c y => (match asI y with
    | some (l, _, i) => (match T t with
      | some ti => (match ti.kd with
        | .arr n e => (match T e with
          | some ei => inside l i n (match x with
            | .c (.p it off) => k (.c (.p it (off + i.toNat * ei.size)))
            | .c (.ep m g) => k (.c (.ep (m - i.toNat * ei.size) fun j => g (i.toNat * ei.size + j)))
            | _ => False)
          | none => False)
        | .sl e => (match T e with
          | some ei => (match x with
            | .c (.rs n z f) => when (Nat.beq z ei.size) (inside false i n (k (.c (.ep z (f i.toNat)))))
            | .c (.ow it) => (match itemAt h it with
              | .row _ z xs => when (Nat.beq z ei.size) (inside false i xs.length (k (.c (.q it i.toNat z 0))))
              | .prow _ z as _ => when (Nat.beq z ei.size) (inside false i as.length (k (.c (.q it i.toNat z 0))))
              | _ => False)
            | .c (.sp it off n _) => inside l i n (k (.c (.p it (off + i.toNat * ei.size))))
            | .c (.sw it off n z) => (match itemAt h it with
              | .row _ _ _ => when (Nat.beq z ei.size) (inside false i n (k (.c (.q it (off + i.toNat) z 0))))
              | _ => False)
            | _ => False)
          | none => False)
        | _ => False)
      | none => False)
    | none => False)
  | _ => False

theorem run_iaddr_arr {t e : TypeId} {n : Nat} {ei : TI} (hu : P.underlying t = some (.array n e)) (hs : TIs P e ei) (ad : Addr) (kd : IntKind) (i : Int) (hin : 0 ≤ i ∧ i < (n : Int)) (W : World) :
    (Instr.indexAt t (.pointer (some ad)) (.int kd i)).run P W = .ok (.pointer (some (ad.add (i.toNat * ei.size)))) W := by
  simp [Instr.indexAt, asIntOf, run_underlying hu, Instr.sureAddr, hin, run_size hs]
theorem run_iaddr_sl {t e : TypeId} {n c : Nat} {ei : TI} (hu : P.underlying t = some (.slice e)) (hs : TIs P e ei) (ad : Addr) (kd : IntKind) (i : Int) (hin : 0 ≤ i ∧ i < (n : Int)) (W : World) :
    (Instr.indexAt t (.slice (some ad) n c) (.int kd i)).run P W = .ok (.pointer (some (ad.add (i.toNat * ei.size)))) W := by
  simp [Instr.indexAt, asIntOf, run_underlying hu, hin, run_size hs]

include hT in
theorem iaddrX_sound {S : World → Prop} {t : TypeId} {x y : XV} {u v : Value} {k : XV → Prop} (hh : iaddrX T t x y h k) (hx : RelV E x u) (hy : RelV E y v) (hp : Heap w0 F E h w) :
    Gives P S (Instr.indexAt t u v) E k := by
  unfold iaddrX at hh
  split at hh
  case h_2 => exact hh.elim
  split at hh
  case h_2 => exact hh.elim
  rename_i y l kd i hi
  have hv := asI_rel hi hy
  subst hv
  split at hh
  case h_2 => exact hh.elim
  rename_i ti ht
  split at hh
  · rename_i n e hkd
    have hu := mkKd_arr ((TIs.of (hT _ _ ht)).kd.symm.trans hkd)
    split at hh
    case h_2 => exact hh.elim
    rename_i ei hte
    have hs := TIs.of (hT _ _ hte)
    replace hh := inside_iff hh; obtain ⟨hin, hh⟩ := hh
    split at hh
    · rename_i it off
      obtain ⟨hn, rfl⟩ := hx
      exact Gives.mk hh (show RelC E (.p _ _) (.pointer (some ⟨E.blk it, off + i.toNat * ei.size, none⟩)) from ⟨hn, rfl⟩) (fun W _ => by rw [run_iaddr_arr hu hs _ _ _ hin, add_lit])
    · obtain ⟨ad, rfl, hr⟩ := ep_add (E := E) (o := i.toNat * ei.size) hx
      exact Gives.mk hh hr (fun W _ => run_iaddr_arr hu hs ad _ _ hin W)
    · exact hh.elim
  · rename_i e hkd
    have hu := mkKd_sl ((TIs.of (hT _ _ ht)).kd.symm.trans hkd)
    split at hh
    case h_2 => exact hh.elim
    rename_i ei hte
    have hs := TIs.of (hT _ _ hte)
    split at hh
    · rename_i n z f
      replace hh := when_iff hh; obtain ⟨hz, hh⟩ := hh
      have hz := Nat.eq_of_beq_eq_true hz
      replace hh := inside_iff hh; obtain ⟨hin, hk⟩ := hh
      obtain ⟨A, c, rfl, _, _, hc⟩ := hx
      obtain ⟨ad, rfl, hcell⟩ := hc i.toNat (by omega)
      refine Gives.mk hk (show RelC E (.ep z (f i.toNat)) (.pointer (some (ad.add (i.toNat * ei.size)))) from ⟨_, rfl, fun j hj => ?_⟩) (fun W _ => run_iaddr_sl hu hs ad _ _ hin W)
      obtain ⟨hb, v, hv, hr⟩ := hcell j hj
      exact ⟨by rw [block_add]; exact hb, v, by rw [add_add, ← hz]; exact hv, hr⟩
    · rename_i it
      split at hh
      case h_3 => exact hh.elim
      · rename_i e' z xs hit
        replace hh := when_iff hh; obtain ⟨hz, hh⟩ := hh
        have hz := Nat.eq_of_beq_eq_true hz
        replace hh := inside_iff hh; obtain ⟨hin, hk⟩ := hh
        obtain ⟨ys, how, _, _⟩ := hp.ok it _ (itemAt_eq _ _ hit (by simp))
        obtain ⟨hn, rfl, _⟩ := hx
        rcases how.2 with ⟨_, h0⟩ | ⟨g, cap, cur, hsl, _⟩
        · omega
        · rw [hsl]
          refine Gives.mk hk (show RelC E (.q it i.toNat z 0) (.pointer (some ⟨g, i.toNat * z + 0, none⟩)) from ⟨hn, g, _, _, hsl, rfl⟩) (fun W _ => ?_)
          rw [run_iaddr_sl hu hs _ _ _ hin, add_lit, hz]; simp
      · rename_i e' z as o hit
        replace hh := when_iff hh; obtain ⟨hz, hh⟩ := hh
        have hz := Nat.eq_of_beq_eq_true hz
        replace hh := inside_iff hh; obtain ⟨hin, hk⟩ := hh
        obtain ⟨ys, Ss, hpr⟩ := hp.ok it _ (itemAt_eq _ _ hit (by simp))
        obtain ⟨hn, rfl, _⟩ := hx
        rcases hpr.row.2 with ⟨_, h0⟩ | ⟨g, cap, cur, hsl, _⟩
        · omega
        · rw [hsl]
          refine Gives.mk hk (show RelC E (.q it i.toNat z 0) (.pointer (some ⟨g, i.toNat * z + 0, none⟩)) from ⟨hn, g, _, _, hsl, rfl⟩) (fun W _ => ?_)
          rw [run_iaddr_sl hu hs _ _ _ hin, add_lit, hz]; simp
    · rename_i it off n z
      replace hh := inside_iff hh; obtain ⟨hin, hk⟩ := hh
      obtain ⟨hn, c, rfl, _⟩ := hx
      exact Gives.mk hk (show RelC E (.p _ _) (.pointer (some ⟨E.blk it, off + i.toNat * _, none⟩)) from ⟨hn, rfl⟩) (fun W _ => by rw [run_iaddr_sl hu hs _ _ _ hin, add_lit])
    · rename_i it off n z
      split at hh
      case h_2 => exact hh.elim
      rename_i e' z' xs hit
      replace hh := when_iff hh; obtain ⟨hz, hh⟩ := hh
      have hz := Nat.eq_of_beq_eq_true hz
      replace hh := inside_iff hh; obtain ⟨hin, hk⟩ := hh
      obtain ⟨ys, how, _, _⟩ := hp.ok it _ (itemAt_eq _ _ hit (by simp))
      obtain ⟨hn, A, m, c, hsl0, hle, rfl⟩ := hx
      rcases how.2 with ⟨hsl, h0⟩ | ⟨g, cap, cur, hsl, _, _, hnc, _⟩
      · rw [hsl] at hsl0; cases hsl0; omega
      · rw [hsl] at hsl0
        injection hsl0 with e1 e2 e3
        subst e1; subst e2; subst e3
        refine Gives.mk hk (show RelC E (.q it (off + i.toNat) z 0) (.pointer (some ⟨g, (off + i.toNat) * z + 0, none⟩)) from ⟨hn, g, _, _, hsl, rfl⟩) (fun W _ => ?_)
        have hsd : sliced (some ⟨g, 0, none⟩) off (off + n) cap z = .slice (some ⟨g, off * z, none⟩) n (cap - off) := by
          unfold sliced; rw [if_neg (by omega), Nat.add_sub_cancel_left]; simp [add_lit]
        rw [hsd, run_iaddr_sl hu hs _ _ _ hin, add_lit, ← hz, Nat.add_mul]; simp
    · exact hh.elim
  · exact hh.elim

def loadX (T : Tab) (t : TypeId) (x : XV) (h : List It) (rd : Nat → Bool) (k : XV → Prop) : Prop :=
  match T t with
  | some ti => (match x with
    | .c (.p it off) => when (rd it) (match itemAt h it with
      | .cells _ cs => cutK cs off ti.size fun l => mkX ti.agg l k
      | _ => False)
    | .c (.ep m g) => when (Nat.ble ti.size m) (genK ti.size 0 g fun l => mkX ti.agg l k)
    | .c (.q it i z off) => when (rd it) (match itemAt h it with
      | .row _ z' xs => when (Nat.beq z z') (∃ cs, xs[i]? = some cs ∧ cutK cs off ti.size fun l => mkX ti.agg l k)
      | .prow _ z' as o => when (Nat.beq z z') (match o with
        | some (i', cs) => (i = i' ∧ cutK cs off ti.size fun l => mkX ti.agg l k) ∨ (i ≠ i' ∧ ∃ a, as[i]? = some a ∧ cutK a.pk off ti.size fun l => mkX ti.agg l k)
        | none => ∃ a, as[i]? = some a ∧ cutK a.pk off ti.size fun l => mkX ti.agg l k)
      | _ => False)
    | _ => False)
  | none => False

theorem RelL.range {E : Env} {f : Nat → XC} {g : Nat → Value} : ∀ (n o : Nat), (∀ j, o ≤ j → j < o + n → RelC E (f j) (g j)) → RelL E ((List.range' o n).map f) ((List.range' o n).map g)
  | 0, _, _ => trivial
  | n + 1, o, hh => by
    simp only [List.range'_succ, List.map_cons]
    exact ⟨hh o (Nat.le_refl _) (by omega), RelL.range n (o + 1) fun j h1 h2 => hh j (by omega) (by omega)⟩

theorem flatten_at {z : Nat} : ∀ (xs : List (List XC)) (i : Nat) (cs : List XC), (∀ l ∈ xs, l.length = z) → xs[i]? = some cs → (xs.flatten.drop (i * z)).take z = cs
  | x :: xs, 0, cs, hl, hi => by
    simp at hi; subst hi
    have := hl x (by simp)
    simp [← this]
  | x :: xs, i + 1, cs, hl, hi => by
    have hx := hl x (by simp)
    have := flatten_at xs i cs (fun l hl' => hl l (by simp [hl'])) (by simpa using hi)
    rw [List.flatten_cons, Nat.succ_mul, Nat.add_comm, ← List.drop_drop]
    rw [← hx, List.drop_left, hx]; exact this

include hT in
theorem loadX_sound {t : TypeId} {x : XV} {u : Value} {k : XV → Prop} (hh : loadX T t x h rd k) (hx : RelV E x u) (hp : Heap w0 F E h w) :
    Gives P (Same E h rd w) (Instr.loadAt t u) E k := by
  unfold loadX at hh
  split at hh
  case h_2 => exact hh.elim
  rename_i ti ht
  have hs := TIs.of (hT _ _ ht)
  split at hh
  · rename_i it off
    replace hh := when_iff hh; obtain ⟨hrd, hh⟩ := hh
    split at hh
    case h_2 => exact hh.elim
    rename_i ty cs hit
    have hi := itemAt_eq _ _ hit (by simp)
    obtain ⟨vs, hb, hr⟩ := hp.ok it _ hi
    obtain ⟨hn, rfl⟩ := hx
    obtain ⟨hlen, hm⟩ := cutK_iff hh
    have hr' := (hr.drop off).take ti.size
    obtain ⟨y, hk, hy⟩ := mkX_sound hm hr'
    refine ⟨y, _, hk, hy, fun W hW => ?_⟩
    have hWb : W.heap[E.blk it]? = some (.cells vs ty (0, 0)) := (hW.2 it _ _ hi hrd rfl).trans hb
    simp only [Instr.loadAt, Instr.sureAddr, Sem.run_bind, Sem.run_pure, Result.andThen_ok]
    refine run_loadVar hs W _ _ (hr'.len.symm.trans hlen) (fun j v hv => ?_)
    rw [add_lit, cell_of_row W _ _ vs ty (0, 0) hWb]
    have hj : j < ti.size := by
      have := (List.getElem?_eq_some_iff.1 hv).1
      rw [← hr'.len, hlen] at this; exact this
    rw [List.getElem?_take, if_pos hj, List.getElem?_drop] at hv
    simpa using hv
  · rename_i m g
    replace hh := when_iff hh; obtain ⟨hm, hh⟩ := hh
    have hm : ti.size ≤ m := Nat.le_of_ble_eq_true hm
    rw [genK_eq] at hh
    obtain ⟨ad, rfl, hc⟩ := hx
    have hc' : ∀ j, ∃ u, j < ti.size → E.bs.B ad.block ∧ E.bs.wb.cell? (ad.add j) = some u ∧ RelC E (g j) u := fun j => by
      by_cases hj : j < ti.size
      · obtain ⟨hb, u, hu, hr⟩ := hc j (by omega)
        exact ⟨u, fun _ => ⟨hb, hu, hr.2⟩⟩
      · exact ⟨undef, fun h' => absurd h' hj⟩
    obtain ⟨G, hG⟩ := Classical.axiomOfChoice hc'
    have hr : RelL E ((List.range' 0 ti.size).map g) ((List.range' 0 ti.size).map G) := RelL.range _ _ fun j _ hj => (hG j (by omega)).2.2
    obtain ⟨y, hk, hy⟩ := mkX_sound hh hr
    refine ⟨y, _, hk, hy, fun W hW => ?_⟩
    simp only [Instr.loadAt, Instr.sureAddr, Sem.run_bind, Sem.run_pure, Result.andThen_ok]
    refine run_loadVar hs W _ _ (by simp) (fun j v hv => ?_)
    have hj : j < ti.size := by
      have := (List.getElem?_eq_some_iff.1 hv).1
      simpa using this
    obtain ⟨hb, hu, _⟩ := hG j hj
    rw [Base.cell hW.1 (by rw [block_add]; exact hb), hu]
    simp [hj] at hv
    rw [hv]
  · rename_i it i z off
    replace hh := when_iff hh; obtain ⟨hrd, hh⟩ := hh
    have fin : ∀ {X : It} {e n0 : Nat} {ys : List Value} {cs : List XC}, h[it]? = some X → (∀ b, (E.sl it).ownBlock = some b → Ow E it X b) → w.ownsRow 0 e z (E.sl it) n0 ys → RelL E cs ((ys.drop (i * z)).take z) → (cutK cs off ti.size fun l => mkX ti.agg l k) → Gives P (Same E h rd w) (Instr.loadAt t u) E k := by
     intro X e n0 ys cs hi howX how hr1 hm
     obtain ⟨_, g, n, c, hsl, rfl⟩ := hx
     obtain ⟨hlen, hm⟩ := cutK_iff hm
     have hr' := (hr1.drop off).take ti.size
     obtain ⟨y, hk, hy⟩ := mkX_sound hm hr'
     refine ⟨y, _, hk, hy, fun W hW => ?_⟩
     have hown : Ow E it X g := howX g (by simp [hsl, Value.ownBlock])
     have hWb := hW.2 it _ _ hi hrd hown
     simp only [Instr.loadAt, Instr.sureAddr, Sem.run_bind, Sem.run_pure, Result.andThen_ok]
     refine run_loadVar hs W _ _ (hr'.len.symm.trans hlen) (fun j v hv => ?_)
     have hj : j < ti.size := by
       have := (List.getElem?_eq_some_iff.1 hv).1
       rw [← hr'.len, hlen] at this; exact this
     rw [List.getElem?_take, if_pos hj, List.getElem?_drop, List.getElem?_take] at hv
     split at hv
     case isFalse => cases hv
     rw [List.getElem?_drop] at hv
     have := how.cells (g := g) (by simp [hsl, Value.ownBlock]) _ _ hv
     rw [add_lit] at this ⊢
     rw [World.cell?_of_block (w := w) hWb, show i * z + off + j = 0 + (i * z + (off + j)) by omega]; exact this
    split at hh
    case h_3 => exact hh.elim
    · rename_i e z' xs hit
      replace hh := when_iff hh; obtain ⟨hz, hh⟩ := hh
      have hz := Nat.eq_of_beq_eq_true hz
      subst hz
      obtain ⟨cs, hcs, hm⟩ := hh
      have hi := itemAt_eq _ _ hit (by simp)
      obtain ⟨ys, how, hr, hl, _⟩ := hp.ok it _ hi
      have hfl := flatten_at xs i cs hl hcs
      have hr1 := (hr.drop (i * z)).take z
      rw [hfl] at hr1
      exact fin hi (fun b hb => hb) how hr1 hm
    · rename_i e z' as o hit
      replace hh := when_iff hh; obtain ⟨hz, hh⟩ := hh
      have hz := Nat.eq_of_beq_eq_true hz
      subst hz
      have hi := itemAt_eq _ _ hit (by simp)
      obtain ⟨ys, Ss, hpr⟩ := hp.ok it _ hi
      have peek : ∀ {a : AbsL}, as[i]? = some a → (∀ cs, o ≠ some (i, cs)) → (cutK a.pk off ti.size fun l => mkX ti.agg l k) → Gives P (Same E h rd w) (Instr.loadAt t u) E k := fun ha ho hm =>
        fin hi (fun b hb => hpr.blk b hb) hpr.row (AbsL.pkOk _ (hpr.el i _ ha ho) E fun _ hb => ⟨hb, rfl⟩) hm
      split at hh
      · rename_i i' cs
        rcases hh with ⟨rfl, hm⟩ | ⟨hne, a, ha, hm⟩
        · exact fin hi (fun b hb => hpr.blk b hb) hpr.row (hpr.op _ _ rfl).2.2 hm
        · exact peek ha (fun cs' e => by cases e; exact hne rfl) hm
      · obtain ⟨a, ha, hm⟩ := hh
        exact peek ha (fun cs' e => by cases e) hm
  · exact hh.elim

def lenX (T : Tab) (t : TypeId) (x : XV) (h : List It) (k : XV → Prop) : Prop :=
  match T t with
  | some ti => (match ti.kd with
    | .sl _ => (match x with
      | .c (.rs n _ _) => k (.c (.i .i64 n))
      | .c (.ow it) => (match itemAt h it with
        | .row _ _ xs => k (.c (.i .i64 xs.length))
        | .prow _ _ as _ => k (.c (.i .i64 as.length))
        | _ => False)
      | .c (.sp _ _ n _) => k (.c (.i .i64 n))
      | .c (.sw _ _ n _) => k (.c (.i .i64 n))
      | .c (.v (.slice none 0 0)) => k (.c (.il .i64 0))
      | .c (.v (.slice _ n _)) => k (.c (.i .i64 n))
      | _ => False)
    | .str => (match x with
      | .c (.v (.string s)) => k (.c (.i .i64 s.size))
      | _ => False)
    | .arr n _ => k (.c (.il .i64 n))
    | _ => False)
  | none => False

theorem run_len_sl {t e ty : TypeId} (hu : P.underlying t = some (.slice e)) (a : Option Addr) (n c : Nat) (W : World) : (Builtin.len_ #[t] ty #[.slice a n c]).run P W = .ok (goInt n) W := by
  simp [Builtin.len_, run_underlying hu]

include hT in
theorem lenX_sound {S : World → Prop} {t ty : TypeId} {x : XV} {u : Value} {k : XV → Prop} (hh : lenX T t x h k) (hx : RelV E x u) (hp : Heap w0 F E h w) : Gives P S (Builtin.len_ #[t] ty #[u]) E k := by
  unfold lenX at hh
  split at hh
  case h_2 => exact hh.elim
  rename_i ti ht
  have hkd' := (TIs.of (hT _ _ ht)).kd
  split at hh
  · rename_i e hkd
    have hu := mkKd_sl (hkd'.symm.trans hkd)
    split at hh
    · obtain ⟨A, c, rfl, _⟩ := hx
      exact Gives.mk hh (show RelC E (.i _ _) (goInt _) from rfl) (fun W _ => run_len_sl hu _ _ _ W)
    · rename_i it
      split at hh
      case h_3 => exact hh.elim
      · rename_i e' z xs hit
        obtain ⟨ys, how, _, _⟩ := hp.ok it _ (itemAt_eq _ _ hit (by simp))
        obtain ⟨hn, rfl, _⟩ := hx
        rcases how.2 with ⟨hsl, h0⟩ | ⟨g, cap, cur, hsl, _⟩
        · rw [hsl]; exact Gives.mk hh (show RelC E (.i _ _) (goInt (0 : Nat)) from by rw [h0]; rfl) (fun W _ => run_len_sl hu _ _ _ W)
        · rw [hsl]; exact Gives.mk hh (show RelC E (.i _ _) (goInt _) from rfl) (fun W _ => run_len_sl hu _ _ _ W)
      · rename_i e' z as o hit
        obtain ⟨ys, Ss, hpr⟩ := hp.ok it _ (itemAt_eq _ _ hit (by simp))
        obtain ⟨hn, rfl, _⟩ := hx
        rcases hpr.row.2 with ⟨hsl, h0⟩ | ⟨g, cap, cur, hsl, _⟩
        · rw [hsl]; exact Gives.mk hh (show RelC E (.i _ _) (goInt (0 : Nat)) from by rw [h0]; rfl) (fun W _ => run_len_sl hu _ _ _ W)
        · rw [hsl]; exact Gives.mk hh (show RelC E (.i _ _) (goInt _) from rfl) (fun W _ => run_len_sl hu _ _ _ W)
    · obtain ⟨_, c, rfl, _⟩ := hx
      exact Gives.mk hh (show RelC E (.i _ _) (goInt _) from rfl) (fun W _ => run_len_sl hu _ _ _ W)
    · rename_i _ off n _
      obtain ⟨_, A, m, c, _, _, rfl⟩ := hx
      exact Gives.mk hh (show RelC E (.i _ _) (goInt ((off + n - off : Nat) : Int)) from by rw [Nat.add_sub_cancel_left]; rfl) (fun W _ => run_len_sl hu _ _ _ W)
    · have : u = .slice none 0 0 := hx.1
      subst this
      exact Gives.mk hh (show RelC E (.il _ _) (goInt (0 : Nat)) from rfl) (fun W _ => run_len_sl hu _ _ _ W)
    · rename_i a n c _
      have : u = .slice a n c := hx.1
      subst this
      exact Gives.mk hh (show RelC E (.i _ _) (goInt _) from rfl) (fun W _ => run_len_sl hu _ _ _ W)
    · exact hh.elim
  · rename_i hkd
    have hu := mkKd_str (hkd'.symm.trans hkd)
    split at hh
    · rename_i s
      have : u = .string s := hx.1
      subst this
      exact Gives.mk hh (show RelC E (.i _ _) (goInt _) from rfl) (fun W _ => run_len_string W t ty s hu)
    · exact hh.elim
  · rename_i n e hkd
    have hu := mkKd_arr (hkd'.symm.trans hkd)
    exact Gives.mk hh (show RelC E (.il _ _) (goInt n) from rfl) (fun W _ => by cases u <;> simp [Builtin.len_, run_underlying hu])
  · exact hh.elim
end
end Go.Eng

/- The engine, part F: slices of slices; every operation that leaves the world alone, under one name; nothing of any program is proved here. -/
namespace Go.Eng
open Go Go.RowKit
set_option linter.unusedSimpArgs false
set_option linter.unusedVariables false
section
variable {P : Program} {T : Tab} (hT : TabOk P T) {E : Env} {h : List It} {w0 : Org} {w : World} {F : Nat → Prop} {rd : Nat → Bool}

/-- A bound of a slice: seen at once, or left to be shown. -/
def upto (l : Bool) (i : Int) (n : Nat) (p : Prop) : Prop :=
  match l with
  | true => (match i with | .ofNat j => when (Nat.ble j n) p | .negSucc _ => False)
  | false => (0 ≤ i ∧ i ≤ (n : Int)) ∧ p
theorem upto_iff {l : Bool} {i : Int} {n : Nat} {p : Prop} (h : upto l i n p) : (0 ≤ i ∧ i ≤ (n : Int)) ∧ p := by
  cases l with
  | false => exact h
  | true =>
    match i, h with
    | .ofNat j, h =>
      obtain ⟨h1, h2⟩ := when_iff h
      have : j ≤ n := Nat.le_of_ble_eq_true h1
      exact ⟨⟨Int.natCast_nonneg j, Int.ofNat_le.2 this⟩, h2⟩

def bnd : Option XV → Option (Option (Bool × Int))
  | none => some none
  | some (.c x) => (match asI x with | some (l, _, n) => some (some (l, n)) | none => none)
  | some _ => none

def sliceX (T : Tab) (t : TypeId) (x : XV) (lo hi : Option XV) (k : XV → Prop) : Prop :=
  match T t with
  | some ti => (match ti.kd with
    | .sl e => (match T e, x with
      | some ei, .c (.rs n z f) => when (Nat.beq z ei.size) (match bnd lo, bnd hi with
        | some none, some none => k (.c (.rs n z f))
        | some (some (_, l)), some none => (0 ≤ l ∧ l ≤ (n : Int)) ∧ k (.c (.rs (n - l.toNat) z fun i => f (l.toNat + i)))
        | some none, some (some (_, r)) => (0 ≤ r ∧ r ≤ (n : Int)) ∧ k (.c (.rs r.toNat z f))
        | some (some (_, l)), some (some (_, r)) => (0 ≤ l ∧ l ≤ r ∧ r ≤ (n : Int)) ∧ k (.c (.rs (r.toNat - l.toNat) z fun i => f (l.toNat + i)))
        | _, _ => False)
      | _, _ => False)
    | .str => (match x with
      | .c (.v (.string s)) => (match bnd lo, bnd hi with
        | some none, some none => k (.c (.v (.string (s.extract 0 s.size))))
        | some (some (_, l)), some none => (0 ≤ l ∧ l ≤ (s.size : Int)) ∧ k (.c (.v (.string (s.extract l.toNat s.size))))
        | some none, some (some (_, r)) => (0 ≤ r ∧ r ≤ (s.size : Int)) ∧ k (.c (.v (.string (s.extract 0 r.toNat))))
        | some (some (_, l)), some (some (_, r)) => (0 ≤ l ∧ l ≤ r ∧ r ≤ (s.size : Int)) ∧ k (.c (.v (.string (s.extract l.toNat r.toNat))))
        | _, _ => False)
      | _ => False)
    | .arr n e => (match T e, x, bnd lo, bnd hi with
      | some ei, .c (.p it off), some none, some none => when (Nat.blt 0 n) (k (.c (.sp it off n 0)))
      | some ei, .c (.p it off), some none, some (some (l, r)) => when (Nat.blt 0 n) (upto l r n (k (.c (.sp it off r.toNat (n - r.toNat)))))
      | _, _, _, _ => False)
    | _ => False)
  | none => False

/-- A slice of all three bounds, the last two alike: its capacity is its length. -/
def slice3X (T : Tab) (t : TypeId) (x : XV) (lo : Option XV) (hi mx : XV) (k : XV → Prop) : Prop :=
  match T t with
  | some ti => (match ti.kd with
    | .sl e => (match T e, x with
      | some ei, .c (.rs n z f) => when (Nat.beq z ei.size) (match bnd lo, bnd (some hi), bnd (some mx) with
        | some none, some (some (_, r)), some (some (_, m)) => (0 ≤ r ∧ r = m ∧ r ≤ (n : Int)) ∧ k (.c (.ts r.toNat z f))
        | some (some (_, l)), some (some (_, r)), some (some (_, m)) => (0 ≤ l ∧ l ≤ r ∧ r = m ∧ r ≤ (n : Int)) ∧ k (.c (.ts (r.toNat - l.toNat) z fun i => f (l.toNat + i)))
        | _, _, _ => False)
      | _, _ => False)
    | _ => False)
  | none => False

theorem bnd_some {E : Env} {x : Option XV} {u : Option Value} {l : Bool} {n : Int} (h : bnd x = some (some (l, n))) (hr : ∀ y, x = some y → ∃ v, u = some v ∧ RelV E y v) : ∃ kd, u = some (.int kd n) := by
  unfold bnd at h
  split at h
  · cases h
  · rename_i y
    split at h
    · rename_i l' kd n' e
      cases h
      obtain ⟨v, rfl, hv⟩ := hr _ rfl
      exact ⟨kd, by rw [asI_rel e hv]⟩
    · cases h
  · cases h
theorem bnd_none {x : Option XV} (h : bnd x = some none) : x = none := by
  unfold bnd at h
  split at h
  · rfl
  · split at h <;> cases h
  · cases h

theorem elem_sl {t e : TypeId} (hu : P.underlying t = some (.slice e)) : P.elem t = e := by simp [Program.elem, hu]

theorem rs_sub {n z : Nat} {f : Nat → Nat → XC} {A : Option Addr} {c l r : Nat} (hx : RelC E (.rs n z f) (.slice A n c)) (hlr : l ≤ r) (hr : r ≤ n) :
    RelC E (.rs (r - l) z fun i => f (l + i)) (sliced A l r c z) := by
  obtain ⟨A', c', e, hn, hm, hc⟩ := hx
  cases e
  refine ⟨_, c - l, rfl, by omega, by omega, fun i hi => ?_⟩
  obtain ⟨ad, rfl, hcell⟩ := hc (l + i) (by omega)
  rw [if_neg (by omega)]
  refine ⟨ad.add (l * z), rfl, fun j hj => ?_⟩
  obtain ⟨hb, v, hv, hrel⟩ := hcell j hj
  exact ⟨by rw [block_add]; exact hb, v, by rw [add_add, show l * z + (i * z + j) = (l + i) * z + j by rw [Nat.add_mul]; omega]; exact hv, hrel⟩

theorem ts_sub {n z : Nat} {f : Nat → Nat → XC} {A : Option Addr} {c l r : Nat} (hx : RelC E (.rs n z f) (.slice A n c)) (hlr : l ≤ r) (hr : r ≤ n) :
    RelC E (.ts (r - l) z fun i => f (l + i)) (sliced A l r r z) := by
  obtain ⟨A', c', e, hn, hm, hc⟩ := hx
  cases e
  refine ⟨_, rfl, by omega, fun i hi => ?_⟩
  obtain ⟨ad, rfl, hcell⟩ := hc (l + i) (by omega)
  rw [if_neg (by omega)]
  refine ⟨ad.add (l * z), rfl, fun j hj => ?_⟩
  obtain ⟨hb, v, hv, hrel⟩ := hcell j hj
  exact ⟨by rw [block_add]; exact hb, v, by rw [add_add, show l * z + (i * z + j) = (l + i) * z + j by rw [Nat.add_mul]; omega]; exact hv, hrel⟩

include hT in
theorem slice3X_sound {S : World → Prop} {t : TypeId} {x hi mx : XV} {u uh um : Value} {lo : Option XV} {ul : Option Value} {k : XV → Prop} (hh : slice3X T t x lo hi mx k) (hx : RelV E x u)
    (hl : ∀ y, lo = some y → ∃ v, ul = some v ∧ RelV E y v) (hl0 : lo = none → ul = none) (hr : RelV E hi uh) (hm : RelV E mx um) :
    Gives P S (Instr.sliceAt t u ul (some uh) (some um)) E k := by
  unfold slice3X at hh
  split at hh
  case h_2 => exact hh.elim
  rename_i ti ht
  have hkd' := (TIs.of (hT _ _ ht)).kd
  split at hh
  case h_2 => exact hh.elim
  rename_i e hkd
  have hu := mkKd_sl (hkd'.symm.trans hkd)
  have hel := elem_sl hu
  have hu' : P.underlying t = some (.slice (P.elem t)) := by rw [hel]; exact hu
  split at hh
  case h_2 => exact hh.elim
  rename_i ei n z f hte
  have hs := TIs.of (hT _ _ hte)
  replace hh := when_iff hh
  obtain ⟨hz, hh⟩ := hh
  have hz := Nat.eq_of_beq_eq_true hz
  have hx' := hx
  obtain ⟨A, c, rfl, hnc, _, hc⟩ := hx
  have sz : ∀ W, (sizeOf (P.elem t)).run P W = .ok z W := fun W => by rw [hel, run_size hs, hz]
  split at hh
  · rename_i b r b' m e1 e2 e3
    have e1 := hl0 (bnd_none e1); subst e1
    obtain ⟨kd, e2⟩ := bnd_some (E := E) (u := some uh) e2 (fun y hy => by cases hy; exact ⟨_, rfl, hr⟩)
    obtain ⟨kd', e3⟩ := bnd_some (E := E) (u := some um) e3 (fun y hy => by cases hy; exact ⟨_, rfl, hm⟩)
    cases e2; cases e3
    obtain ⟨⟨h0, rfl, hin⟩, hk⟩ := hh
    have hsub := ts_sub (l := 0) (r := r.toNat) hx' (Nat.zero_le _) (by omega)
    simp only [Nat.zero_add, Nat.sub_zero] at hsub
    refine Gives.mk hk hsub (fun W _ => ?_)
    rw [run_sliceAt_slice W t _ _ _ _ hu', run_slice_hm W t A n c hu' kd kd' r r h0 (Int.le_refl _) (by omega), sz]; rfl
  · rename_i b l b' r b'' m e1 e2 e3
    obtain ⟨kd0, rfl⟩ := bnd_some (E := E) e1 hl
    obtain ⟨kd, e2⟩ := bnd_some (E := E) (u := some uh) e2 (fun y hy => by cases hy; exact ⟨_, rfl, hr⟩)
    obtain ⟨kd', e3⟩ := bnd_some (E := E) (u := some um) e3 (fun y hy => by cases hy; exact ⟨_, rfl, hm⟩)
    cases e2; cases e3
    obtain ⟨⟨h0, h1, rfl, hin⟩, hk⟩ := hh
    refine Gives.mk hk (ts_sub (l := l.toNat) (r := r.toNat) hx' (by omega) (by omega)) (fun W _ => ?_)
    rw [run_sliceAt_slice W t _ _ _ _ hu', run_slice_lhm W t A n c hu' kd0 kd kd' l r r h0 h1 (Int.le_refl _) (by omega), sz]; rfl
  · exact hh.elim

include hT in
theorem sliceX_sound {S : World → Prop} {t : TypeId} {x : XV} {u : Value} {lo hi : Option XV} {ul uh : Option Value} {k : XV → Prop} (hh : sliceX T t x lo hi k) (hx : RelV E x u)
    (hl : ∀ y, lo = some y → ∃ v, ul = some v ∧ RelV E y v) (hl0 : lo = none → ul = none) (hr : ∀ y, hi = some y → ∃ v, uh = some v ∧ RelV E y v) (hr0 : hi = none → uh = none) :
    Gives P S (Instr.sliceAt t u ul uh none) E k := by
  unfold sliceX at hh
  split at hh
  case h_2 => exact hh.elim
  rename_i ti ht
  have hkd' := (TIs.of (hT _ _ ht)).kd
  split at hh
  · rename_i e hkd
    have hu := mkKd_sl (hkd'.symm.trans hkd)
    have hel := elem_sl hu
    have hu' : P.underlying t = some (.slice (P.elem t)) := by rw [hel]; exact hu
    split at hh
    case h_2 => exact hh.elim
    rename_i ei n z f hte
    have hs := TIs.of (hT _ _ hte)
    replace hh := when_iff hh
    obtain ⟨hz, hh⟩ := hh
    have hz := Nat.eq_of_beq_eq_true hz
    have hx' := hx
    obtain ⟨A, c, rfl, hnc, hm, hc⟩ := hx
    have sz : ∀ W, (sizeOf (P.elem t)).run P W = .ok z W := fun W => by rw [hel, run_size hs, hz]
    split at hh
    · rename_i e1 e2
      have e1 := hl0 (bnd_none e1); have e2 := hr0 (bnd_none e2); subst e1; subst e2
      refine Gives.mk hh hx' (fun W _ => ?_)
      rw [run_sliceAt_slice W t _ _ _ _ hu', run_slice_all W t A n c hu', sz]
      by_cases hc0 : c = 0
      · simp [sliced, hc0]
      · cases A <;> simp [sliced, hc0, Addr.add_zero']
    · rename_i b l e1 e2
      obtain ⟨kd, rfl⟩ := bnd_some (E := E) e1 hl
      have e2 := hr0 (bnd_none e2); subst e2
      obtain ⟨hin, hk⟩ := hh
      refine Gives.mk hk (rs_sub (l := l.toNat) (r := n) hx' (by omega) (Nat.le_refl _)) (fun W _ => ?_)
      rw [run_sliceAt_slice W t _ _ _ _ hu', run_slice_l W t A n c hu' kd l hin.1 hin.2, sz]; rfl
    · rename_i b r e1 e2
      have e1 := hl0 (bnd_none e1); subst e1
      obtain ⟨kd, rfl⟩ := bnd_some (E := E) e2 hr
      obtain ⟨hin, hk⟩ := hh
      have hsub := rs_sub (l := 0) (r := r.toNat) hx' (Nat.zero_le _) (by omega)
      simp only [Nat.zero_add, Nat.sub_zero] at hsub
      refine Gives.mk hk hsub (fun W _ => ?_)
      rw [run_sliceAt_slice W t _ _ _ _ hu', run_slice_h W t A n c hu' kd r hin.1 (by omega), sz]; rfl
    · rename_i b l b' r e1 e2
      obtain ⟨kd, rfl⟩ := bnd_some (E := E) e1 hl
      obtain ⟨kd', rfl⟩ := bnd_some (E := E) e2 hr
      obtain ⟨hin, hk⟩ := hh
      refine Gives.mk hk (rs_sub (l := l.toNat) (r := r.toNat) hx' (by omega) (by omega)) (fun W _ => ?_)
      rw [run_sliceAt_slice W t _ _ _ _ hu', run_slice_lh W t A n c hu' kd kd' l r hin.1 hin.2.1 (by omega), sz]; rfl
    · exact hh.elim
  · rename_i hkd
    have hu := mkKd_str (hkd'.symm.trans hkd)
    split at hh
    case h_2 => exact hh.elim
    rename_i s
    have : u = .string s := hx.1
    subst this
    have run : ∀ (l r : Nat) (W : World), (Instr.sliceBounds false s.size s.size ul uh none).run P W = .ok (l, r, s.size) W → (Instr.sliceAt t (.string s) ul uh none).run P W = .ok (.string (s.extract l r)) W := fun l r W hb => by
      rw [run_sliceAt_string W t _ _ _ _ hu]
      simp [Instr.slice, run_underlying hu, hb]
    have bd : ∀ (kd : IntKind) (i : Int) (y : Nat) (code : BoundsCode) (W : World), 0 ≤ i → i ≤ (y : Int) → (Instr.sliceBound (.int kd i) y code).run P W = .ok i.toNat W := fun kd i y code W h0 h1 => run_sliceBound W kd i y code h0 h1
    split at hh
    · rename_i e1 e2
      have e1 := hl0 (bnd_none e1); have e2 := hr0 (bnd_none e2); subst e1; subst e2
      exact Gives.mk hh (show RelC E (.v _) _ from ⟨rfl, rfl⟩) (fun W _ => run _ _ W (by simp [Instr.sliceBounds]))
    · rename_i b l e1 e2
      obtain ⟨kd, rfl⟩ := bnd_some (E := E) e1 hl
      have e2 := hr0 (bnd_none e2); subst e2
      obtain ⟨hin, hk⟩ := hh
      exact Gives.mk hk (show RelC E (.v _) _ from ⟨rfl, rfl⟩) (fun W _ => run _ _ W (by simp [Instr.sliceBounds, bd _ _ _ _ _ hin.1 hin.2]))
    · rename_i b r e1 e2
      have e1 := hl0 (bnd_none e1); subst e1
      obtain ⟨kd, rfl⟩ := bnd_some (E := E) e2 hr
      obtain ⟨hin, hk⟩ := hh
      exact Gives.mk hk (show RelC E (.v _) _ from ⟨rfl, rfl⟩) (fun W _ => run _ _ W (by simp [Instr.sliceBounds, bd _ _ _ _ _ hin.1 hin.2]))
    · rename_i b l b' r e1 e2
      obtain ⟨kd, rfl⟩ := bnd_some (E := E) e1 hl
      obtain ⟨kd', rfl⟩ := bnd_some (E := E) e2 hr
      obtain ⟨hin, hk⟩ := hh
      exact Gives.mk hk (show RelC E (.v _) _ from ⟨rfl, rfl⟩) (fun W _ => run _ _ W (by
        simp [Instr.sliceBounds, bd kd' r s.size _ W (by omega) hin.2.2, bd kd l r.toNat _ W hin.1 (by omega)]))
    · exact hh.elim
  · rename_i n e hkd
    have hu := mkKd_arr (hkd'.symm.trans hkd)
    have hel : P.elem t = e := by simp [Program.elem, hu]
    have hln : P.arrayLen t = n := by simp [Program.arrayLen, hu]
    split at hh
    · rename_i ei it off hte e1 e2
      have hs := TIs.of (hT _ _ hte)
      replace hh := when_iff hh
      obtain ⟨hn, hh⟩ := hh
      have e1 := hl0 (bnd_none e1); have e2 := hr0 (bnd_none e2); subst e1; subst e2
      obtain ⟨hlt, rfl⟩ := hx
      refine Gives.mk hh (show RelC E (.sp it off n 0) (.slice (some ⟨E.blk it, off, none⟩) n n) from ⟨hlt, n, rfl, Nat.le_refl _, rfl⟩) (fun W _ => ?_)
      simp only [Instr.sliceAt, Sem.run_bind, run_underlying hu, Result.andThen_ok, Instr.sureAddr, Sem.run_pure, Instr.sliceBounds, run_size hs]
      simp [Addr.add_zero', show n ≠ 0 by have : 0 + 1 ≤ n := by simpa [Nat.blt, Nat.ble_eq] using hn
                                          omega]
    · rename_i ei it off l r hte e1 e2
      have hs := TIs.of (hT _ _ hte)
      replace hh := when_iff hh
      obtain ⟨hn, hh⟩ := hh
      have e1 := hl0 (bnd_none e1); subst e1
      obtain ⟨kd, rfl⟩ := bnd_some (E := E) e2 hr
      obtain ⟨hin, hk⟩ := upto_iff hh
      obtain ⟨hlt, rfl⟩ := hx
      refine Gives.mk hk (show RelC E (.sp it off r.toNat (n - r.toNat)) (.slice (some ⟨E.blk it, off, none⟩) r.toNat n) from ⟨hlt, n, rfl, by omega, by omega⟩) (fun W _ => ?_)
      simp only [Instr.sliceAt, Sem.run_bind, run_underlying hu, Result.andThen_ok, Instr.sureAddr, Sem.run_pure, Instr.sliceBounds, run_sliceBound W kd r n .sliceAlen hin.1 hin.2, run_size hs]
      simp [Addr.add_zero', run_sliceBound W kd r n .sliceAlen hin.1 hin.2, show n ≠ 0 by have : 0 + 1 ≤ n := by simpa [Nat.blt, Nat.ble_eq] using hn
                                                                                          omega]
    · exact hh.elim
  · exact hh.elim

def maxX (mx : Bool) (x y : XV) (k : XV → Prop) : Prop :=
  match x, y with
  | .c x, .c y => (match asI x, asI y with
    | some (l1, k1, a), some (l2, _, b) => (match mx with
      | true => k (.c (ofI (l1 && l2) k1 (if b > a then b else a)))
      | false => k (.c (ofI (l1 && l2) k1 (if b < a then b else a))))
    | _, _ => False)
  | _, _ => False
theorem maxX_sound {S : World → Prop} {mx : Bool} {x y : XV} {u v : Value} {k : XV → Prop} (hh : maxX mx x y k) (hx : RelV E x u) (hy : RelV E y v) (ts : Array TypeId) (t : TypeId) :
    Gives P S (if mx then Builtin.max_ ts t #[u, v] else Builtin.min_ ts t #[u, v]) E k := by
  unfold maxX at hh
  split at hh
  case h_2 => exact hh.elim
  split at hh
  case h_2 => exact hh.elim
  rename_i e1 e2
  have e1 := asI_rel e1 hx; have e2 := asI_rel e2 hy; subst e1; subst e2
  cases mx
  · exact Gives.mk hh (ofI_rel E _ _ _) (fun W _ => by simpa using run_min_int2 W ts t _ _ _ _)
  · exact Gives.mk hh (ofI_rel E _ _ _) (fun W _ => by simpa using run_max_int2 W ts t _ _ _ _)

def nilX (x : XV) (k : XV → Prop) : Prop :=
  match x with
  | .c (.p a b) => k (.c (.p a b))
  | .c (.ep m f) => k (.c (.ep m f))
  | .c (.q a b c d) => k (.c (.q a b c d))
  | .c (.fn f n c) => k (.c (.fn f n c))
  | .c (.v (.func (.func f) fs cs)) => k (.c (.v (.func (.func f) fs cs)))
  | _ => False

/-- Captured values. -/
def capsX : List XV → Option (List XC)
  | [] => some []
  | .c x :: l => (match capsX l with | some r => some (x :: r) | none => none)
  | _ :: _ => none
def nthC (l : List XC) (i : Nat) : XC := match l, i with
  | [], _ => .un
  | a :: _, 0 => a
  | _ :: l, n + 1 => nthC l n

def callX (T : Tab) (ts : List XV) (h : List It) (c : Call) (k : XV → Prop) : Prop :=
  match c.callee, c.args.toList, c.argTypes.toList with
  | .builtin .len, [x], [t] => lenX T t (opv ts x) h k
  | .builtin .max, [x, y], _ => maxX true (opv ts x) (opv ts y) k
  | .builtin .min, [x, y], _ => maxX false (opv ts x) (opv ts y) k
  | _, _, _ => False

/-- What an operation that leaves the world alone yields. -/
def valX (T : Tab) (ts : List XV) (h : List It) (rd : Nat → Bool) (op : Op) (k : XV → Prop) : Prop :=
  match op with
  | .move x | .assign x => k (opv ts x)
  | .pick c a b => (match opv ts c with
    | .c .bt => k (opv ts a)
    | .c .bf => k (opv ts b)
    | .c (.b x) => (x = true → k (opv ts a)) ∧ (x = false → k (opv ts b))
    | _ => False)
  | .build t ps => buildX T t (ps.toList.map fun p => (p.1, opv ts p.2)) k
  | .load t a => loadX T t (opv ts a) h rd k
  | .nilCheck x => nilX (opv ts x) k
  | .binOp op t x y _ => binX T op t (opv ts x) (opv ts y) k
  | .unOp op _ x => unX op (opv ts x) k
  | .convert s d x => convX T s d (opv ts x) k
  | .slice t x lo hi none => sliceX T t (opv ts x) (lo.map (opv ts)) (hi.map (opv ts)) k
  | .slice t x lo (some hi) (some mx) => slice3X T t (opv ts x) (lo.map (opv ts)) (opv ts hi) (opv ts mx) k
  | .fieldAddr s x f => faddrX T s (opv ts x) f k
  | .field s x f => fieldX T s (opv ts x) f k
  | .indexAddr t x i => iaddrX T t (opv ts x) (opv ts i) h k
  | .index t x i => indexX T t (opv ts x) (opv ts i) k
  | .extract x i => extractX (opv ts x) i k
  | .makeFunc (.func f) first caps => (match first.toList, capsX (caps.toList.map (opv ts)) with
    | [], some l => forceL l fun l => k (.c (.fn f l.length (nthC l)))
    | _, _ => False)
  | .call c => callX T ts h c k
  | _ => False

theorem capsX_rel : ∀ {xs : List XV} {us : List Value} {l : List XC}, capsX xs = some l → (∀ (i : Nat) (x : XV) (u : Value), xs[i]? = some x → us[i]? = some u → RelV E x u) → xs.length = us.length → RelL E l us
  | [], [], l, e, _, _ => by simp [capsX] at e; subst e; trivial
  | .c x :: xs, u :: us, l, e, hh, hl => by
    unfold capsX at e
    split at e
    · rename_i r hr
      cases e
      exact ⟨hh 0 _ _ rfl rfl, capsX_rel hr (fun i x u hx hu => hh (i + 1) x u (by simpa using hx) (by simpa using hu)) (by simpa using hl)⟩
    · cases e
  | .un :: _, _, _, e, _, _ => by simp [capsX] at e
  | .a _ :: _, _, _, e, _, _ => by simp [capsX] at e
  | .t _ :: _, _, _, e, _, _ => by simp [capsX] at e
  | [], _ :: _, _, _, _, hl => by simp at hl
  | _ :: _, [], _, _, _, hl => by simp at hl

theorem nthC_eq : ∀ (l : List XC) (i : Nat) (x : XC), l[i]? = some x → nthC l i = x
  | _ :: _, 0, x, e => by simpa [nthC] using e
  | _ :: l, i + 1, x, e => by simpa [nthC] using nthC_eq l i x (by simpa using e)
  | [], _, _, e => by simp at e

theorem Gives.bind_pure {S : World → Prop} {s : Sem Value} {k : XV → Prop} (hg : Gives P S s E k) :
    ∃ x u, k x ∧ RelV E x u ∧ ∀ W, S W → (do let v ← s; pure (Next.value v) : Sem Next).run P W = .ok (.value u) W := by
  obtain ⟨x, u, hk, hr, hrun⟩ := hg
  exact ⟨x, u, hk, hr, fun W hW => by simp [hrun W hW]⟩

include hT in
theorem valX_sound {ts : List XV} {o : Oper} {a : Act} {k : XV → Prop} (hh : valX T ts h rd o.op k) (hr : RelTs E ts a.tmps.toList) (hp : Heap w0 F E h w) :
    ∃ x u, k x ∧ RelV E x u ∧ ∀ W, Same E h rd w W → (execOp a.eval o).run P W = .ok (.value u) W := by
  have ev := fun x => opv_rel (E := E) hr x
  unfold valX at hh
  unfold execOp
  split at hh <;> rename_i hop
  case h_19 => exact hh.elim
  all_goals (simp only [hop])
  · exact ⟨_, _, hh, ev _, fun W _ => rfl⟩
  · exact ⟨_, _, hh, ev _, fun W _ => rfl⟩
  · rename_i c x y
    have hc := ev c
    split at hh
    · rename_i e; rw [e] at hc
      have hc : a.eval c = .bool true := hc
      exact ⟨_, _, hh, ev x, fun W _ => by simp [hc, asBool]⟩
    · rename_i e; rw [e] at hc
      have hc : a.eval c = .bool false := hc
      exact ⟨_, _, hh, ev y, fun W _ => by simp [hc, asBool]⟩
    · rename_i b e; rw [e] at hc
      have hc : a.eval c = .bool b := hc
      cases b
      · exact ⟨_, _, hh.2 rfl, ev y, fun W _ => by simp [hc, asBool]⟩
      · exact ⟨_, _, hh.1 rfl, ev x, fun W _ => by simp [hc, asBool]⟩
    · exact hh.elim
  · rename_i t ps
    refine Gives.bind_pure (buildX_sound hT hh (by simp [Function.comp_def]) fun i x u hx hu => ?_)
    simp only [List.map_map, Array.toList_map] at hx hu
    simp only [List.getElem?_map, Option.map_eq_some_iff] at hx hu
    obtain ⟨p, hp', rfl⟩ := hx
    obtain ⟨p', hp'', rfl⟩ := hu
    rw [hp'] at hp''; cases hp''
    exact ev _
  · exact Gives.bind_pure (loadX_sound hT hh (ev _) hp)
  · rename_i x
    have hx := ev x
    unfold nilX at hh
    split at hh
    · rename_i e; rw [e] at hx
      have hx' : a.eval x = .pointer (some _) := hx.2
      exact ⟨_, _, hh, hx, fun W _ => by rw [hx']; rfl⟩
    · rename_i e; rw [e] at hx
      obtain ⟨ad, hx', _⟩ := id hx
      exact ⟨_, _, hh, hx, fun W _ => by rw [hx']; rfl⟩
    · rename_i e; rw [e] at hx
      obtain ⟨_, _, _, _, _, hx'⟩ := id hx
      exact ⟨_, _, hh, hx, fun W _ => by rw [hx']; rfl⟩
    · rename_i e; rw [e] at hx
      obtain ⟨vs, hx', _⟩ := id hx
      exact ⟨_, _, hh, hx, fun W _ => by rw [hx']; rfl⟩
    · rename_i e; rw [e] at hx
      have hx' := hx.1
      exact ⟨_, _, hh, hx, fun W _ => by rw [hx']; rfl⟩
    · exact hh.elim
  · exact Gives.bind_pure (binX_sound hT _ _ hh (ev _) (ev _))
  · exact Gives.bind_pure (unX_sound hh (ev _))
  · exact Gives.bind_pure (convX_sound hT hh (ev _))
  · rename_i t x lo hi
    refine Gives.bind_pure (sliceX_sound hT hh (ev x) ?_ ?_ ?_ ?_)
    · intro y hy; cases lo <;> simp at hy; subst hy; exact ⟨_, rfl, ev _⟩
    · intro hy; cases lo <;> simp at hy; rfl
    · intro y hy; cases hi <;> simp at hy; subst hy; exact ⟨_, rfl, ev _⟩
    · intro hy; cases hi <;> simp at hy; rfl
  · rename_i t x lo hi mx
    refine Gives.bind_pure (slice3X_sound hT hh (ev x) ?_ ?_ (ev hi) (ev mx))
    · intro y hy; cases lo <;> simp at hy; subst hy; exact ⟨_, rfl, ev _⟩
    · intro hy; cases lo <;> simp at hy; rfl
  · exact Gives.bind_pure (faddrX_sound hT hh (ev _))
  · exact Gives.bind_pure (fieldX_sound hT hh (ev _))
  · exact Gives.bind_pure (iaddrX_sound hT hh (ev _) (ev _) hp)
  · exact Gives.bind_pure (indexX_sound hT hh (ev _) (ev _))
  · exact Gives.bind_pure (extractX_sound hh (ev _))
  · rename_i f first caps
    split at hh
    · rename_i l e1 e2
      rw [forceL_eq] at hh
      have hfirst : first = #[] := by cases first; simpa using e1
      subst hfirst
      have hl := capsX_rel (E := E) (us := (caps.map a.eval).toList) e2 (fun i x u hx hu => by
        simp only [Array.toList_map, List.getElem?_map, Option.map_eq_some_iff] at hx hu
        obtain ⟨p, hp', rfl⟩ := hx
        obtain ⟨p', hp'', rfl⟩ := hu
        rw [hp'] at hp''; cases hp''
        exact ev _) (by simp)
      refine ⟨_, .func (.func f) #[] (caps.map a.eval), hh, ?_, fun W _ => ?_⟩
      · have hlen : (caps.map a.eval).size = l.length := by rw [← Array.length_toList]; exact hl.len.symm
        refine ⟨_, rfl, hlen, fun j hj => ?_⟩
        obtain ⟨v, hv, hrel⟩ := hl.get j (List.getElem?_eq_getElem hj)
        exact ⟨v, by simpa using hv, by rw [nthC_eq l j _ (List.getElem?_eq_getElem hj)]; exact hrel⟩
      · simp [Instr.makeFunc]
    · exact hh.elim
  · rename_i c
    obtain ⟨callee, args, argTypes⟩ := c
    unfold callX at hh
    simp only at hh
    split at hh
    · rename_i x t e2 e3
      obtain rfl : args = #[x] := by cases args; simpa using e2
      obtain rfl : argTypes = #[t] := by cases argTypes; simpa using e3
      have hg := Gives.bind_pure (lenX_sound (ty := o.type) hT hh (ev x) hp (S := Same E h rd w))
      simpa [resolve, invoke, builtin] using hg
    · rename_i x y e2
      obtain rfl : args = #[x, y] := by cases args; simpa using e2
      have hg := Gives.bind_pure (maxX_sound (P := P) hh (ev x) (ev y) argTypes o.type (S := Same E h rd w))
      simpa [resolve, invoke, builtin] using hg
    · rename_i x y e2
      obtain rfl : args = #[x, y] := by cases args; simpa using e2
      have hg := Gives.bind_pure (maxX_sound (P := P) hh (ev x) (ev y) argTypes o.type (S := Same E h rd w))
      simpa [resolve, invoke, builtin] using hg
    · exact hh.elim
end
end Go.Eng
