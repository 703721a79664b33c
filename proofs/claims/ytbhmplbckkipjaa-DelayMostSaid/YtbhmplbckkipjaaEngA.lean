/- The engine, part A: abstract values, owned blocks, what they say of memory; nothing of any program is proved here. -/
import Derived.WalkKit
import Derived.WalkLawsBesides
import Derived.Maps.AppendAt
import Derived.Orders
import Derived.Deep.Quiet
namespace Go.Eng
open Go Go.RowKit

/-- One cell, as far as it is known. -/
inductive XC where
  | un
  | il (k : IntKind) (n : Int)
  | i (k : IntKind) (n : Int)
  | bt
  | bf
  | b (x : Bool)
  | p (it off : Nat)
  | ep (m : Nat) (f : Nat → XC)
  | rs (n z : Nat) (f : Nat → Nat → XC)
  | ow (it : Nat)
  | q (it i z off : Nat)
  | sp (it off n z : Nat)
  | mp (it : Nat)
  | fn (f n : Nat) (caps : Nat → XC)
  | v (x : Value)

inductive XW where
  | c (x : XC)
  | a (l : List XC)

/-- What a slot holds. -/
inductive XV where
  | un
  | c (x : XC)
  | a (l : List XC)
  | t (l : List XW)

structure Base where
  wb : World
  B : Nat → Prop
/-- What is owned behind a value, in words of its own: it hangs on the blocks S, and on memory that doesn't turn. -/
structure Abs where
  is : Base → Value → (Nat → Prop) → World → Prop
  one : ∀ {bs v S w}, is bs v S w → v.oneCell' = true
  st : ∀ {bs bs' : Base} {v : Value} {S : Nat → Prop} {w w' : World}, (∀ b, bs.B b → bs'.B b ∧ bs'.wb.heap[b]? = bs.wb.heap[b]?) → (∀ b, S b → w'.heap[b]? = w.heap[b]?) → is bs v S w → is bs' v S w'

structure Env where
  bs : Base
  n : Nat
  blk : Nat → Nat
  sl : Nat → Value
  ext : Nat → Nat → Prop

def Base.ok (b : Base) (w : World) : Prop := ∀ k, b.B k → k < w.heap.size ∧ w.heap[k]? = b.wb.heap[k]?

/-- A cell of which memory that turns says nothing. -/
def St : XC → Prop
  | .p _ _ | .ow _ | .q _ _ _ _ | .sp _ _ _ _ | .mp _ | .fn _ _ _ => False
  | _ => True

def RelC (E : Env) : XC → Value → Prop
  | .un, v => v.oneCell' = true
  | .il k n, v => v = .int k n
  | .i k n, v => v = .int k n
  | .bt, v => v = .bool true
  | .bf, v => v = .bool false
  | .b x, v => v = .bool x
  | .p it off, v => it < E.n ∧ v = .pointer (some ⟨E.blk it, off, none⟩)
  | .ep m f, v => ∃ ad : Addr, v = .pointer (some ad) ∧ ∀ j, j < m → E.bs.B ad.block ∧ ∃ u, E.bs.wb.cell? (ad.add j) = some u ∧ St (f j) ∧ RelC E (f j) u
  | .rs n z f, v => ∃ (A : Option Addr) (c : Nat), v = .slice A n c ∧ n ≤ c ∧ c ≤ maxLen ∧
      ∀ i, i < n → ∃ ad, A = some ad ∧ ∀ j, j < z → E.bs.B ad.block ∧ ∃ u, E.bs.wb.cell? (ad.add (i * z + j)) = some u ∧ St (f i j) ∧ RelC E (f i j) u
  | .ow it, v => it < E.n ∧ v = E.sl it ∧ v.oneCell' = true
  | .q it i z off, v => it < E.n ∧ ∃ g n c, E.sl it = .slice (some ⟨g, 0, none⟩) n c ∧ v = .pointer (some ⟨g, i * z + off, none⟩)
  | .sp it off n _, v => it < E.n ∧ ∃ c, v = .slice (some ⟨E.blk it, off, none⟩) n c ∧ n ≤ c
  | .mp it, v => it < E.n ∧ v = .map (some (E.blk it))
  | .fn f n caps, v => ∃ vs : Array Value, v = .func (.func f) #[] vs ∧ vs.size = n ∧ ∀ j, j < n → ∃ u, vs[j]? = some u ∧ RelC E (caps j) u
  | .v x, v => v = x ∧ x.oneCell' = true

def stB : XC → Bool
  | .p _ _ | .ow _ | .q _ _ _ _ | .sp _ _ _ _ | .mp _ | .fn _ _ _ => false
  | _ => true
theorem stB_iff {x : XC} (h : stB x = true) : St x := by cases x <;> first | trivial | simp [stB] at h
def RelL (E : Env) : List XC → List Value → Prop
  | [], [] => True
  | x :: xs, v :: vs => RelC E x v ∧ RelL E xs vs
  | _, _ => False

def RelW (E : Env) : XW → Value → Prop
  | .c x, v => RelC E x v
  | .a l, v => ∃ vs : Array Value, v = .agg vs ∧ RelL E l vs.toList

def RelWs (E : Env) : List XW → List Value → Prop
  | [], [] => True
  | x :: xs, v :: vs => RelW E x v ∧ RelWs E xs vs
  | _, _ => False

def RelV (E : Env) : XV → Value → Prop
  | .un, _ => True
  | .c x, v => RelC E x v
  | .a l, v => ∃ vs : Array Value, v = .agg vs ∧ RelL E l vs.toList
  | .t l, v => ∃ vs : Array Value, v = .tuple vs ∧ RelWs E l vs.toList

def RelTs (E : Env) : List XV → List Value → Prop
  | [], [] => True
  | x :: xs, v :: vs => RelV E x v ∧ RelTs E xs vs
  | _, _ => False

/-- What is owned behind some cells, in words of its own. 'pk': what is known of them whatever else turns; 'fz': what is known once all that is owned turns no more. -/
structure AbsL where
  is : Base → List Value → (Nat → Prop) → World → Prop
  one : ∀ {bs vs S w}, is bs vs S w → ∀ v ∈ vs, v.oneCell' = true
  st : ∀ {bs bs' : Base} {vs : List Value} {S : Nat → Prop} {w w' : World}, (∀ b, bs.B b → bs'.B b ∧ bs'.wb.heap[b]? = bs.wb.heap[b]?) → (∀ b, S b → w'.heap[b]? = w.heap[b]?) → is bs vs S w → is bs' vs S w'
  pk : List XC
  pkSt : ∀ x ∈ pk, St x
  pkOk : ∀ {bs vs S w}, is bs vs S w → ∀ E : Env, (∀ b, bs.B b → E.bs.B b ∧ E.bs.wb.heap[b]? = bs.wb.heap[b]?) → RelL E pk vs
  fz : List XC
  fzSt : ∀ x ∈ fz, St x
  fzOk : ∀ {bs vs S w}, is bs vs S w → ∀ E : Env, (∀ b, bs.B b → E.bs.B b ∧ E.bs.wb.heap[b]? = bs.wb.heap[b]?) → (∀ b, S b → E.bs.B b ∧ E.bs.wb.heap[b]? = w.heap[b]?) → RelL E fz vs

/-- A block that the run owns. -/
inductive It where
  | dead
  | cells (ty : TypeId) (cs : List XC)
  | row (e : TypeId) (z : Nat) (xs : List (List XC))
  | obj (Φ : Obj → Prop)
  | abs (A : Abs)
  | held (vs : List Value) (xs : List XV)
  | prow (e : TypeId) (z : Nat) (as : List AbsL) (o : Option (Nat × List XC))

theorem RelC.one {E : Env} {x : XC} {v : Value} (h : RelC E x v) : v.oneCell' = true := by
  cases x <;> simp only [RelC] at h
  case un => exact h
  case ep m f => obtain ⟨ad, rfl, _⟩ := h; rfl
  case rs n z f => obtain ⟨A, c, rfl, _⟩ := h; rfl
  case ow it => exact h.2.2
  case q it i z off => obtain ⟨_, g, n, c, _, rfl⟩ := h; rfl
  case sp it off n z => obtain ⟨_, c, rfl, _⟩ := h; rfl
  case fn f n caps => obtain ⟨vs, rfl, _⟩ := h; rfl
  case v x => rw [h.1]; exact h.2
  case p => obtain ⟨_, rfl⟩ := h; rfl
  case mp => obtain ⟨_, rfl⟩ := h; rfl
  all_goals (subst h; rfl)

theorem RelL.len {E : Env} : ∀ {l : List XC} {vs : List Value}, RelL E l vs → l.length = vs.length
  | [], [], _ => rfl
  | _ :: _, _ :: _, h => by simp [RelL.len h.2]
  | [], _ :: _, h => h.elim
  | _ :: _, [], h => h.elim

theorem RelL.get {E : Env} : ∀ {l : List XC} {vs : List Value} (_ : RelL E l vs) (i : Nat) {x : XC}, l[i]? = some x → ∃ v, vs[i]? = some v ∧ RelC E x v
  | [], [], _, i, x, h => by simp at h
  | _ :: _, v :: _, h, 0, x, hx => by simp at hx; subst hx; exact ⟨v, rfl, h.1⟩
  | _ :: l, _ :: vs, h, i + 1, x, hx => by simpa using RelL.get h.2 i (by simpa using hx)

theorem RelL.get' {E : Env} {l : List XC} {vs : List Value} (h : RelL E l vs) (i : Nat) {v : Value} (hv : vs[i]? = some v) : ∃ x, l[i]? = some x ∧ RelC E x v := by
  have hlt : i < l.length := by rw [h.len]; exact (List.getElem?_eq_some_iff.1 hv).1
  obtain ⟨v', hv', hr⟩ := h.get i (List.getElem?_eq_getElem hlt)
  rw [hv] at hv'; cases hv'
  exact ⟨_, List.getElem?_eq_getElem hlt, hr⟩

theorem RelL.mk {E : Env} : ∀ {l : List XC} {vs : List Value}, l.length = vs.length → (∀ (i : Nat) (x : XC) (v : Value), l[i]? = some x → vs[i]? = some v → RelC E x v) → RelL E l vs
  | [], [], _, _ => trivial
  | x :: l, v :: vs, hl, h => ⟨h 0 x v rfl rfl, RelL.mk (by simpa using hl) fun i x v hx hv => h (i + 1) x v (by simpa using hx) (by simpa using hv)⟩
  | [], _ :: _, hl, _ => by simp at hl
  | _ :: _, [], hl, _ => by simp at hl

theorem RelL.all {E : Env} {l : List XC} {vs : List Value} (h : RelL E l vs) : ∀ u ∈ vs, u.oneCell' = true := by
  intro u hu
  obtain ⟨i, hi⟩ := List.mem_iff_getElem?.1 hu
  obtain ⟨x, _, hr⟩ := h.get' i hi
  exact hr.one

theorem RelL.append {E : Env} : ∀ {l l' : List XC} {vs vs' : List Value}, RelL E l vs → RelL E l' vs' → RelL E (l ++ l') (vs ++ vs')
  | [], _, [], _, _, h => h
  | _ :: _, _, _ :: _, _, h, h' => ⟨h.1, RelL.append h.2 h'⟩
  | [], _, _ :: _, _, h, _ => h.elim
  | _ :: _, _, [], _, h, _ => h.elim

theorem RelL.take {E : Env} : ∀ {l : List XC} {vs : List Value} (n : Nat), RelL E l vs → RelL E (l.take n) (vs.take n)
  | _, _, 0, _ => by simp [RelL]
  | [], [], n + 1, _ => by simp [RelL]
  | _ :: _, _ :: _, n + 1, h => ⟨h.1, RelL.take n h.2⟩
  | [], _ :: _, _ + 1, h => h.elim
  | _ :: _, [], _ + 1, h => h.elim

theorem RelL.drop {E : Env} : ∀ {l : List XC} {vs : List Value} (n : Nat), RelL E l vs → RelL E (l.drop n) (vs.drop n)
  | _, _, 0, h => h
  | [], [], n + 1, _ => by simp [RelL]
  | _ :: _, _ :: _, n + 1, h => RelL.drop n h.2
  | [], _ :: _, _ + 1, h => h.elim
  | _ :: _, [], _ + 1, h => h.elim

theorem RelTs.len {E : Env} : ∀ {l : List XV} {vs : List Value}, RelTs E l vs → l.length = vs.length
  | [], [], _ => rfl
  | _ :: _, _ :: _, h => by simp [RelTs.len h.2]
  | [], _ :: _, h => h.elim
  | _ :: _, [], h => h.elim

theorem RelTs.set {E : Env} : ∀ {l : List XV} {vs : List Value} (i : Nat) {x : XV} {v : Value}, RelTs E l vs → RelV E x v → RelTs E (l.set i x) (vs.set i v)
  | [], [], _, _, _, _, _ => trivial
  | _ :: _, _ :: _, 0, _, _, h, hx => ⟨hx, h.2⟩
  | _ :: _, _ :: _, i + 1, _, _, h, hx => ⟨h.1, RelTs.set i h.2 hx⟩
  | [], _ :: _, _, _, _, h, _ => h.elim
  | _ :: _, [], _, _, _, h, _ => h.elim

/-- The slot's content; 'un' beyond the end. -/
def get : List XV → Nat → XV
  | [], _ => .un
  | a :: _, 0 => a
  | _ :: l, n + 1 => get l n

theorem RelTs.get {E : Env} : ∀ {l : List XV} {vs : List Value}, RelTs E l vs → ∀ i, RelV E (Eng.get l i) (vs.getD i undef)
  | [], [], _, _ => trivial
  | _ :: _, _ :: _, h, 0 => h.1
  | _ :: l, _ :: vs, h, i + 1 => by simpa [Eng.get] using RelTs.get h.2 i
  | [], _ :: _, h, _ => h.elim
  | _ :: _, [], h, _ => h.elim

/-! ### forcing -/
def forceC (x : XC) (k : XC → Prop) : Prop :=
  match x with
  | .un => k .un | .il a n => k (.il a n) | .i a n => k (.i a n) | .bt => k .bt | .bf => k .bf | .b x => k (.b x) | .p a o => k (.p a o)
  | .ep m f => k (.ep m f) | .rs n z f => k (.rs n z f) | .ow it => k (.ow it) | .q a b c d => k (.q a b c d) | .sp a b c d => k (.sp a b c d) | .mp a => k (.mp a) | .fn a b c => k (.fn a b c) | .v x => k (.v x)
theorem forceC_eq (x : XC) (k : XC → Prop) : forceC x k = k x := by cases x <;> rfl

def forceL : List XC → (List XC → Prop) → Prop
  | [], k => k []
  | a :: l, k => forceC a fun a => forceL l fun l => k (a :: l)
theorem forceL_eq : ∀ (l : List XC) (k : List XC → Prop), forceL l k = k l
  | [], _ => rfl
  | a :: l, k => by simp only [forceL, forceC_eq, forceL_eq l]

def forceW (x : XW) (k : XW → Prop) : Prop :=
  match x with
  | .c x => forceC x fun x => k (.c x)
  | .a l => forceL l fun l => k (.a l)
theorem forceW_eq (x : XW) (k : XW → Prop) : forceW x k = k x := by cases x <;> simp only [forceW, forceC_eq, forceL_eq]
def forceWs : List XW → (List XW → Prop) → Prop
  | [], k => k []
  | a :: l, k => forceW a fun a => forceWs l fun l => k (a :: l)
theorem forceWs_eq : ∀ (l : List XW) (k : List XW → Prop), forceWs l k = k l
  | [], _ => rfl
  | a :: l, k => by simp only [forceWs, forceW_eq, forceWs_eq l]

def forceV (x : XV) (k : XV → Prop) : Prop :=
  match x with
  | .un => k .un
  | .c x => forceC x fun x => k (.c x)
  | .a l => forceL l fun l => k (.a l)
  | .t l => forceWs l fun l => k (.t l)
theorem forceV_eq (x : XV) (k : XV → Prop) : forceV x k = k x := by cases x <;> simp only [forceV, forceC_eq, forceL_eq, forceWs_eq]

def setK : List XV → Nat → XV → (List XV → Prop) → Prop
  | [], _, _, k => k []
  | _ :: l, 0, v, k => k (v :: l)
  | a :: l, n + 1, v, k => setK l n v fun l => k (a :: l)
theorem setK_eq : ∀ (l : List XV) (n : Nat) (v : XV) (k : List XV → Prop), setK l n v k = k (l.set n v)
  | [], _, _, _ => rfl
  | _ :: _, 0, _, _ => rfl
  | a :: l, n + 1, v, k => by simp only [setK, setK_eq l n, List.set_cons_succ]

/-! ### the whole state -/
def Ow (E : Env) (k : Nat) : It → Nat → Prop
  | .dead, _ => False
  | .cells _ _, b => E.blk k = b
  | .row _ _ _, b => (E.sl k).ownBlock = some b
  | .obj _, b => E.blk k = b
  | .abs _, b => E.ext k b
  | .prow _ _ _ _, b => E.ext k b
  | .held _ _, _ => False

/-- A row of which each element owns what lies behind it; 'o': the element that lies open, and its cells. -/
structure PRow (E : Env) (w : World) (k e z : Nat) (as : List AbsL) (o : Option (Nat × List XC)) (ys : List Value) (Ss : Nat → Nat → Prop) : Prop where
  row : w.ownsRow 0 e z (E.sl k) as.length ys
  el : ∀ (i : Nat) (a : AbsL), as[i]? = some a → (∀ cs, o ≠ some (i, cs)) → a.is E.bs ((ys.drop (i * z)).take z) (Ss i) w
  op : ∀ (i : Nat) (cs : List XC), o = some (i, cs) → i < as.length ∧ cs.length = z ∧ RelL E cs ((ys.drop (i * z)).take z)
  sep : ∀ i j b, Ss i b → Ss j b → i = j
  own : ∀ i b, Ss i b → E.ext k b ∧ (E.sl k).ownBlock ≠ some b
  blk : ∀ b, (E.sl k).ownBlock = some b → E.ext k b

def ItOk (E : Env) (w : World) (k : Nat) : It → Prop
  | .dead => True
  | .cells ty cs => ∃ vs : Array Value, w.heap[E.blk k]? = some (.cells vs ty (0, 0)) ∧ RelL E cs vs.toList
  | .row e z xs => ∃ ys : List Value, w.ownsRow 0 e z (E.sl k) xs.length ys ∧ RelL E xs.flatten ys ∧ (∀ l ∈ xs, l.length = z) ∧ ∀ x ∈ xs.flatten, St x
  | .obj Φ => ∃ o, w.heap[E.blk k]? = some o ∧ Φ o ∧ (o matches .cells ..) = false
  | .abs A => A.is E.bs (E.sl k) (E.ext k) w
  | .held vs xs => RelTs E xs vs
  | .prow e z as o => ∃ ys Ss, PRow E w k e z as o ys Ss

/-- Of what stood in the world w0, and isn't in F, nothing has turned. -/
structure Fr (F : Nat → Prop) (w0 w : World) : Prop where
  os : w.os = w0.os
  tape : w.tape = w0.tape
  output : w.output = w0.output
  size : w0.heap.size ≤ w.heap.size
  block : ∀ k, k < w0.heap.size → ¬ F k → w.heap[k]? = w0.heap[k]?

theorem Fr.refl (F : Nat → Prop) (w : World) : Fr F w w := ⟨rfl, rfl, rfl, Nat.le_refl _, fun _ _ _ => rfl⟩
theorem Fr.trans {F : Nat → Prop} {a b c : World} (h : Fr F a b) (k : Fr F b c) : Fr F a c :=
  ⟨k.os.trans h.os, k.tape.trans h.tape, k.output.trans h.output, Nat.le_trans h.size k.size, fun i hi hF => (k.block i (Nat.lt_of_lt_of_le hi h.size) hF).trans (h.block i hi hF)⟩
theorem Fr.below {w w' : World} (h : Fr (fun _ => False) w w') : Below w.heap.size w w' := ⟨h.os, h.tape, h.output, h.size, fun k hk => h.block k hk (fun x => x)⟩
theorem Fr.of_below {w w' : World} (F : Nat → Prop) (h : Below w.heap.size w w') : Fr F w w' := ⟨h.os, h.tape, h.output, h.size, fun k hk _ => h.block k hk⟩

def BsLe (a b : Base) : Prop := ∀ k, a.B k → b.B k ∧ b.wb.heap[k]? = a.wb.heap[k]?
theorem BsLe.refl (a : Base) : BsLe a a := fun _ h => ⟨h, rfl⟩
theorem BsLe.trans {a b c : Base} (h : BsLe a b) (k : BsLe b c) : BsLe a c := fun i hi => ⟨(k i (h i hi).1).1, (k i (h i hi).1).2.trans (h i hi).2⟩

/-- Where a run began: its world, and what was told of memory that doesn't turn. -/
structure Org where
  w : World
  bs : Base

structure Heap (w0 : Org) (F : Nat → Prop) (E : Env) (h : List It) (w : World) : Prop where
  bs : E.bs.ok w
  le : BsLe w0.bs E.bs
  nb : ∀ b, E.bs.B b → w0.bs.B b ∨ w0.w.heap.size ≤ b ∨ F b
  n : E.n = h.length
  ok : ∀ k x, h[k]? = some x → ItOk E w k x
  own : ∀ k x b, h[k]? = some x → Ow E k x b → b < w.heap.size ∧ ¬ E.bs.B b ∧ (w0.w.heap.size ≤ b ∨ F b)
  sep : ∀ j k x y b, h[j]? = some x → h[k]? = some y → Ow E j x b → Ow E k y b → j = k
  fr : Fr F w0.w w

/-- What is framed by the inner origin is framed by the outer one. -/
def Sub (w0 : Org) (F : Nat → Prop) (w1 : Org) (F1 : Nat → Prop) : Prop := w0.w.heap.size ≤ w1.w.heap.size ∧ ∀ E h w, Heap w1 F1 E h w → Heap w0 F E h w
theorem Sub.refl (w0 : Org) (F : Nat → Prop) : Sub w0 F w0 F := ⟨Nat.le_refl _, fun _ _ _ h => h⟩
theorem Sub.trans {w0 w1 w2 : Org} {F F1 F2 : Nat → Prop} (h : Sub w0 F w1 F1) (k : Sub w1 F1 w2 F2) : Sub w0 F w2 F2 := ⟨Nat.le_trans h.1 k.1, fun _ _ _ x => h.2 _ _ _ (k.2 _ _ _ x)⟩

/-- The mark of a loop over a function. -/
def markOf (b : Nat) : Deferred := { target := .collected b, args := #[] }
/-- The deferred calls of an activation are marks of loops over functions; their blocks lie behind the outer origin and are no part of what the inner one lets turn. -/
def Marks (w0 : Org) (w1 : Org) (F1 : Nat → Prop) (ds : List Deferred) : Prop :=
  ∃ bl : List Nat, bl.Nodup ∧ ds = bl.map markOf ∧ ∀ b ∈ bl, w0.w.heap.size ≤ b ∧ b < w1.w.heap.size ∧ ¬ F1 b ∧ ¬ w1.bs.B b ∧ w1.w.heap[b]? = some (.deferred (some []))
theorem Marks.nil (w0 w1 : Org) (F1 : Nat → Prop) : Marks w0 w1 F1 [] := ⟨[], List.nodup_nil, rfl, fun _ h => by simp at h⟩

/-- 'ts' and 'h' say what is in the slots of 'a' and in the world. -/
def Cfg (w0 : Org) (F : Nat → Prop) (ts : List XV) (h : List It) (a : Act) (w : World) : Prop :=
  ∃ w1 F1, Sub w0 F w1 F1 ∧ Marks w0 w1 F1 a.defers ∧ ∃ E, RelTs E ts a.tmps.toList ∧ Heap w1 F1 E h w
theorem Cfg.start {w0 : Org} {F : Nat → Prop} {ts : List XV} {h : List It} {a : Act} {w : World} {E : Env} (hd : a.defers = []) (hr : RelTs E ts a.tmps.toList) (hp : Heap w0 F E h w) : Cfg w0 F ts h a w :=
  ⟨w0, F, Sub.refl _ _, by rw [hd]; exact Marks.nil _ _ _, E, hr, hp⟩

end Go.Eng
