/- The engine, part C: operations that leave the world alone; nothing of any program is proved here. -/
import Derived.Test.YtbhmplbckkipjaaEngB
import Derived.WalkSpells
namespace Go.Eng
open Go Go.RowKit
set_option linter.unusedSimpArgs false
set_option linter.unusedVariables false

/-- In every world of S the computation yields one value, of which k knows enough. -/
def Gives (P : Program) (S : World → Prop) (s : Sem Value) (E : Env) (k : XV → Prop) : Prop :=
  ∃ x u, k x ∧ RelV E x u ∧ ∀ w, S w → s.run P w = .ok u w

theorem Gives.mk {P : Program} {S : World → Prop} {s : Sem Value} {E : Env} {k : XV → Prop} {x : XV} {u : Value} (hk : k x) (hr : RelV E x u) (h : ∀ w, S w → s.run P w = .ok u w) : Gives P S s E k := ⟨x, u, hk, hr, h⟩

def kNum : IntKind → Nat
  | .i8 => 0 | .i16 => 1 | .i32 => 2 | .i64 => 3 | .u8 => 4 | .u16 => 5 | .u32 => 6 | .u64 => 7
theorem kNum_inj {a b : IntKind} (h : kNum a = kNum b) : a = b := by cases a <;> cases b <;> simp [kNum] at h <;> rfl
/-- If the kinds are one. -/
def kIf (a b : IntKind) (p : Prop) : Prop := match Nat.beq (kNum a) (kNum b) with | true => p | false => False
theorem kIf_iff {a b : IntKind} {p : Prop} : kIf a b p → a = b ∧ p := by
  unfold kIf; split
  · rename_i h; intro hp; exact ⟨kNum_inj (Nat.eq_of_beq_eq_true h), hp⟩
  · exact False.elim
/-- If the closed test holds. -/
def when (b : Bool) (p : Prop) : Prop := match b with | true => p | false => False
theorem when_iff {b : Bool} {p : Prop} : when b p → b = true ∧ p := by cases b <;> simp [when]

def asI : XC → Option (Bool × IntKind × Int)
  | .il k n => some (true, k, n)
  | .i k n => some (false, k, n)
  | _ => none
def asB : XC → Option (Bool × Bool)
  | .bt => some (true, true)
  | .bf => some (true, false)
  | .b x => some (false, x)
  | _ => none
def asS : XC → Option ByteArray
  | .v (.string s) => some s
  | _ => none
theorem asI_rel {E : Env} {x : XC} {u : Value} {l : Bool} {k : IntKind} {n : Int} (h : asI x = some (l, k, n)) (hr : RelC E x u) : u = .int k n := by
  cases x <;> simp [asI] at h <;> (obtain ⟨_, rfl, rfl⟩ := h; exact hr)
theorem asB_rel {E : Env} {x : XC} {u : Value} {l b : Bool} (h : asB x = some (l, b)) (hr : RelC E x u) : u = .bool b := by
  cases x <;> simp [asB] at h <;> (obtain ⟨_, rfl⟩ := h; exact hr)
theorem asS_rel {E : Env} {x : XC} {u : Value} {s : ByteArray} (h : asS x = some s) (hr : RelC E x u) : u = .string s := by
  cases x <;> simp [asS] at h
  rename_i v
  cases v <;> simp [asS] at h
  subst h; exact hr.1

def ofI (l : Bool) (k : IntKind) (n : Int) : XC := match l with | true => .il k n | false => .i k n
def ofB (l : Bool) (x : Bool) : XC := match l with | true => (match x with | true => .bt | false => .bf) | false => .b x
theorem ofI_rel (E : Env) (l : Bool) (k : IntKind) (n : Int) : RelC E (ofI l k n) (.int k n) := by cases l <;> rfl
theorem ofB_rel (E : Env) (l x : Bool) : RelC E (ofB l x) (.bool x) := by cases l <;> cases x <;> rfl

def intBin (op : BinOp) (k : IntKind) (a b : Int) (l : Bool) (kk : XC → Prop) : Prop :=
  match op with
  | .add => kk (ofI l k (k.wrap (a + b)))
  | .sub => kk (ofI l k (k.wrap (a - b)))
  | .mul => kk (ofI l k (k.wrap (a * b)))
  | .and => kk (ofI l k (bits .and k a b))
  | .or => kk (ofI l k (bits .or k a b))
  | .xor => kk (ofI l k (bits .xor k a b))
  | .eql => kk (ofB l (a == b))
  | .neq => kk (ofB l (a != b))
  | .lss => kk (ofB l (decide (a < b)))
  | .leq => kk (ofB l (decide (a ≤ b)))
  | .gtr => kk (ofB l (decide (a > b)))
  | .geq => kk (ofB l (decide (a ≥ b)))
  | _ => False

/-- A divisor that isn't 0: seen at once, or left to be shown. -/
def notZero (l : Bool) (b : Int) (p : Prop) : Prop :=
  match l with
  | true => (match b with | .ofNat 0 => False | .ofNat (_ + 1) => p | .negSucc _ => p)
  | false => b ≠ 0 ∧ p
theorem notZero_iff {l : Bool} {b : Int} {p : Prop} (h : notZero l b p) : b ≠ 0 ∧ p := by
  cases l with
  | false => exact h
  | true =>
    match b, h with
    | .ofNat (n + 1), h => exact ⟨fun e => Int.noConfusion e (fun e => Nat.noConfusion e), h⟩
    | .negSucc n, h => exact ⟨fun e => Int.noConfusion e, h⟩

/-- A shift by a number that isn't below 0. -/
def notNeg (l : Bool) (b : Int) (p : Prop) : Prop :=
  match l with
  | true => (match b with | .ofNat _ => p | .negSucc _ => False)
  | false => 0 ≤ b ∧ p
theorem notNeg_iff {l : Bool} {b : Int} {p : Prop} (h : notNeg l b p) : 0 ≤ b ∧ p := by
  cases l with
  | false => exact h
  | true =>
    match b, h with
    | .ofNat n, h => exact ⟨Int.natCast_nonneg n, h⟩

/-- Places that may be asked: seen at once, or left to be shown. -/
def inside (l : Bool) (i : Int) (n : Nat) (p : Prop) : Prop :=
  match l with
  | true => (match i with | .ofNat j => when (Nat.blt j n) p | .negSucc _ => False)
  | false => (0 ≤ i ∧ i < (n : Int)) ∧ p
theorem inside_iff {l : Bool} {i : Int} {n : Nat} {p : Prop} (h : inside l i n p) : (0 ≤ i ∧ i < (n : Int)) ∧ p := by
  cases l with
  | false => exact h
  | true =>
    match i, h with
    | .ofNat j, h =>
      obtain ⟨h1, h2⟩ := when_iff h
      have : j + 1 ≤ n := by simpa [Nat.blt, Nat.ble_eq] using h1
      exact ⟨⟨Int.natCast_nonneg j, Int.ofNat_lt.2 this⟩, h2⟩

def binC (op : BinOp) (x y : XC) (k : XC → Prop) : Prop :=
  match asI x, asI y with
  | some (l1, k1, a), some (l2, k2, b) =>
    (match op with
    | .shl => notNeg l2 b (k (ofI (l1 && l2) k1 (k1.wrap (a * 2 ^ (min b.toNat k1.bits)))))
    | .shr => notNeg l2 b (k (ofI (l1 && l2) k1 (a.fdiv (2 ^ (min b.toNat k1.bits)))))
    | .quo => kIf k1 k2 (notZero l2 b (k (ofI (l1 && l2) k1 (k1.wrap (a.tdiv b)))))
    | .rem => kIf k1 k2 (notZero l2 b (k (ofI (l1 && l2) k1 (a.tmod b))))
    | op => kIf k1 k2 (intBin op k1 a b (l1 && l2) k))
  | _, _ =>
    match asS x, asS y with
    | some a, some b =>
      (match op with
      | .eql => k (.b (a == b))
      | .neq => k (.b (!(a == b)))
      | .add => (a.size + b.size ≤ maxLen) ∧ k (.v (.string (a ++ b)))
      | .lss => k (.b (Op.bytesLess a.toList b.toList))
      | _ => False)
    | _, _ => False

theorem eqGuard_int (op : BinOp) (t : TypeId) (x y : Operand) (k : IntKind) (n : Int) (v : Value) : eqGuard op t x y (.int k n) v = pure () := by cases op <;> rfl
theorem eqGuard_str (op : BinOp) (t : TypeId) (x y : Operand) (s : ByteArray) (v : Value) : eqGuard op t x y (.string s) v = pure () := by cases op <;> rfl

theorem intBin_sound {P : Program} {S : World → Prop} {E : Env} {op : BinOp} {k : IntKind} {a b : Int} {l : Bool} {kk : XC → Prop} (t : TypeId)
    (h : intBin op k a b l kk) : Gives P S (binOp op t (.int k a) (.int k b)) E (fun x => ∃ c, x = .c c ∧ kk c) := by
  unfold intBin at h
  cases op <;> simp only [] at h <;> first
    | exact h.elim
    | exact Gives.mk ⟨_, rfl, h⟩ (ofI_rel E _ _ _) (fun w _ => by simp [binOp, Op.intArith, Op.intBits, bits])
    | exact Gives.mk ⟨_, rfl, h⟩ (ofB_rel E _ _) (fun w _ => by simp [binOp, Op.intCmp])

theorem binC_sound {P : Program} {S : World → Prop} {E : Env} {op : BinOp} {x y : XC} {u v : Value} {k : XC → Prop} (t : TypeId) (X Y : Operand)
    (h : binC op x y k) (hx : RelC E x u) (hy : RelC E y v) : Gives P S (do eqGuard op t X Y u v; binOp op t u v) E (fun x => ∃ c, x = .c c ∧ k c) := by
  unfold binC at h
  split at h
  · rename_i l1 k1 a l2 k2 b e1 e2
    have hu := asI_rel e1 hx
    have hv := asI_rel e2 hy
    subst hu; subst hv
    split at h
    · obtain ⟨h0, hk⟩ := notNeg_iff h
      exact Gives.mk ⟨_, rfl, hk⟩ (ofI_rel E _ _ _) (fun w _ => by simp [eqGuard_int, binOp, Op.shift, Int.not_lt.2 h0])
    · obtain ⟨h0, hk⟩ := notNeg_iff h
      exact Gives.mk ⟨_, rfl, hk⟩ (ofI_rel E _ _ _) (fun w _ => by simp [eqGuard_int, binOp, Op.shift, Int.not_lt.2 h0])
    · obtain ⟨rfl, h'⟩ := kIf_iff h
      obtain ⟨h0, hk⟩ := notZero_iff h'
      exact Gives.mk ⟨_, rfl, hk⟩ (ofI_rel E _ _ _) (fun w _ => by simp [eqGuard_int, binOp, Op.intDiv, h0])
    · obtain ⟨rfl, h'⟩ := kIf_iff h
      obtain ⟨h0, hk⟩ := notZero_iff h'
      exact Gives.mk ⟨_, rfl, hk⟩ (ofI_rel E _ _ _) (fun w _ => by simp [eqGuard_int, binOp, Op.intDiv, h0])
    · obtain ⟨rfl, h'⟩ := kIf_iff h
      obtain ⟨z, w, hk, hr, hrun⟩ := intBin_sound (P := P) (S := S) (E := E) t h'
      exact ⟨z, w, hk, hr, fun W hW => by simp only [eqGuard_int, Sem.run_bind, Sem.run_pure, Result.andThen_ok]; exact hrun W hW⟩
  · split at h
    · rename_i a b e1 e2
      have hu := asS_rel e1 hx
      have hv := asS_rel e2 hy
      subst hu; subst hv
      split at h
      · exact Gives.mk ⟨_, rfl, h⟩ (show RelC E _ _ from rfl) (fun w _ => by simp [eqGuard_str, binOp, Op.stringOp, beq_toListBytes])
      · exact Gives.mk ⟨_, rfl, h⟩ (show RelC E _ _ from rfl) (fun w _ => by simp [eqGuard_str, binOp, Op.stringOp, beq_toListBytes])
      · have h1 := h.1
        have : ¬ ((a.size + b.size : Nat) : Int) > IntKind.i64.max := by simp only [maxLen] at h1; simp [IntKind.max_i64]; omega
        exact Gives.mk ⟨_, rfl, h.2⟩ (show RelC E _ _ from ⟨rfl, rfl⟩) (fun w _ => by simp only [eqGuard_str, binOp, Op.stringOp, Sem.run_bind, Sem.run_pure, Result.andThen_ok]; rw [if_neg this]; rfl)
      · exact Gives.mk ⟨_, rfl, h⟩ (show RelC E _ _ from rfl) (fun w _ => by simp [eqGuard_str, binOp, Op.stringOp])
      · exact h.elim
    · exact h.elim

/-! ### bools, nil, and lists of leaves -/
def eqC (n : Nat) (x y : XC) (k : Bool → Bool → Prop) : Prop :=
  match n with
  | 0 => (match asI x, asI y with | some (l1, k1, a), some (l2, k2, b) => kIf k1 k2 (k (l1 && l2) (a == b)) | _, _ => False)
  | 1 => (match asB x, asB y with | some (l1, a), some (l2, b) => k (l1 && l2) (a == b) | _, _ => False)
  | 2 => (match asS x, asS y with | some a, some b => k false (a == b) | _, _ => False)
  | _ => False
def andB (l : Bool) (x : Bool) (y : Bool) : Bool := match l with | true => (match x with | true => y | false => false) | false => x && y
theorem andB_eq (l x y : Bool) : andB l x y = (x && y) := by cases l <;> cases x <;> rfl
def eqL : List Nat → List XC → List XC → (Bool → Prop) → Prop
  | [], [], [], k => k true
  | [n], [x], [y], k => eqC n x y fun _ b => k b
  | n :: ns, x :: xs, y :: ys, k => eqC n x y fun l b => (match l, b with
      | true, true => eqL ns xs ys k
      | _, _ => eqL ns xs ys fun r => k (b && r))
  | _, _, _, _ => False

theorem eqC_sound {E : Env} {n : Nat} {x y : XC} {u v : Value} {k : Bool → Bool → Prop} (h : eqC n x y k) (hx : RelC E x u) (hy : RelC E y v) :
    leafOk n u v = true ∧ ∃ l, k l (leafEq u v) := by
  unfold eqC at h
  split at h
  · split at h
    · rename_i l1 k1 a l2 k2 b e1 e2
      obtain ⟨rfl, h'⟩ := kIf_iff h
      have hu := asI_rel e1 hx; have hv := asI_rel e2 hy; subst hu; subst hv
      exact ⟨by simp [leafOk], _, by simpa [leafEq] using h'⟩
    · exact h.elim
  · split at h
    · rename_i l1 a l2 b e1 e2
      have hu := asB_rel e1 hx; have hv := asB_rel e2 hy; subst hu; subst hv
      exact ⟨by simp [leafOk], _, by simpa [leafEq] using h⟩
    · exact h.elim
  · split at h
    · rename_i a b e1 e2
      have hu := asS_rel e1 hx; have hv := asS_rel e2 hy; subst hu; subst hv
      exact ⟨by simp [leafOk], _, by simpa [leafEq, beq_toListBytes] using h⟩
    · exact h.elim
  · exact h.elim

theorem eqL_sound {E : Env} : ∀ {ns : List Nat} {xs ys : List XC} {us vs : List Value} {k : Bool → Prop}, eqL ns xs ys k → RelL E xs us → RelL E ys vs →
    leavesOk ns us vs = true ∧ k (leavesEq us vs)
  | [], [], [], [], [], k, h, _, _ => ⟨rfl, h⟩
  | [n], [x], [y], [u], [v], k, h, hx, hy => by
    simp only [eqL] at h
    obtain ⟨h1, l, h2⟩ := eqC_sound h hx.1 hy.1
    exact ⟨by simp [leavesOk, h1], by simpa [leavesEq] using h2⟩
  | n :: m :: ns, x :: xs, y :: ys, u :: us, v :: vs, k, h, hx, hy => by
    simp only [eqL] at h
    obtain ⟨h1, l, h2⟩ := eqC_sound h hx.1 hy.1
    split at h2
    · rename_i hb
      obtain ⟨h3, h4⟩ := eqL_sound h2 hx.2 hy.2
      exact ⟨by simp [leavesOk, h1, h3], by simpa [leavesEq, hb] using h4⟩
    · obtain ⟨h3, h4⟩ := eqL_sound h2 hx.2 hy.2
      exact ⟨by simp [leavesOk, h1, h3], h4⟩
  | [n], x :: x' :: xs, y :: ys, u :: us, v :: vs, k, h, hx, hy => by
    simp only [eqL] at h
    obtain ⟨h1, l, h2⟩ := eqC_sound h hx.1 hy.1
    split at h2 <;> cases ys <;> exact h2.elim
  | [n], [x], y :: y' :: ys, u :: us, v :: vs, k, h, hx, hy => by
    simp only [eqL] at h
    obtain ⟨h1, l, h2⟩ := eqC_sound h hx.1 hy.1
    split at h2 <;> exact h2.elim
  | [], [], _ :: _, _, _, _, h, _, _ => by simp [eqL] at h
  | [], _ :: _, _, _, _, _, h, _, _ => by simp [eqL] at h
  | n :: ns, [], _, _, _, _, h, _, _ => by cases ns <;> simp [eqL] at h
  | n :: ns, _ :: _, [], _, _, _, h, _, _ => by cases ns <;> simp [eqL] at h
  | _, [], _, _ :: _, _, _, _, hx, _ => hx.elim
  | _, _ :: _, _, [], _, _, _, hx, _ => hx.elim
  | _, _, [], _, _ :: _, _, _, _, hy => hy.elim
  | _, _, _ :: _, _, [], _, _, _, hy => hy.elim

/-- Nothing but nil is held against these. -/
def notNilPtr : XC → Option Bool
  | .p _ _ => some true
  | .ep _ _ => some true
  | .q _ _ _ _ => some true
  | .v (.pointer none) => some false
  | _ => none

def eqNil (x y : XC) : Option Bool :=
  match notNilPtr x, notNilPtr y with
  | some true, some false => some false
  | some false, some true => some false
  | some false, some false => some true
  | _, _ => none

def cells : XV → Option (List XC)
  | .c x => some [x]
  | .a l => some l
  | _ => none
theorem cells_rel {E : Env} {x : XV} {u : Value} {l : List XC} (h : cells x = some l) (hr : RelV E x u) : RelL E l u.cells.toList := by
  cases x with
  | un => simp [cells] at h
  | t l => simp [cells] at h
  | c x =>
    simp [cells] at h; subst h
    have h1 := RelC.one (E := E) hr
    cases u <;> simp [Value.cells] <;> first | exact ⟨hr, trivial⟩ | simp [Value.oneCell'] at h1
  | a l' =>
    simp [cells] at h; subst h
    obtain ⟨vs, rfl, h⟩ := hr
    exact h

def binX (T : Tab) (op : BinOp) (ty : TypeId) (x y : XV) (k : XV → Prop) : Prop :=
  match x, y with
  | .c x, .c y =>
    (match T ty with
    | some { kd := .bool, .. } =>
      (match asB x, asB y, op with
      | some (l1, a), some (l2, b), .eql => k (.c (ofB (l1 && l2) (a == b)))
      | some (l1, a), some (l2, b), .neq => k (.c (ofB (l1 && l2) (!(a == b))))
      | _, _, _ => False)
    | some { kd := .ptr, .. } =>
      (match eqNil x y, op with
      | some b, .eql => k (.c (ofB true b))
      | some b, .neq => k (.c (ofB true (!b)))
      | _, _ => False)
    | _ => binC op x y fun c => k (.c c))
  | .a xs, .a ys =>
    (match T ty with
    | some { flat := some ns, agg := true, .. } =>
      (match op with
      | .eql => eqL ns xs ys fun b => k (.c (.b b))
      | .neq => eqL ns xs ys fun b => k (.c (.b (!b)))
      | _ => False)
    | _ => False)
  | _, _ => False

theorem flatOf_spec {P : Program} {t : TypeId} {ns : List Nat} (h : flatOf P t = some ns) : flatT P 40 t = some ns ∧ P.eqGuardType P.depth t = false ∧ ns.length = P.cellsOf t := by
  unfold flatOf at h
  split at h
  · rename_i l hl
    split at h
    · rename_i hc; cases h; exact ⟨hl, hc.1, hc.2⟩
    · cases h
  · cases h

theorem eqNil_sound {E : Env} {x y : XC} {u v : Value} {b : Bool} (h : eqNil x y = some b) (hx : RelC E x u) (hy : RelC E y v) :
    ∃ p q, u = .pointer p ∧ v = .pointer q ∧ (p = none ∨ q = none) ∧ b = (p.isNone && q.isNone) := by
  have key : ∀ {z : XC} {w : Value} {c : Bool}, notNilPtr z = some c → RelC E z w → ∃ p, w = .pointer p ∧ (c = true ↔ p.isSome = true) := by
    intro z w c hz hr
    unfold notNilPtr at hz
    split at hz <;> cases hz
    · exact ⟨_, hr.2, by simp⟩
    · obtain ⟨ad, rfl, _⟩ := hr; exact ⟨_, rfl, by simp⟩
    · obtain ⟨_, g, n, c, _, rfl⟩ := hr; exact ⟨_, rfl, by simp⟩
    · exact ⟨none, hr.1, by simp⟩
  unfold eqNil at h
  split at h
  all_goals first | cases h | skip
  all_goals
    rename_i e1 e2
    obtain ⟨p, rfl, hp⟩ := key e1 hx
    obtain ⟨q, rfl, hq⟩ := key e2 hy
    refine ⟨p, q, rfl, rfl, ?_, ?_⟩ <;> cases p <;> cases q <;> simp at hp hq ⊢

theorem run_eq_ptr_nil {P : Program} {ty e : TypeId} (hu : P.underlying ty = some (.pointer e)) {p q : Option Addr} (h : p = none ∨ q = none) (d : Nat) (w : World) :
    (Op.equalIn (d + 1) ty (.pointer p) (.pointer q)).run P w = .ok (p.isNone && q.isNone) w := by
  rcases h with rfl | rfl
  · simp [Op.equalIn, run_underlying hu]
  · cases p <;> simp [Op.equalIn, run_underlying hu]

theorem eqGuard_ptr (op : BinOp) (t : TypeId) (x y : Operand) (p : Option Addr) (v : Value) : eqGuard op t x y (.pointer p) v = pure () := by cases op <;> rfl
theorem eqGuard_bool (op : BinOp) (t : TypeId) (x y : Operand) (b : Bool) (v : Value) : eqGuard op t x y (.bool b) v = pure () := by cases op <;> rfl

theorem mkKd_int {P : Program} {t : TypeId} {k : IntKind} (h : mkKd P t = .int k) : P.underlying t = some (.int k) := by
  unfold mkKd at h; split at h <;> first | cases h | skip
  rename_i hu; exact hu
theorem mkKd_bool {P : Program} {t : TypeId} (h : mkKd P t = .bool) : P.underlying t = some .bool := by
  unfold mkKd at h; split at h <;> first | cases h | skip
  rename_i hu; exact hu
theorem mkKd_str {P : Program} {t : TypeId} (h : mkKd P t = .str) : P.underlying t = some .string := by
  unfold mkKd at h; split at h <;> first | cases h | skip
  rename_i hu; exact hu
theorem mkKd_ptr {P : Program} {t : TypeId} (h : mkKd P t = .ptr) : ∃ e, P.underlying t = some (.pointer e) := by
  unfold mkKd at h; split at h <;> first | cases h | skip
  rename_i hu; exact ⟨_, hu⟩
theorem mkKd_st {P : Program} {t : TypeId} {l : List (Nat × TypeId)} (h : mkKd P t = .st l) :
    ∃ fs, P.underlying t = some (.struct fs) ∧ l = fs.toList.map fun f => (f.offset, f.type) := by
  unfold mkKd at h; split at h <;> first | cases h | skip
  rename_i hu; exact ⟨_, hu, rfl⟩
theorem mkKd_arr {P : Program} {t e : TypeId} {n : Nat} (h : mkKd P t = .arr n e) : P.underlying t = some (.array n e) := by
  unfold mkKd at h; split at h <;> first | cases h | skip
  rename_i hu; exact hu
theorem mkKd_sl {P : Program} {t e : TypeId} (h : mkKd P t = .sl e) : P.underlying t = some (.slice e) := by
  unfold mkKd at h; split at h <;> first | cases h | skip
  rename_i hu; exact hu

theorem binX_sound {P : Program} {T : Tab} (hT : TabOk P T) {S : World → Prop} {E : Env} {op : BinOp} {ty : TypeId} {x y : XV} {u v : Value} {k : XV → Prop} (X Y : Operand)
    (h : binX T op ty x y k) (hx : RelV E x u) (hy : RelV E y v) : Gives P S (do eqGuard op ty X Y u v; binOp op ty u v) E k := by
  unfold binX at h
  split at h
  · rename_i x y
    split at h
    · rename_i ti _ _ _ _ _ ht
      have hs := TIs.of (hT _ _ ht)
      have hu : P.underlying ty = some .bool := mkKd_bool hs.kd.symm
      split at h
      · rename_i e1 e2
        have e1 := asB_rel e1 hx; have e2 := asB_rel e2 hy; subst e1; subst e2
        exact Gives.mk h (ofB_rel E _ _) (fun w _ => by simp only [eqGuard_bool, Sem.run_bind, Sem.run_pure, Result.andThen_ok]; exact run_eql_bool w ty _ _ hu)
      · rename_i e1 e2
        have e1 := asB_rel e1 hx; have e2 := asB_rel e2 hy; subst e1; subst e2
        exact Gives.mk h (ofB_rel E _ _) (fun w _ => by
          simp only [eqGuard_bool, Sem.run_bind, Sem.run_pure, Result.andThen_ok, binOp, Op.equal, Op.maxDepth]
          rw [run_equalIn_bool w 9999 ty _ _ hu]; simp)
      · exact h.elim
    · rename_i ti _ _ _ _ _ ht
      have hs := TIs.of (hT _ _ ht)
      obtain ⟨e, hu⟩ := mkKd_ptr hs.kd.symm
      split at h
      · rename_i e1
        obtain ⟨p, q, rfl, rfl, hpq, rfl⟩ := eqNil_sound e1 hx hy
        exact Gives.mk h (ofB_rel E _ _) (fun w _ => by
          simp only [eqGuard_ptr, Sem.run_bind, Sem.run_pure, Result.andThen_ok, binOp, Op.equal, Op.maxDepth]
          rw [run_eq_ptr_nil hu hpq 9999]; simp)
      · rename_i e1
        obtain ⟨p, q, rfl, rfl, hpq, rfl⟩ := eqNil_sound e1 hx hy
        exact Gives.mk h (ofB_rel E _ _) (fun w _ => by
          simp only [eqGuard_ptr, Sem.run_bind, Sem.run_pure, Result.andThen_ok, binOp, Op.equal, Op.maxDepth]
          rw [run_eq_ptr_nil hu hpq 9999]; simp)
      · exact h.elim
    · obtain ⟨z, w, ⟨c, rfl, hk⟩, hr, hrun⟩ := binC_sound (P := P) (S := S) (E := E) ty X Y h hx hy
      exact ⟨_, w, hk, hr, hrun⟩
  · rename_i xs ys
    obtain ⟨us, rfl, hxs⟩ := hx
    obtain ⟨vs, rfl, hys⟩ := hy
    split at h
    · rename_i _ _ _ _ ns ht
      have hs := TIs.of (hT _ _ ht)
      obtain ⟨hf, hg, _⟩ := flatOf_spec hs.flat.symm
      have hag : isAggT P ty = true := hs.agg
      have hcore : ∀ (w : World), leavesOk ns us.toList vs.toList = true → (Op.equalIn 10000 ty (.agg us) (.agg vs)).run P w = .ok (leavesEq us.toList vs.toList) w := by
        intro w hok
        have := flat_equal 40 ty ns hf 10000 us.toList vs.toList w (by omega) hok
        simpa [hag, mkVal] using this
      split at h
      · obtain ⟨h1, h2⟩ := eqL_sound h hxs hys
        exact Gives.mk h2 (show RelC E (.b _) (.bool _) from rfl) (fun w _ => by
          simp only [Sem.run_bind, run_eqGuard_agg w .eql ty X Y us vs hg, Result.andThen_ok]
          rw [run_eql_struct w ty us vs, hcore w h1]; rfl)
      · obtain ⟨h1, h2⟩ := eqL_sound h hxs hys
        exact Gives.mk h2 (show RelC E (.b _) (.bool _) from rfl) (fun w _ => by
          simp only [Sem.run_bind, run_eqGuard_agg w .neq ty X Y us vs hg, Result.andThen_ok]
          rw [run_neq_struct w ty us vs, hcore w h1]; rfl)
      · exact h.elim
    · exact h.elim
  · exact h.elim

def unX (op : UnOp) (x : XV) (k : XV → Prop) : Prop :=
  match op, x with
  | .not, .c .bt => k (.c .bf)
  | .not, .c .bf => k (.c .bt)
  | .not, .c (.b x) => k (.c (.b (!x)))
  | .neg, .c (.il kd n) => k (.c (.il kd (kd.wrap (0 - n))))
  | .neg, .c (.i kd n) => k (.c (.i kd (kd.wrap (0 - n))))
  | _, _ => False
theorem unX_sound {P : Program} {S : World → Prop} {E : Env} {op : UnOp} {x : XV} {u : Value} {k : XV → Prop} (h : unX op x k) (hx : RelV E x u) : Gives P S (Op.unary op u) E k := by
  unfold unX at h
  split at h
  · have : u = .bool true := hx
    subst this; exact Gives.mk h (show RelC E .bf (.bool false) from rfl) (fun w _ => by simp [Op.unary])
  · have : u = .bool false := hx
    subst this; exact Gives.mk h (show RelC E .bt (.bool true) from rfl) (fun w _ => by simp [Op.unary])
  · rename_i b
    have : u = .bool b := hx
    subst this; exact Gives.mk h (show RelC E (.b _) (.bool (!b)) from rfl) (fun w _ => by simp [Op.unary])
  · rename_i kd n
    have : u = .int kd n := hx
    subst this; exact Gives.mk h (show RelC E (.il _ _) (.int kd (kd.wrap (0 - n))) from rfl) (fun w _ => by simp [Op.unary, Op.intArith])
  · rename_i kd n
    have : u = .int kd n := hx
    subst this; exact Gives.mk h (show RelC E (.i _ _) (.int kd (kd.wrap (0 - n))) from rfl) (fun w _ => by simp [Op.unary, Op.intArith])
  · exact h.elim

def convX (T : Tab) (src dst : TypeId) (x : XV) (k : XV → Prop) : Prop :=
  match T src, T dst with
  | some _, some { kd := .int kd, .. } => (match x with
    | .c (.il _ n) => k (.c (.il kd (kd.wrap n)))
    | .c (.i _ n) => k (.c (.i kd (kd.wrap n)))
    | _ => False)
  | some { kd := .str, .. }, some { kd := .str, .. } => (match x with
    | .c (.v (.string s)) => k (.c (.v (.string s)))
    | _ => False)
  | _, _ => False
theorem convX_sound {P : Program} {T : Tab} (hT : TabOk P T) {S : World → Prop} {E : Env} {src dst : TypeId} {x : XV} {u : Value} {k : XV → Prop} (h : convX T src dst x k) (hx : RelV E x u) :
    Gives P S (convert src dst u) E k := by
  unfold convX at h
  split at h
  · rename_i t1 ti _ _ _ _ _ h1 h2
    obtain ⟨d, hd⟩ := (TIs.of (hT _ _ h1)).und
    have hu := mkKd_int (TIs.of (hT _ _ h2)).kd.symm
    split at h
    · rename_i k0 n
      have : u = .int k0 n := hx
      subst this; exact Gives.mk h (show RelC E (.il _ _) (.int _ _) from rfl) (fun w _ => by simp [convert, run_underlying hd, run_underlying hu, Conv.intToInt])
    · rename_i k0 n
      have : u = .int k0 n := hx
      subst this; exact Gives.mk h (show RelC E (.i _ _) (.int _ _) from rfl) (fun w _ => by simp [convert, run_underlying hd, run_underlying hu, Conv.intToInt])
    · exact h.elim
  · rename_i t1 ti _ _ _ _ _ _ _ _ _ _ h1 h2
    have hu1 := mkKd_str (TIs.of (hT _ _ h1)).kd.symm
    have hu2 := mkKd_str (TIs.of (hT _ _ h2)).kd.symm
    split at h
    · rename_i s
      have : u = .string s := hx.1
      subst this; exact Gives.mk h (show RelC E (.v _) _ from ⟨rfl, rfl⟩) (fun w _ => by simp [convert, run_underlying hu1, run_underlying hu2])
    · exact h.elim
  · exact h.elim
end Go.Eng
