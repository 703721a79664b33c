/- The engine, part B: the table of types, and what the model's operations on values come to; nothing of any program is proved here. -/
import Derived.Test.YtbhmplbckkipjaaEngA
import Derived.ChangeKeysEq
namespace Go.Eng
open Go Go.RowKit
set_option linter.unusedSimpArgs false
set_option linter.unusedVariables false

inductive Kd where
  | other
  | int (k : IntKind)
  | bool
  | str
  | ptr
  | st (fs : List (Nat × TypeId))
  | arr (len : Nat) (e : TypeId)
  | sl (e : TypeId)
  | mp (k e : TypeId)

/-- The leaves of a type that is compared cell by cell: 0 a number, 1 a bool, 2 a text. -/
structure TI where
  size : Nat
  bytes : Nat
  agg : Bool
  zero : List Value
  kd : Kd
  flat : Option (List Nat)

def isAggT (P : Program) (t : TypeId) : Bool := match P.underlying t with | some (.struct _) => true | some (.array _ _) => true | _ => false
def zeroT (P : Program) (t : TypeId) : List Value := (((P.info? t).bind (·.zero)).map (·.cells.toList)).getD []

def mkKd (P : Program) (t : TypeId) : Kd :=
  match P.underlying t with
  | some (.int k) => .int k
  | some .bool => .bool
  | some .string => .str
  | some (.pointer _) => .ptr
  | some (.struct fs) => .st (fs.toList.map fun f => (f.offset, f.type))
  | some (.array n e) => .arr n e
  | some (.slice e) => .sl e
  | some (.map k e) => .mp k e
  | _ => .other

mutual
def flatT (P : Program) : Nat → TypeId → Option (List Nat)
  | 0, _ => none
  | d + 1, t =>
    match P.underlying t with
    | some (.int _) => some [0]
    | some .bool => some [1]
    | some .string => some [2]
    | some (.array n e) => match flatT P d e with
      | some l => if l.length = P.cellsOf e ∧ (P.info? e).isSome then some (List.replicate n l).flatten else none
      | none => none
    | some (.struct fs) => if P.stoodInHeld t then none else flatFs P d 0 fs.toList
    | _ => none
def flatFs (P : Program) : Nat → Nat → List Field → Option (List Nat)
  | 0, _, _ => none
  | _ + 1, _, [] => some []
  | d + 1, off, f :: fs =>
    if f.name ≠ "_" ∧ f.offset = off ∧ (P.info? f.type).isSome then
      match flatT P d f.type, flatFs P d (off + P.cellsOf f.type) fs with
      | some l, some r => if l.length = P.cellsOf f.type then some (l ++ r) else none
      | _, _ => none
    else none
end

/-- A type that can be compared by its leaves. -/
def flatOf (P : Program) (t : TypeId) : Option (List Nat) :=
  match flatT P 40 t with
  | some l => if P.eqGuardType P.depth t = false ∧ l.length = P.cellsOf t then some l else none
  | none => none

def zAgg : Option Value → Bool
  | some (.agg _) => true
  | _ => false

def mkTI (P : Program) (t : TypeId) : Option TI :=
  match P.info? t, P.underlying t with
  | some i, some _ =>
    if (i.zero.isSome && (zeroT P t).length == i.size && (zeroT P t).all (·.oneCell') && (isAggT P t || i.size == 1) && (isAggT P t == zAgg i.zero)) = true then
      some { size := i.size, bytes := i.bytes, agg := isAggT P t, zero := zeroT P t, kd := mkKd P t, flat := flatOf P t }
    else none
  | _, _ => none

def Tab := TypeId → Option TI
def TabOk (P : Program) (T : Tab) : Prop := ∀ t i, T t = some i → mkTI P t = some i

def tabGet : List (Option TI) → Nat → Option TI
  | [], _ => none
  | a :: _, 0 => a
  | _ :: l, n + 1 => tabGet l n
theorem tabGet_eq : ∀ (l : List (Option TI)) (n : Nat), tabGet l n = (l[n]?).getD none
  | [], _ => rfl
  | _ :: _, 0 => rfl
  | _ :: l, n + 1 => by simp [tabGet, tabGet_eq l n]
theorem TabOk.of_list {P : Program} {l : List (Option TI)} (h : (List.range l.length).map (mkTI P) = l) : TabOk P (tabGet l) := by
  intro t i ht
  rw [tabGet_eq] at ht
  cases hx : l[t]? with
  | none => simp [hx] at ht
  | some x =>
    have hlt := (List.getElem?_eq_some_iff.1 hx).1
    have h2 : ((List.range l.length).map (mkTI P))[t]? = some x := by rw [h]; exact hx
    simp [hlt] at h2
    simp [hx] at ht
    rw [h2, ht]

section
variable {P : Program} {t : TypeId} {ti : TI}
structure TIs (P : Program) (t : TypeId) (ti : TI) : Prop where
  info : ∃ i, P.info? t = some i ∧ i.size = ti.size ∧ i.bytes = ti.bytes ∧ ∃ z, i.zero = some z ∧ z.cells.toList = ti.zero ∧ (ti.agg = true → z = .agg ti.zero.toArray) ∧ z.cells.size = ti.size
  und : ∃ d, P.underlying t = some d
  size : P.cellsOf t = ti.size
  agg : isAggT P t = ti.agg
  one : ti.agg = false → ti.size = 1
  zlen : ti.zero.length = ti.size
  zone : ∀ u ∈ ti.zero, u.oneCell' = true
  kd : ti.kd = mkKd P t
  flat : ti.flat = flatOf P t

theorem TIs.of (h : mkTI P t = some ti) : TIs P t ti := by
  unfold mkTI at h
  cases hi : P.info? t with
  | none => simp [hi] at h
  | some i =>
    cases hd : P.underlying t with
    | none => simp [hi, hd] at h
    | some d =>
      simp only [hi, hd] at h
      split at h
      case isFalse => cases h
      case isTrue hc =>
        simp only [Bool.and_eq_true, beq_iff_eq, Bool.or_eq_true, List.all_eq_true] at hc
        obtain ⟨⟨⟨⟨hz, hl⟩, ho⟩, ha⟩, hg⟩ := hc
        cases h
        obtain ⟨z, hz⟩ := Option.isSome_iff_exists.1 hz
        have hzt : zeroT P t = z.cells.toList := by simp [zeroT, hi, hz]
        refine ⟨⟨i, hi, rfl, rfl, z, hz, hzt.symm, ?_, ?_⟩, ⟨d, hd⟩, by simp [Program.cellsOf, hi], rfl, ?_, hl, ho, rfl, rfl⟩
        · intro h2
          simp only at h2
          rw [h2, hz] at hg
          cases z <;> simp [zAgg] at hg
          simp [hzt, Value.cells]
        · rw [← Array.length_toList, ← hzt]; exact hl
        · intro h2
          simp only at h2 ⊢
          rcases ha with ha | ha
          · rw [h2] at ha; cases ha
          · exact ha

theorem run_isAggT (h : TIs P t ti) (w : World) : (isAgg t).run P w = .ok ti.agg w := by
  obtain ⟨d, hd⟩ := h.und
  have ha := h.agg
  unfold isAggT at ha
  rw [hd] at ha
  unfold isAgg
  rw [Sem.run_bind, run_underlying hd w]
  cases d <;> simp_all
theorem run_size (h : TIs P t ti) (w : World) : (sizeOf t).run P w = .ok ti.size w := by
  obtain ⟨i, hi, hs, _⟩ := h.info
  simp [sizeOf, typeInfo, hi, hs]
theorem run_zero (h : TIs P t ti) (w : World) : ∃ z, (zeroValue t).run P w = .ok z w ∧ z.cells.toList = ti.zero := by
  obtain ⟨i, hi, hs, _, z, hz, hc, _⟩ := h.info
  exact ⟨z, by simp [zeroValue, typeInfo, hi, hz], hc⟩

/-- The value of so many cells. -/
def mkVal (agg : Bool) (l : List Value) : Value := if agg then .agg l.toArray else l.headD undef

theorem mkVal_cells (agg : Bool) (l : List Value) (h1 : ∀ u ∈ l, u.oneCell' = true) (h : agg = false → l.length = 1) : (mkVal agg l).cells.toList = l := by
  cases agg with
  | true => simp [mkVal, Value.cells]
  | false =>
    match l, h rfl with
    | [u], _ =>
      have := h1 u (by simp)
      cases u <;> simp [mkVal, Value.cells] <;> simp [Value.oneCell'] at this

theorem run_loadVar (h : TIs P t ti) (w : World) (a : Addr) (l : List Value) (hl : l.length = ti.size) (hc : ∀ j u, l[j]? = some u → w.cell? (a.add j) = some u) :
    (loadVar t a).run P w = .ok (mkVal ti.agg l) w := by
  have hr := run_loadCells_list (P := P) w a l hc
  unfold loadVar
  rw [Sem.run_bind, run_isAggT h w]
  cases ha : ti.agg with
  | true => simp [run_size h w, ← hl, hr, mkVal]
  | false =>
    have h1 := h.one ha
    match l, hl.trans h1 with
    | [u], _ =>
      have := hc 0 u rfl
      rw [Addr.add_zero'] at this
      simp [run_load, this, mkVal]

theorem run_part (h : TIs P t ti) (w : World) (cs : Array Value) (off : Nat) (l : List Value) (hl : l.length = ti.size) (hc : (cs.toList.drop off).take ti.size = l) :
    (part t cs off).run P w = .ok (mkVal ti.agg l) w := by
  unfold part
  rw [Sem.run_bind, run_isAggT h w]
  cases ha : ti.agg with
  | true =>
    simp only [Result.andThen_ok, if_true, Sem.run_bind, run_size h w, Sem.run_pure, mkVal]
    congr 2
    apply Array.ext'
    rw [Array.toList_extract]
    simp [List.extract_eq_take_drop, ← hc]
  | false =>
    have h1 := h.one ha
    match l, hl.trans h1 with
    | [u], _ =>
      have hx : cs[off]? = some u := by
        have h2 : ((cs.toList.drop off).take ti.size)[0]? = some u := by rw [hc]; rfl
        rw [h1] at h2
        simpa using h2
      simp [hx, mkVal]

theorem run_storeVar (h : TIs P t ti) (w : World) (g o : Nat) (ty : TypeId) (cur : Array Value) (v : Value) (hg : w.heap[g]? = some (.cells cur ty (0, 0)))
    (hv : v.cells.size = ti.size) (h1 : ∀ u ∈ v.cells.toList, u.oneCell' = true) (hfit : o + ti.size ≤ cur.size) :
    (storeVar t ⟨g, o, none⟩ v).run P w = .ok () (w.setRow g (cur.toList.take o ++ v.cells.toList ++ cur.toList.drop (o + ti.size)).toArray) := by
  have hs := run_storeCells_at P g o ty v.cells.toList 0 cur w hg (by simp; omega) h1
  simp only [Nat.add_zero, Array.length_toList, hv] at hs
  unfold storeVar
  simp [Sem.run_bind, run_size h w, hv, hs]
end

/-! ### values compared by their leaves -/
def leafEq : Value → Value → Bool
  | .int _ a, .int _ b => a == b
  | .bool a, .bool b => a == b
  | .string a, .string b => a.toList == b.toList
  | _, _ => false
def leafOk : Nat → Value → Value → Bool
  | 0, .int k _, .int k' _ => decide (k = k')
  | 1, .bool _, .bool _ => true
  | 2, .string _, .string _ => true
  | _, _, _ => false
def leavesEq : List Value → List Value → Bool
  | a :: l, b :: r => leafEq a b && leavesEq l r
  | _, _ => true
def leavesOk : List Nat → List Value → List Value → Bool
  | n :: ns, a :: l, b :: r => leafOk n a b && leavesOk ns l r
  | [], [], [] => true
  | _, _, _ => false

theorem leafOk_int {x y : Value} (h : leafOk 0 x y = true) : ∃ k a b, x = .int k a ∧ y = .int k b := by
  unfold leafOk at h
  split at h
  · have := of_decide_eq_true h; subst this; exact ⟨_, _, _, rfl, rfl⟩
  all_goals first | (rename_i e; exact absurd e (by decide)) | cases h
theorem leafOk_bool {x y : Value} (h : leafOk 1 x y = true) : ∃ a b, x = .bool a ∧ y = .bool b := by
  unfold leafOk at h
  split at h
  all_goals first | (rename_i e; exact absurd e (by decide)) | exact ⟨_, _, rfl, rfl⟩ | cases h
theorem leafOk_str {x y : Value} (h : leafOk 2 x y = true) : ∃ a b, x = .string a ∧ y = .string b := by
  unfold leafOk at h
  split at h
  all_goals first | (rename_i e; exact absurd e (by decide)) | exact ⟨_, _, rfl, rfl⟩ | cases h
theorem leavesOk_append : ∀ (n m : List Nat) (l r : List Value), leavesOk (n ++ m) l r = true →
    leavesOk n (l.take n.length) (r.take n.length) = true ∧ leavesOk m (l.drop n.length) (r.drop n.length) = true
  | [], m, l, r, h => ⟨by simp [leavesOk], by simpa using h⟩
  | x :: n, m, a :: l, b :: r, h => by
    simp only [List.cons_append, leavesOk, Bool.and_eq_true] at h
    have := leavesOk_append n m l r h.2
    exact ⟨by simp [leavesOk, h.1, this.1], by simpa using this.2⟩
  | x :: n, m, [], r, h => by cases r <;> simp [leavesOk] at h
  | x :: n, m, a :: l, [], h => by simp [leavesOk] at h
theorem leavesOk_len : ∀ (n : List Nat) (l r : List Value), leavesOk n l r = true → l.length = n.length ∧ r.length = n.length
  | [], [], [], _ => ⟨rfl, rfl⟩
  | x :: n, a :: l, b :: r, h => by
    simp only [leavesOk, Bool.and_eq_true] at h
    have := leavesOk_len n l r h.2
    simp [this.1, this.2]
  | [], [], _ :: _, h => by simp [leavesOk] at h
  | [], _ :: _, _, h => by simp [leavesOk] at h
  | _ :: _, [], _, h => by simp [leavesOk] at h
  | _ :: _, _ :: _, [], h => by simp [leavesOk] at h
theorem leavesOk_one {n : Nat} {l r : List Value} (h : leavesOk [n] l r = true) : ∃ x y, l = [x] ∧ r = [y] ∧ leafOk n x y = true := by
  have := leavesOk_len _ _ _ h
  match l, r, this, h with
  | [x], [y], _, h => exact ⟨x, y, rfl, rfl, by simpa [leavesOk] using h⟩
theorem leavesEq_append : ∀ (l r l' r' : List Value), l.length = r.length → leavesEq (l ++ l') (r ++ r') = (leavesEq l r && leavesEq l' r')
  | [], [], _, _, _ => by simp [leavesEq]
  | a :: l, b :: r, l', r', h => by simp [leavesEq, leavesEq_append l r l' r' (by simpa using h), Bool.and_assoc]
  | [], _ :: _, _, _, h => by simp at h
  | _ :: _, [], _, _, h => by simp at h

theorem flat_info {P : Program} {d : Nat} {t : TypeId} {l : List Nat} (h : flatT P d t = some l) (hi : (P.info? t).isSome = true) :
    ∃ dd, P.underlying t = some dd := by
  cases d with
  | zero => simp [flatT] at h
  | succ d =>
    unfold flatT at h
    cases hu : P.underlying t with
    | none => simp [hu] at h
    | some x => exact ⟨x, rfl⟩

/-- What a part of a flat type comes to. -/
theorem run_part_flat {P : Program} {d : Nat} {t : TypeId} {l : List Nat} (h : flatT P d t = some l) (hl : l.length = P.cellsOf t) (hi : (P.info? t).isSome = true)
    (w : World) (cs : Array Value) (off : Nat) (vs : List Value) (hv : vs.length = P.cellsOf t) (hc : (cs.toList.drop off).take (P.cellsOf t) = vs) :
    (part t cs off).run P w = .ok (mkVal (isAggT P t) vs) w := by
  obtain ⟨dd, hu⟩ := flat_info h hi
  obtain ⟨i, hi⟩ := Option.isSome_iff_exists.1 hi
  have hagg : (isAgg t).run P w = .ok (isAggT P t) w := by
    unfold isAgg isAggT
    rw [Sem.run_bind, run_underlying hu w, hu]
    cases dd <;> simp
  unfold part
  rw [Sem.run_bind, hagg]
  cases ha : isAggT P t with
  | true =>
    simp only [Result.andThen_ok, if_true, Sem.run_bind, run_sizeOf w hi, Sem.run_pure, mkVal]
    congr 2
    apply Array.ext'
    rw [Array.toList_extract]
    simp [List.extract_eq_take_drop, ← hc]
  | false =>
    have h1 : P.cellsOf t = 1 := by
      rw [← hl]
      cases d with
      | zero => simp [flatT] at h
      | succ d =>
        unfold flatT at h
        unfold isAggT at ha
        rw [hu] at h ha
        cases dd <;> simp at h ha <;> subst h <;> rfl
    match vs, hv.trans h1 with
    | [u], _ =>
      have hx : cs[off]? = some u := by
        have h2 : ((cs.toList.drop off).take (P.cellsOf t))[0]? = some u := by rw [hc]; rfl
        rw [h1] at h2
        simpa using h2
      simp [hx, mkVal]

theorem leavesEq_nil : leavesEq [] [] = true := rfl

mutual
theorem flat_equal {P : Program} : ∀ (d : Nat) (t : TypeId) (l : List Nat), flatT P d t = some l → ∀ (e : Nat) (xs ys : List Value) (w : World), d ≤ e → leavesOk l xs ys = true →
    (Op.equalIn e t (mkVal (isAggT P t) xs) (mkVal (isAggT P t) ys)).run P w = .ok (leavesEq xs ys) w
  | 0, _, _, h, _, _, _, _, _, _ => by simp [flatT] at h
  | d + 1, t, l, h, e, xs, ys, w, he, hk => by
    obtain ⟨e, rfl⟩ : ∃ m, e = m + 1 := ⟨e - 1, by omega⟩
    unfold flatT at h
    cases hu : P.underlying t with
    | none => simp [hu] at h
    | some dd =>
      rw [hu] at h
      cases dd <;> simp only [reduceCtorEq] at h
      case int k =>
        cases h
        obtain ⟨x, y, rfl, rfl, hq⟩ := leavesOk_one hk
        obtain ⟨k, a, b, rfl, rfl⟩ := leafOk_int hq
        simp [isAggT, hu, mkVal, run_equalIn_int w e t _ _ _ _ hu, leavesEq, leafEq]
      case bool =>
        cases h
        obtain ⟨x, y, rfl, rfl, hq⟩ := leavesOk_one hk
        obtain ⟨a, b, rfl, rfl⟩ := leafOk_bool hq
        simp [isAggT, hu, mkVal, run_equalIn_bool' w e t _ _ hu, leavesEq, leafEq]
      case string =>
        cases h
        obtain ⟨x, y, rfl, rfl, hq⟩ := leavesOk_one hk
        obtain ⟨a, b, rfl, rfl⟩ := leafOk_str hq
        simp [isAggT, hu, mkVal, run_equalIn_string w e t _ _ hu, leavesEq, leafEq]
      case array n el =>
        cases hf : flatT P d el with
        | none => simp [hf] at h
        | some m =>
          simp only [hf] at h
          split at h
          case isFalse => cases h
          case isTrue hm =>
            cases h
            obtain ⟨hlen, hinfo⟩ := hm
            obtain ⟨i, hi⟩ := Option.isSome_iff_exists.1 hinfo
            have hag : isAggT P t = true := by simp [isAggT, hu]
            rw [hag]
            simp only [mkVal, if_true]
            rw [run_equalIn_array w e xs.toArray ys.toArray hu hi]
            have key : ∀ (n off : Nat) (xs ys : List Value), leavesOk (List.replicate n m).flatten (xs.drop (off * P.cellsOf el)) (ys.drop (off * P.cellsOf el)) = true →
                (Op.eqItems e el (P.cellsOf el) xs.toArray ys.toArray (List.range' off n)).run P w = .ok (leavesEq (xs.drop (off * P.cellsOf el)) (ys.drop (off * P.cellsOf el))) w := by
              intro n
              induction n with
              | zero =>
                intro off xs ys hk
                simp only [List.replicate_zero, List.flatten_nil] at hk
                have := leavesOk_len _ _ _ hk
                simp only [List.length_nil] at this
                simp [Op.eqItems, List.eq_nil_of_length_eq_zero this.1, List.eq_nil_of_length_eq_zero this.2, leavesEq]
              | succ n ih =>
                intro off xs ys hk
                rw [List.replicate_succ, List.flatten_cons] at hk
                obtain ⟨ha, hb⟩ := leavesOk_append _ _ _ _ hk
                have hla := leavesOk_len _ _ _ ha
                rw [hlen] at ha hb
                rw [List.drop_drop, List.drop_drop, show off * P.cellsOf el + P.cellsOf el = (off + 1) * P.cellsOf el by rw [Nat.succ_mul]] at hb
                have px := run_part_flat hf hlen hinfo w xs.toArray (off * P.cellsOf el) _ (by rw [← hlen]; exact hla.1) (by simp [hlen])
                have py := run_part_flat hf hlen hinfo w ys.toArray (off * P.cellsOf el) _ (by rw [← hlen]; exact hla.2) (by simp [hlen])
                have eq := flat_equal d el m hf e ((xs.drop (off * P.cellsOf el)).take m.length) ((ys.drop (off * P.cellsOf el)).take m.length) w (by omega) (by rw [hlen]; exact ha)
                have ih' := ih (off + 1) xs ys hb
                simp only [List.range'_succ, Op.eqItems, Sem.run_bind, px, py, Result.andThen_ok, eq, Sem.run_ite, Sem.run_pure, ih']
                have hsplit : leavesEq (xs.drop (off * P.cellsOf el)) (ys.drop (off * P.cellsOf el)) =
                    (leavesEq ((xs.drop (off * P.cellsOf el)).take m.length) ((ys.drop (off * P.cellsOf el)).take m.length) && leavesEq (xs.drop ((off + 1) * P.cellsOf el)) (ys.drop ((off + 1) * P.cellsOf el))) := by
                  conv => lhs; rw [← List.take_append_drop m.length (xs.drop (off * P.cellsOf el)), ← List.take_append_drop m.length (ys.drop (off * P.cellsOf el))]
                  rw [leavesEq_append _ _ _ _ (hla.1.trans hla.2.symm), List.drop_drop, List.drop_drop, hlen, show off * P.cellsOf el + P.cellsOf el = (off + 1) * P.cellsOf el by rw [Nat.succ_mul]]
                rw [hsplit]
                cases leavesEq ((xs.drop (off * P.cellsOf el)).take m.length) ((ys.drop (off * P.cellsOf el)).take m.length) <;> simp
            have := key n 0 xs ys (by simpa using hk)
            simpa [List.range_eq_range'] using this
      case struct fs =>
        split at h
        case isTrue => cases h
        case isFalse hst =>
          have hag : isAggT P t = true := by simp [isAggT, hu]
          have hfo : P.fieldsOf t = fs := by simp [Program.fieldsOf, hu]
          rw [hag]
          simp only [mkVal, if_true]
          rw [run_equalIn_struct w e t xs.toArray ys.toArray (by rw [hfo]; exact hu) (by simpa using hst), hfo]
          have := flat_fields d 0 fs.toList l h e xs ys w (by omega) (by simpa using hk)
          simpa using this
theorem flat_fields {P : Program} : ∀ (d off : Nat) (fs : List Field) (l : List Nat), flatFs P d off fs = some l → ∀ (e : Nat) (xs ys : List Value) (w : World), d ≤ e →
    leavesOk l (xs.drop off) (ys.drop off) = true → (Op.eqFields e xs.toArray ys.toArray fs).run P w = .ok (leavesEq (xs.drop off) (ys.drop off)) w
  | 0, _, _, _, h, _, _, _, _, _, _ => by simp [flatFs] at h
  | d + 1, off, [], l, h, e, xs, ys, w, he, hk => by
    simp only [flatFs] at h
    cases h
    have := leavesOk_len _ _ _ hk
    simp only [List.length_nil] at this
    simp [Op.eqFields, List.eq_nil_of_length_eq_zero this.1, List.eq_nil_of_length_eq_zero this.2, leavesEq]
  | d + 1, off, f :: fs, l, h, e, xs, ys, w, he, hk => by
    simp only [flatFs] at h
    split at h
    case isFalse => cases h
    case isTrue hc =>
      obtain ⟨hn, ho, hinfo⟩ := hc
      cases hf : flatT P d f.type with
      | none => simp [hf] at h
      | some m =>
        cases hr : flatFs P d (off + P.cellsOf f.type) fs with
        | none => simp [hf, hr] at h
        | some r =>
          simp only [hf, hr] at h
          split at h
          case isFalse => cases h
          case isTrue hlen =>
            cases h
            obtain ⟨ha, hb⟩ := leavesOk_append _ _ _ _ hk
            have hla := leavesOk_len _ _ _ ha
            rw [hlen] at ha hb
            rw [List.drop_drop, List.drop_drop] at hb
            have px := run_part_flat hf hlen hinfo w xs.toArray off _ (by rw [← hlen]; exact hla.1) (by simp [hlen])
            have py := run_part_flat hf hlen hinfo w ys.toArray off _ (by rw [← hlen]; exact hla.2) (by simp [hlen])
            have eq := flat_equal d f.type m hf e ((xs.drop off).take m.length) ((ys.drop off).take m.length) w (by omega) (by rw [hlen]; exact ha)
            have ih := flat_fields d (off + P.cellsOf f.type) fs r hr e xs ys w (by omega) hb
            simp only [Op.eqFields, ne_eq, hn, not_false_eq_true, if_true, ho, Sem.run_bind, px, py, Result.andThen_ok, eq, Sem.run_ite, Sem.run_pure, ih]
            have hsplit : leavesEq (xs.drop off) (ys.drop off) = (leavesEq ((xs.drop off).take m.length) ((ys.drop off).take m.length) && leavesEq (xs.drop (off + P.cellsOf f.type)) (ys.drop (off + P.cellsOf f.type))) := by
              conv => lhs; rw [← List.take_append_drop m.length (xs.drop off), ← List.take_append_drop m.length (ys.drop off)]
              rw [leavesEq_append _ _ _ _ (hla.1.trans hla.2.symm), List.drop_drop, List.drop_drop, hlen]
            rw [hsplit]
            cases leavesEq ((xs.drop off).take m.length) ((ys.drop off).take m.length) <;> simp
end
end Go.Eng
