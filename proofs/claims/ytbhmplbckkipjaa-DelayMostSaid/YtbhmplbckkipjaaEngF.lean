/- The engine, part F: slices of slices; every operation that leaves the world alone, under one name; nothing of any program is proved here. -/
import Derived.Test.YtbhmplbckkipjaaEngE
namespace Go.Eng
open Go Go.RowKit
set_option linter.unusedSimpArgs false
set_option linter.unusedVariables false
section
variable {P : Program} {T : Tab} (hT : TabOk P T) {E : Env} {h : List It} {w0 : Org} {w : World} {F : Nat → Prop} {rd : Nat → Bool}

/-- A bound of a slice: seen at once, or left to be shown. -/
def upto (l : Bool) (i : Int) (n : Nat) (p : Prop) : Prop :=
  match l with
  | true => (match i with | .ofNat j => when (Nat.ble j n) p | .negSucc _ => False)
  | false => (0 ≤ i ∧ i ≤ (n : Int)) ∧ p
theorem upto_iff {l : Bool} {i : Int} {n : Nat} {p : Prop} (h : upto l i n p) : (0 ≤ i ∧ i ≤ (n : Int)) ∧ p := by
  cases l with
  | false => exact h
  | true =>
    match i, h with
    | .ofNat j, h =>
      obtain ⟨h1, h2⟩ := when_iff h
      have : j ≤ n := Nat.le_of_ble_eq_true h1
      exact ⟨⟨Int.natCast_nonneg j, Int.ofNat_le.2 this⟩, h2⟩

def bnd : Option XV → Option (Option (Bool × Int))
  | none => some none
  | some (.c x) => (match asI x with | some (l, _, n) => some (some (l, n)) | none => none)
  | some _ => none

def sliceX (T : Tab) (t : TypeId) (x : XV) (lo hi : Option XV) (k : XV → Prop) : Prop :=
  match T t with
  | some ti => (match ti.kd with
    | .sl e => (match T e, x with
      | some ei, .c (.rs n z f) => when (Nat.beq z ei.size) (match bnd lo, bnd hi with
        | some none, some none => k (.c (.rs n z f))
        | some (some (_, l)), some none => (0 ≤ l ∧ l ≤ (n : Int)) ∧ k (.c (.rs (n - l.toNat) z fun i => f (l.toNat + i)))
        | some none, some (some (_, r)) => (0 ≤ r ∧ r ≤ (n : Int)) ∧ k (.c (.rs r.toNat z f))
        | some (some (_, l)), some (some (_, r)) => (0 ≤ l ∧ l ≤ r ∧ r ≤ (n : Int)) ∧ k (.c (.rs (r.toNat - l.toNat) z fun i => f (l.toNat + i)))
        | _, _ => False)
      | _, _ => False)
    | .str => (match x with
      | .c (.v (.string s)) => (match bnd lo, bnd hi with
        | some none, some none => k (.c (.v (.string (s.extract 0 s.size))))
        | some (some (_, l)), some none => (0 ≤ l ∧ l ≤ (s.size : Int)) ∧ k (.c (.v (.string (s.extract l.toNat s.size))))
        | some none, some (some (_, r)) => (0 ≤ r ∧ r ≤ (s.size : Int)) ∧ k (.c (.v (.string (s.extract 0 r.toNat))))
        | some (some (_, l)), some (some (_, r)) => (0 ≤ l ∧ l ≤ r ∧ r ≤ (s.size : Int)) ∧ k (.c (.v (.string (s.extract l.toNat r.toNat))))
        | _, _ => False)
      | _ => False)
    | .arr n e => (match T e, x, bnd lo, bnd hi with
      | some ei, .c (.p it off), some none, some none => when (Nat.blt 0 n) (k (.c (.sp it off n ei.size)))
      | some ei, .c (.p it off), some none, some (some (l, r)) => when (Nat.blt 0 n) (upto l r n (k (.c (.sp it off r.toNat ei.size))))
      | _, _, _, _ => False)
    | _ => False)
  | none => False

theorem bnd_some {E : Env} {x : Option XV} {u : Option Value} {l : Bool} {n : Int} (h : bnd x = some (some (l, n))) (hr : ∀ y, x = some y → ∃ v, u = some v ∧ RelV E y v) : ∃ kd, u = some (.int kd n) := by
  unfold bnd at h
  split at h
  · cases h
  · rename_i y
    split at h
    · rename_i l' kd n' e
      cases h
      obtain ⟨v, rfl, hv⟩ := hr _ rfl
      exact ⟨kd, by rw [asI_rel e hv]⟩
    · cases h
  · cases h
theorem bnd_none {x : Option XV} (h : bnd x = some none) : x = none := by
  unfold bnd at h
  split at h
  · rfl
  · split at h <;> cases h
  · cases h

theorem elem_sl {t e : TypeId} (hu : P.underlying t = some (.slice e)) : P.elem t = e := by simp [Program.elem, hu]

theorem rs_sub {n z : Nat} {f : Nat → Nat → XC} {A : Option Addr} {c l r : Nat} (hx : RelC E (.rs n z f) (.slice A n c)) (hlr : l ≤ r) (hr : r ≤ n) :
    RelC E (.rs (r - l) z fun i => f (l + i)) (sliced A l r c z) := by
  obtain ⟨A', c', e, hn, hm, hc⟩ := hx
  cases e
  refine ⟨_, c - l, rfl, by omega, by omega, fun i hi => ?_⟩
  obtain ⟨ad, rfl, hcell⟩ := hc (l + i) (by omega)
  rw [if_neg (by omega)]
  refine ⟨ad.add (l * z), rfl, fun j hj => ?_⟩
  obtain ⟨hb, v, hv, hrel⟩ := hcell j hj
  exact ⟨by rw [block_add]; exact hb, v, by rw [add_add, show l * z + (i * z + j) = (l + i) * z + j by rw [Nat.add_mul]; omega]; exact hv, hrel⟩

include hT in
theorem sliceX_sound {S : World → Prop} {t : TypeId} {x : XV} {u : Value} {lo hi : Option XV} {ul uh : Option Value} {k : XV → Prop} (hh : sliceX T t x lo hi k) (hx : RelV E x u)
    (hl : ∀ y, lo = some y → ∃ v, ul = some v ∧ RelV E y v) (hl0 : lo = none → ul = none) (hr : ∀ y, hi = some y → ∃ v, uh = some v ∧ RelV E y v) (hr0 : hi = none → uh = none) :
    Gives P S (Instr.sliceAt t u ul uh none) E k := by
  unfold sliceX at hh
  split at hh
  case h_2 => exact hh.elim
  rename_i ti ht
  have hkd' := (TIs.of (hT _ _ ht)).kd
  split at hh
  · rename_i e hkd
    have hu := mkKd_sl (hkd'.symm.trans hkd)
    have hel := elem_sl hu
    have hu' : P.underlying t = some (.slice (P.elem t)) := by rw [hel]; exact hu
    split at hh
    case h_2 => exact hh.elim
    rename_i ei n z f hte
    have hs := TIs.of (hT _ _ hte)
    replace hh := when_iff hh
    obtain ⟨hz, hh⟩ := hh
    have hz := Nat.eq_of_beq_eq_true hz
    have hx' := hx
    obtain ⟨A, c, rfl, hnc, hm, hc⟩ := hx
    have sz : ∀ W, (sizeOf (P.elem t)).run P W = .ok z W := fun W => by rw [hel, run_size hs, hz]
    split at hh
    · rename_i e1 e2
      have e1 := hl0 (bnd_none e1); have e2 := hr0 (bnd_none e2); subst e1; subst e2
      refine Gives.mk hh hx' (fun W _ => ?_)
      rw [run_sliceAt_slice W t _ _ _ _ hu', run_slice_all W t A n c hu', sz]
      by_cases hc0 : c = 0
      · simp [sliced, hc0]
      · cases A <;> simp [sliced, hc0, Addr.add_zero']
    · rename_i b l e1 e2
      obtain ⟨kd, rfl⟩ := bnd_some (E := E) e1 hl
      have e2 := hr0 (bnd_none e2); subst e2
      obtain ⟨hin, hk⟩ := hh
      refine Gives.mk hk (rs_sub (l := l.toNat) (r := n) hx' (by omega) (Nat.le_refl _)) (fun W _ => ?_)
      rw [run_sliceAt_slice W t _ _ _ _ hu', run_slice_l W t A n c hu' kd l hin.1 hin.2, sz]; rfl
    · rename_i b r e1 e2
      have e1 := hl0 (bnd_none e1); subst e1
      obtain ⟨kd, rfl⟩ := bnd_some (E := E) e2 hr
      obtain ⟨hin, hk⟩ := hh
      have hsub := rs_sub (l := 0) (r := r.toNat) hx' (Nat.zero_le _) (by omega)
      simp only [Nat.zero_add, Nat.sub_zero] at hsub
      refine Gives.mk hk hsub (fun W _ => ?_)
      rw [run_sliceAt_slice W t _ _ _ _ hu', run_slice_h W t A n c hu' kd r hin.1 (by omega), sz]; rfl
    · rename_i b l b' r e1 e2
      obtain ⟨kd, rfl⟩ := bnd_some (E := E) e1 hl
      obtain ⟨kd', rfl⟩ := bnd_some (E := E) e2 hr
      obtain ⟨hin, hk⟩ := hh
      refine Gives.mk hk (rs_sub (l := l.toNat) (r := r.toNat) hx' (by omega) (by omega)) (fun W _ => ?_)
      rw [run_sliceAt_slice W t _ _ _ _ hu', run_slice_lh W t A n c hu' kd kd' l r hin.1 hin.2.1 (by omega), sz]; rfl
    · exact hh.elim
  · rename_i hkd
    have hu := mkKd_str (hkd'.symm.trans hkd)
    split at hh
    case h_2 => exact hh.elim
    rename_i s
    have : u = .string s := hx.1
    subst this
    have run : ∀ (l r : Nat) (W : World), (Instr.sliceBounds false s.size s.size ul uh none).run P W = .ok (l, r, s.size) W → (Instr.sliceAt t (.string s) ul uh none).run P W = .ok (.string (s.extract l r)) W := fun l r W hb => by
      rw [run_sliceAt_string W t _ _ _ _ hu]
      simp [Instr.slice, run_underlying hu, hb]
    have bd : ∀ (kd : IntKind) (i : Int) (y : Nat) (code : BoundsCode) (W : World), 0 ≤ i → i ≤ (y : Int) → (Instr.sliceBound (.int kd i) y code).run P W = .ok i.toNat W := fun kd i y code W h0 h1 => run_sliceBound W kd i y code h0 h1
    split at hh
    · rename_i e1 e2
      have e1 := hl0 (bnd_none e1); have e2 := hr0 (bnd_none e2); subst e1; subst e2
      exact Gives.mk hh (show RelC E (.v _) _ from ⟨rfl, rfl⟩) (fun W _ => run _ _ W (by simp [Instr.sliceBounds]))
    · rename_i b l e1 e2
      obtain ⟨kd, rfl⟩ := bnd_some (E := E) e1 hl
      have e2 := hr0 (bnd_none e2); subst e2
      obtain ⟨hin, hk⟩ := hh
      exact Gives.mk hk (show RelC E (.v _) _ from ⟨rfl, rfl⟩) (fun W _ => run _ _ W (by simp [Instr.sliceBounds, bd _ _ _ _ _ hin.1 hin.2]))
    · rename_i b r e1 e2
      have e1 := hl0 (bnd_none e1); subst e1
      obtain ⟨kd, rfl⟩ := bnd_some (E := E) e2 hr
      obtain ⟨hin, hk⟩ := hh
      exact Gives.mk hk (show RelC E (.v _) _ from ⟨rfl, rfl⟩) (fun W _ => run _ _ W (by simp [Instr.sliceBounds, bd _ _ _ _ _ hin.1 hin.2]))
    · rename_i b l b' r e1 e2
      obtain ⟨kd, rfl⟩ := bnd_some (E := E) e1 hl
      obtain ⟨kd', rfl⟩ := bnd_some (E := E) e2 hr
      obtain ⟨hin, hk⟩ := hh
      exact Gives.mk hk (show RelC E (.v _) _ from ⟨rfl, rfl⟩) (fun W _ => run _ _ W (by
        simp [Instr.sliceBounds, bd kd' r s.size _ W (by omega) hin.2.2, bd kd l r.toNat _ W hin.1 (by omega)]))
    · exact hh.elim
  · rename_i n e hkd
    have hu := mkKd_arr (hkd'.symm.trans hkd)
    have hel : P.elem t = e := by simp [Program.elem, hu]
    have hln : P.arrayLen t = n := by simp [Program.arrayLen, hu]
    split at hh
    · rename_i ei it off hte e1 e2
      have hs := TIs.of (hT _ _ hte)
      replace hh := when_iff hh
      obtain ⟨hn, hh⟩ := hh
      have e1 := hl0 (bnd_none e1); have e2 := hr0 (bnd_none e2); subst e1; subst e2
      obtain ⟨hlt, rfl⟩ := hx
      refine Gives.mk hh (show RelC E (.sp it off n ei.size) (.slice (some ⟨E.blk it, off, none⟩) n n) from ⟨hlt, n, rfl, Nat.le_refl _⟩) (fun W _ => ?_)
      simp only [Instr.sliceAt, Sem.run_bind, run_underlying hu, Result.andThen_ok, Instr.sureAddr, Sem.run_pure, Instr.sliceBounds, run_size hs]
      simp [Addr.add_zero', show n ≠ 0 by have : 0 + 1 ≤ n := by simpa [Nat.blt, Nat.ble_eq] using hn
                                          omega]
    · rename_i ei it off l r hte e1 e2
      have hs := TIs.of (hT _ _ hte)
      replace hh := when_iff hh
      obtain ⟨hn, hh⟩ := hh
      have e1 := hl0 (bnd_none e1); subst e1
      obtain ⟨kd, rfl⟩ := bnd_some (E := E) e2 hr
      obtain ⟨hin, hk⟩ := upto_iff hh
      obtain ⟨hlt, rfl⟩ := hx
      refine Gives.mk hk (show RelC E (.sp it off r.toNat ei.size) (.slice (some ⟨E.blk it, off, none⟩) r.toNat n) from ⟨hlt, n, rfl, by omega⟩) (fun W _ => ?_)
      simp only [Instr.sliceAt, Sem.run_bind, run_underlying hu, Result.andThen_ok, Instr.sureAddr, Sem.run_pure, Instr.sliceBounds, run_sliceBound W kd r n .sliceAlen hin.1 hin.2, run_size hs]
      simp [Addr.add_zero', run_sliceBound W kd r n .sliceAlen hin.1 hin.2, show n ≠ 0 by have : 0 + 1 ≤ n := by simpa [Nat.blt, Nat.ble_eq] using hn
                                                                                          omega]
    · exact hh.elim
  · exact hh.elim

def maxX (mx : Bool) (x y : XV) (k : XV → Prop) : Prop :=
  match x, y with
  | .c x, .c y => (match asI x, asI y with
    | some (l1, k1, a), some (l2, _, b) => (match mx with
      | true => k (.c (ofI (l1 && l2) k1 (if b > a then b else a)))
      | false => k (.c (ofI (l1 && l2) k1 (if b < a then b else a))))
    | _, _ => False)
  | _, _ => False
theorem maxX_sound {S : World → Prop} {mx : Bool} {x y : XV} {u v : Value} {k : XV → Prop} (hh : maxX mx x y k) (hx : RelV E x u) (hy : RelV E y v) (ts : Array TypeId) (t : TypeId) :
    Gives P S (if mx then Builtin.max_ ts t #[u, v] else Builtin.min_ ts t #[u, v]) E k := by
  unfold maxX at hh
  split at hh
  case h_2 => exact hh.elim
  split at hh
  case h_2 => exact hh.elim
  rename_i e1 e2
  have e1 := asI_rel e1 hx; have e2 := asI_rel e2 hy; subst e1; subst e2
  cases mx
  · exact Gives.mk hh (ofI_rel E _ _ _) (fun W _ => by simpa using run_min_int2 W ts t _ _ _ _)
  · exact Gives.mk hh (ofI_rel E _ _ _) (fun W _ => by simpa using run_max_int2 W ts t _ _ _ _)

def nilX (x : XV) (k : XV → Prop) : Prop :=
  match x with
  | .c (.p a b) => k (.c (.p a b))
  | .c (.ep m f) => k (.c (.ep m f))
  | .c (.q a b c d) => k (.c (.q a b c d))
  | .c (.fn f n c) => k (.c (.fn f n c))
  | .c (.v (.func (.func f) fs cs)) => k (.c (.v (.func (.func f) fs cs)))
  | _ => False

/-- Captured values. -/
def capsX : List XV → Option (List XC)
  | [] => some []
  | .c x :: l => (match capsX l with | some r => some (x :: r) | none => none)
  | _ :: _ => none
def nthC (l : List XC) (i : Nat) : XC := match l, i with
  | [], _ => .un
  | a :: _, 0 => a
  | _ :: l, n + 1 => nthC l n

def callX (T : Tab) (ts : List XV) (h : List It) (c : Call) (k : XV → Prop) : Prop :=
  match c.callee, c.args.toList, c.argTypes.toList with
  | .builtin .len, [x], [t] => lenX T t (opv ts x) h k
  | .builtin .max, [x, y], _ => maxX true (opv ts x) (opv ts y) k
  | .builtin .min, [x, y], _ => maxX false (opv ts x) (opv ts y) k
  | _, _, _ => False

/-- What an operation that leaves the world alone yields. -/
def valX (T : Tab) (ts : List XV) (h : List It) (rd : Nat → Bool) (op : Op) (k : XV → Prop) : Prop :=
  match op with
  | .move x | .assign x => k (opv ts x)
  | .pick c a b => (match opv ts c with
    | .c .bt => k (opv ts a)
    | .c .bf => k (opv ts b)
    | .c (.b x) => (x = true → k (opv ts a)) ∧ (x = false → k (opv ts b))
    | _ => False)
  | .build t ps => buildX T t (ps.toList.map fun p => (p.1, opv ts p.2)) k
  | .load t a => loadX T t (opv ts a) h rd k
  | .nilCheck x => nilX (opv ts x) k
  | .binOp op t x y _ => binX T op t (opv ts x) (opv ts y) k
  | .unOp op _ x => unX op (opv ts x) k
  | .convert s d x => convX T s d (opv ts x) k
  | .slice t x lo hi none => sliceX T t (opv ts x) (lo.map (opv ts)) (hi.map (opv ts)) k
  | .fieldAddr s x f => faddrX T s (opv ts x) f k
  | .field s x f => fieldX T s (opv ts x) f k
  | .indexAddr t x i => iaddrX T t (opv ts x) (opv ts i) h k
  | .index t x i => indexX T t (opv ts x) (opv ts i) k
  | .extract x i => extractX (opv ts x) i k
  | .makeFunc (.func f) first caps => (match first.toList, capsX (caps.toList.map (opv ts)) with
    | [], some l => forceL l fun l => k (.c (.fn f l.length (nthC l)))
    | _, _ => False)
  | .call c => callX T ts h c k
  | _ => False

theorem capsX_rel : ∀ {xs : List XV} {us : List Value} {l : List XC}, capsX xs = some l → (∀ (i : Nat) (x : XV) (u : Value), xs[i]? = some x → us[i]? = some u → RelV E x u) → xs.length = us.length → RelL E l us
  | [], [], l, e, _, _ => by simp [capsX] at e; subst e; trivial
  | .c x :: xs, u :: us, l, e, hh, hl => by
    unfold capsX at e
    split at e
    · rename_i r hr
      cases e
      exact ⟨hh 0 _ _ rfl rfl, capsX_rel hr (fun i x u hx hu => hh (i + 1) x u (by simpa using hx) (by simpa using hu)) (by simpa using hl)⟩
    · cases e
  | .un :: _, _, _, e, _, _ => by simp [capsX] at e
  | .a _ :: _, _, _, e, _, _ => by simp [capsX] at e
  | .t _ :: _, _, _, e, _, _ => by simp [capsX] at e
  | [], _ :: _, _, _, _, hl => by simp at hl
  | _ :: _, [], _, _, _, hl => by simp at hl

theorem nthC_eq : ∀ (l : List XC) (i : Nat) (x : XC), l[i]? = some x → nthC l i = x
  | _ :: _, 0, x, e => by simpa [nthC] using e
  | _ :: l, i + 1, x, e => by simpa [nthC] using nthC_eq l i x (by simpa using e)
  | [], _, _, e => by simp at e

theorem Gives.bind_pure {S : World → Prop} {s : Sem Value} {k : XV → Prop} (hg : Gives P S s E k) :
    ∃ x u, k x ∧ RelV E x u ∧ ∀ W, S W → (do let v ← s; pure (Next.value v) : Sem Next).run P W = .ok (.value u) W := by
  obtain ⟨x, u, hk, hr, hrun⟩ := hg
  exact ⟨x, u, hk, hr, fun W hW => by simp [hrun W hW]⟩

include hT in
theorem valX_sound {ts : List XV} {o : Oper} {a : Act} {k : XV → Prop} (hh : valX T ts h rd o.op k) (hr : RelTs E ts a.tmps.toList) (hp : Heap w0 F E h w) :
    ∃ x u, k x ∧ RelV E x u ∧ ∀ W, Same E h rd w W → (execOp a.eval o).run P W = .ok (.value u) W := by
  have ev := fun x => opv_rel (E := E) hr x
  unfold valX at hh
  unfold execOp
  split at hh <;> rename_i hop
  case h_18 => exact hh.elim
  all_goals (simp only [hop])
  · exact ⟨_, _, hh, ev _, fun W _ => rfl⟩
  · exact ⟨_, _, hh, ev _, fun W _ => rfl⟩
  · rename_i c x y
    have hc := ev c
    split at hh
    · rename_i e; rw [e] at hc
      have hc : a.eval c = .bool true := hc
      exact ⟨_, _, hh, ev x, fun W _ => by simp [hc, asBool]⟩
    · rename_i e; rw [e] at hc
      have hc : a.eval c = .bool false := hc
      exact ⟨_, _, hh, ev y, fun W _ => by simp [hc, asBool]⟩
    · rename_i b e; rw [e] at hc
      have hc : a.eval c = .bool b := hc
      cases b
      · exact ⟨_, _, hh.2 rfl, ev y, fun W _ => by simp [hc, asBool]⟩
      · exact ⟨_, _, hh.1 rfl, ev x, fun W _ => by simp [hc, asBool]⟩
    · exact hh.elim
  · rename_i t ps
    refine Gives.bind_pure (buildX_sound hT hh (by simp [Function.comp_def]) fun i x u hx hu => ?_)
    simp only [List.map_map, Array.toList_map] at hx hu
    simp only [List.getElem?_map, Option.map_eq_some_iff] at hx hu
    obtain ⟨p, hp', rfl⟩ := hx
    obtain ⟨p', hp'', rfl⟩ := hu
    rw [hp'] at hp''; cases hp''
    exact ev _
  · exact Gives.bind_pure (loadX_sound hT hh (ev _) hp)
  · rename_i x
    have hx := ev x
    unfold nilX at hh
    split at hh
    · rename_i e; rw [e] at hx
      have hx' : a.eval x = .pointer (some _) := hx.2
      exact ⟨_, _, hh, hx, fun W _ => by rw [hx']; rfl⟩
    · rename_i e; rw [e] at hx
      obtain ⟨ad, hx', _⟩ := id hx
      exact ⟨_, _, hh, hx, fun W _ => by rw [hx']; rfl⟩
    · rename_i e; rw [e] at hx
      obtain ⟨_, _, _, _, _, hx'⟩ := id hx
      exact ⟨_, _, hh, hx, fun W _ => by rw [hx']; rfl⟩
    · rename_i e; rw [e] at hx
      obtain ⟨vs, hx', _⟩ := id hx
      exact ⟨_, _, hh, hx, fun W _ => by rw [hx']; rfl⟩
    · rename_i e; rw [e] at hx
      have hx' := hx.1
      exact ⟨_, _, hh, hx, fun W _ => by rw [hx']; rfl⟩
    · exact hh.elim
  · exact Gives.bind_pure (binX_sound hT _ _ hh (ev _) (ev _))
  · exact Gives.bind_pure (unX_sound hh (ev _))
  · exact Gives.bind_pure (convX_sound hT hh (ev _))
  · rename_i t x lo hi
    refine Gives.bind_pure (sliceX_sound hT hh (ev x) ?_ ?_ ?_ ?_)
    · intro y hy; cases lo <;> simp at hy; subst hy; exact ⟨_, rfl, ev _⟩
    · intro hy; cases lo <;> simp at hy; rfl
    · intro y hy; cases hi <;> simp at hy; subst hy; exact ⟨_, rfl, ev _⟩
    · intro hy; cases hi <;> simp at hy; rfl
  · exact Gives.bind_pure (faddrX_sound hT hh (ev _))
  · exact Gives.bind_pure (fieldX_sound hT hh (ev _))
  · exact Gives.bind_pure (iaddrX_sound hT hh (ev _) (ev _) hp)
  · exact Gives.bind_pure (indexX_sound hT hh (ev _) (ev _))
  · exact Gives.bind_pure (extractX_sound hh (ev _))
  · rename_i f first caps
    split at hh
    · rename_i l e1 e2
      rw [forceL_eq] at hh
      have hfirst : first = #[] := by cases first; simpa using e1
      subst hfirst
      have hl := capsX_rel (E := E) (us := (caps.map a.eval).toList) e2 (fun i x u hx hu => by
        simp only [Array.toList_map, List.getElem?_map, Option.map_eq_some_iff] at hx hu
        obtain ⟨p, hp', rfl⟩ := hx
        obtain ⟨p', hp'', rfl⟩ := hu
        rw [hp'] at hp''; cases hp''
        exact ev _) (by simp)
      refine ⟨_, .func (.func f) #[] (caps.map a.eval), hh, ?_, fun W _ => ?_⟩
      · have hlen : (caps.map a.eval).size = l.length := by rw [← Array.length_toList]; exact hl.len.symm
        refine ⟨_, rfl, hlen, fun j hj => ?_⟩
        obtain ⟨v, hv, hrel⟩ := hl.get j (List.getElem?_eq_getElem hj)
        exact ⟨v, by simpa using hv, by rw [nthC_eq l j _ (List.getElem?_eq_getElem hj)]; exact hrel⟩
      · simp [Instr.makeFunc]
    · exact hh.elim
  · rename_i c
    obtain ⟨callee, args, argTypes⟩ := c
    unfold callX at hh
    simp only at hh
    split at hh
    · rename_i x t e2 e3
      obtain rfl : args = #[x] := by cases args; simpa using e2
      obtain rfl : argTypes = #[t] := by cases argTypes; simpa using e3
      have hg := Gives.bind_pure (lenX_sound (ty := o.type) hT hh (ev x) hp (S := Same E h rd w))
      simpa [resolve, invoke, builtin] using hg
    · rename_i x y e2
      obtain rfl : args = #[x, y] := by cases args; simpa using e2
      have hg := Gives.bind_pure (maxX_sound (P := P) hh (ev x) (ev y) argTypes o.type (S := Same E h rd w))
      simpa [resolve, invoke, builtin] using hg
    · rename_i x y e2
      obtain rfl : args = #[x, y] := by cases args; simpa using e2
      have hg := Gives.bind_pure (maxX_sound (P := P) hh (ev x) (ev y) argTypes o.type (S := Same E h rd w))
      simpa [resolve, invoke, builtin] using hg
    · exact hh.elim
end
end Go.Eng
