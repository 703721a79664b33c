/- The engine, part D: addresses, parts, loads: operations that look at memory and leave it alone; nothing of any program is proved here. -/
import Derived.Test.YtbhmplbckkipjaaEngC
namespace Go.Eng
open Go Go.RowKit
set_option linter.unusedSimpArgs false
set_option linter.unusedVariables false

theorem block_add (a : Addr) (n : Nat) : (a.add n).block = a.block := by unfold Addr.add; split <;> rfl
theorem add_add (a : Addr) (i j : Nat) : (a.add i).add j = a.add (i + j) := by
  unfold Addr.add
  by_cases hi : i = 0 <;> by_cases hj : j = 0 <;> simp [hi, hj, Nat.add_assoc]
theorem add_lit (b o n : Nat) : Addr.add ⟨b, o, none⟩ n = ⟨b, o + n, none⟩ := Addr.add_lit b o n

def ofVal : Value → XC
  | .int k n => .il k n
  | .bool true => .bt
  | .bool false => .bf
  | v => .v v
theorem ofVal_rel (E : Env) (v : Value) (h : v.oneCell' = true) : RelC E (ofVal v) v := by
  unfold ofVal
  split <;> first | rfl | exact ⟨rfl, h⟩

def ofConst : Value → XV
  | .agg cs => (match cs.toList.all (·.oneCell') with | true => .a (cs.toList.map ofVal) | false => .un)
  | .tuple _ => .un
  | v => .c (ofVal v)
theorem ofConst_rel (E : Env) (v : Value) : RelV E (ofConst v) v := by
  cases v
  case agg cs =>
    simp only [ofConst]
    split
    · rename_i h
      refine ⟨cs, rfl, ?_⟩
      have h' : ∀ u ∈ cs.toList, u.oneCell' = true := fun u hu => List.all_eq_true.1 h u hu
      generalize cs.toList = l at h'
      clear h
      induction l with
      | nil => trivial
      | cons u l ih => exact ⟨ofVal_rel E u (h' u (by simp)), ih fun v hv => h' v (by simp [hv])⟩
    · trivial
  case tuple => trivial
  all_goals exact ofVal_rel E _ rfl

def opv (ts : List XV) : Operand → XV
  | .tmp t => get ts t
  | .const v => ofConst v
  | .func f => .c (.v (.func (.func f) #[] #[]))
  | .global _ => .un
theorem opv_rel {E : Env} {ts : List XV} {a : Act} (h : RelTs E ts a.tmps.toList) (x : Operand) : RelV E (opv ts x) (a.eval x) := by
  cases x with
  | tmp t =>
    have := h.get t
    have e : a.eval (.tmp t) = a.tmps.toList.getD t undef := by simp [Act.eval]
    rw [e]; exact this
  | const v => exact ofConst_rel E v
  | func f => exact ⟨rfl, rfl⟩
  | global g => trivial

/-! ### so many cells as a value -/
def mkX (agg : Bool) (l : List XC) (k : XV → Prop) : Prop :=
  match agg, l with
  | true, l => k (.a l)
  | false, [x] => k (.c x)
  | false, _ => False
theorem mkX_sound {E : Env} {agg : Bool} {l : List XC} {us : List Value} {k : XV → Prop} (h : mkX agg l k) (hr : RelL E l us) : ∃ x, k x ∧ RelV E x (mkVal agg us) := by
  unfold mkX at h
  split at h
  · exact ⟨_, h, us.toArray, rfl, by simpa using hr⟩
  · match us, hr with
    | [u], hr => exact ⟨_, h, hr.1⟩
  · exact h.elim

def cutK (l : List XC) (off n : Nat) (k : List XC → Prop) : Prop := forceL ((l.drop off).take n) fun r => when (Nat.beq r.length n) (k r)
theorem cutK_iff {l : List XC} {off n : Nat} {k : List XC → Prop} (h : cutK l off n k) : ((l.drop off).take n).length = n ∧ k ((l.drop off).take n) := by
  unfold cutK at h
  rw [forceL_eq] at h
  obtain ⟨h1, h2⟩ := when_iff h
  exact ⟨Nat.eq_of_beq_eq_true h1, h2⟩

/-- So many cells of a function. -/
def genK : Nat → Nat → (Nat → XC) → (List XC → Prop) → Prop
  | 0, _, _, k => k []
  | n + 1, o, f, k => forceC (f o) fun x => genK n (o + 1) f fun l => k (x :: l)
theorem genK_eq : ∀ (n o : Nat) (f : Nat → XC) (k : List XC → Prop), genK n o f k = k ((List.range' o n).map f)
  | 0, _, _, _ => rfl
  | n + 1, o, f, k => by simp only [genK, forceC_eq, genK_eq n (o + 1) f, List.range'_succ, List.map_cons]

/-! ### parts of values -/
def fieldX (T : Tab) (s : TypeId) (x : XV) (f : Nat) (k : XV → Prop) : Prop :=
  match T s with
  | some { kd := .st fs, .. } => (match fs[f]? with
    | some (o, ft) => (match T ft, x with
      | some fi, .a l => cutK l o fi.size fun r => mkX fi.agg r k
      | _, _ => False)
    | none => False)
  | _ => False

theorem fieldX_sound {P : Program} {T : Tab} (hT : TabOk P T) {S : World → Prop} {E : Env} {s : TypeId} {x : XV} {u : Value} {f : Nat} {k : XV → Prop} (h : fieldX T s x f k) (hx : RelV E x u) :
    Gives P S (Instr.field s u f) E k := by
  unfold fieldX at h
  split at h
  case h_2 => exact h.elim
  rename_i fs _ ht
  obtain ⟨fields, hu, hfs⟩ := mkKd_st (TIs.of (hT _ _ ht)).kd.symm
  split at h
  case h_2 => exact h.elim
  rename_i o ft hf
  split at h
  case h_2 => exact h.elim
  rename_i fi l hft
  have hs := TIs.of (hT _ _ hft)
  obtain ⟨vs, rfl, hl⟩ := hx
  obtain ⟨hlen, h⟩ := cutK_iff h
  rw [hfs] at hf
  simp only [List.getElem?_map, Option.map_eq_some_iff, Prod.mk.injEq] at hf
  obtain ⟨fd, hfd, rfl, rfl⟩ := hf
  have hr := (hl.drop fd.offset).take fi.size
  obtain ⟨y, hk, hy⟩ := mkX_sound h hr
  have hlv := hr.len.symm.trans hlen
  have hfa : fields[f]? = some fd := by simpa using hfd
  refine ⟨y, _, hk, hy, fun w _ => ?_⟩
  simp only [Instr.field, Sem.run_bind, run_underlying hu, Result.andThen_ok, hfa, asAgg, Sem.run_pure, run_part hs w vs fd.offset _ hlv rfl]

def indexX (T : Tab) (t : TypeId) (x y : XV) (k : XV → Prop) : Prop :=
  match y with
  | .c y => (match asI y with
    | some (l, _, i) => (match T t, x with
      | some { kd := .arr n e, .. }, .a cs => (match T e with
        | some ei => inside l i n (cutK cs (i.toNat * ei.size) ei.size fun r => mkX ei.agg r k)
        | none => False)
      | some { kd := .str, .. }, .c (.v (.string s)) => inside false i s.size (k (.c (.i .u8 (s.data.toList.getD i.toNat 0).toNat)))
      | _, _ => False)
    | none => False)
  | _ => False

theorem indexX_sound {P : Program} {T : Tab} (hT : TabOk P T) {S : World → Prop} {E : Env} {t : TypeId} {x y : XV} {u v : Value} {k : XV → Prop} (h : indexX T t x y k) (hx : RelV E x u) (hy : RelV E y v) :
    Gives P S (Instr.index t u v) E k := by
  unfold indexX at h
  split at h
  case h_2 => exact h.elim
  split at h
  case h_2 => exact h.elim
  rename_i y l kd i hi
  have hv := asI_rel hi hy
  subst hv
  split at h
  · rename_i n e _ cs ht
    have hu := mkKd_arr (TIs.of (hT _ _ ht)).kd.symm
    split at h
    case h_2 => exact h.elim
    rename_i ei hte
    have hs := TIs.of (hT _ _ hte)
    obtain ⟨vs, rfl, hl⟩ := hx
    obtain ⟨hin, h⟩ := inside_iff h
    obtain ⟨hlen, h⟩ := cutK_iff h
    have hr := (hl.drop (i.toNat * ei.size)).take ei.size
    obtain ⟨z, hk, hz⟩ := mkX_sound h hr
    refine ⟨z, _, hk, hz, fun w _ => ?_⟩
    simp only [Instr.index, Sem.run_bind, asIntOf, Sem.run_pure, Result.andThen_ok, run_underlying hu, hin, and_self, if_true, run_size hs, run_part hs w vs _ _ (hr.len.symm.trans hlen) rfl]
  · rename_i s ht
    have hu := mkKd_str (TIs.of (hT _ _ ht)).kd.symm
    have : u = .string s := hx.1
    subst this
    obtain ⟨hin, h⟩ := inside_iff h
    have hlt : i.toNat < s.size := by omega
    refine Gives.mk h (show RelC E (.i _ _) (.int .u8 (s[i.toNat]).toNat) from ?_) (fun w _ => ?_)
    · have : s.data.toList.getD i.toNat 0 = s[i.toNat] := by
        have hl : i.toNat < s.data.toList.length := by simpa using hlt
        rw [List.getD_eq_getElem?_getD, List.getElem?_eq_getElem hl]
        rfl
      rw [this]; rfl
    · rw [run_index_string w t s kd i hu, dif_pos hin]
  · exact h.elim

def extractX (x : XV) (i : Nat) (k : XV → Prop) : Prop :=
  match x with
  | .t l => (match l[i]? with | some (.c x) => k (.c x) | some (.a l) => k (.a l) | none => False)
  | _ => False
theorem RelWs.get {E : Env} : ∀ {l : List XW} {vs : List Value} (_ : RelWs E l vs) (i : Nat) {x : XW}, l[i]? = some x → ∃ v, vs[i]? = some v ∧ RelW E x v
  | [], [], _, i, x, h => by simp at h
  | _ :: _, v :: _, h, 0, x, hx => by simp at hx; subst hx; exact ⟨v, rfl, h.1⟩
  | _ :: l, _ :: vs, h, i + 1, x, hx => by simpa using RelWs.get h.2 i (by simpa using hx)
theorem extractX_sound {P : Program} {S : World → Prop} {E : Env} {x : XV} {u : Value} {i : Nat} {k : XV → Prop} (h : extractX x i k) (hx : RelV E x u) : Gives P S (Instr.extract u i) E k := by
  unfold extractX at h
  split at h
  case h_2 => exact h.elim
  obtain ⟨vs, rfl, hl⟩ := hx
  split at h
  · rename_i y e
    obtain ⟨v, hv, hr⟩ := hl.get i e
    exact Gives.mk h (show RelV E (.c y) v from hr) (fun w _ => by simp [Instr.extract, show vs[i]? = some v by simpa using hv])
  · rename_i y e
    obtain ⟨v, hv, hr⟩ := hl.get i e
    exact Gives.mk h (show RelV E (.a y) v from hr) (fun w _ => by simp [Instr.extract, show vs[i]? = some v by simpa using hv])
  · exact h.elim

/-! ### structs and arrays that are built -/
def zeroX (z : List Value) : List XC := z.map ofVal
theorem zeroX_rel (E : Env) : ∀ (z : List Value), (∀ u ∈ z, u.oneCell' = true) → RelL E (zeroX z) z
  | [], _ => trivial
  | u :: z, h => ⟨ofVal_rel E u (h u (by simp)), zeroX_rel E z fun v hv => h v (by simp [hv])⟩

def putL (cs : List XC) (o : Nat) (new : List XC) : List XC := cs.take o ++ new ++ cs.drop (o + new.length)

/-- The parts, each at its place ('place' tells where a part begins and how many cells it has). -/
def fillX (place : Nat → Option (Nat × Nat)) : List (Nat × XV) → List XC → (List XC → Prop) → Prop
  | [], cs, k => k cs
  | (i, x) :: ps, cs, k => (match place i, cells x with
    | some (o, z), some l => when (Nat.beq l.length z && Nat.ble (o + z) cs.length) (forceL (putL cs o l) fun cs => fillX place ps cs k)
    | _, _ => False)

theorem foldl_put (o : Nat) : ∀ (vs : List Value) (j : Nat) (cs : Array Value), o + j + vs.length ≤ cs.size →
    ((vs.zipIdx j).foldl (fun (cs : Array Value) (c : Value × Nat) => cs.setIfInBounds (o + c.2) c.1) cs).toList = cs.toList.take (o + j) ++ vs ++ cs.toList.drop (o + j + vs.length)
  | [], j, cs, _ => by simp
  | v :: vs, j, cs, h => by
    simp only [List.length_cons] at h
    have ih := foldl_put o vs (j + 1) (cs.setIfInBounds (o + j) v) (by simp; omega)
    simp only [List.zipIdx_cons, List.foldl_cons]
    rw [ih]
    have hlt : o + j < cs.toList.length := by simp; omega
    simp only [Array.toList_setIfInBounds]
    rw [show o + (j + 1) = o + j + 1 by omega, List.take_succ_eq_append_getElem (by simpa using hlt), List.getElem_set_self, List.take_set_of_le (Nat.le_refl _), List.drop_set_of_lt (by omega),
      List.append_assoc, List.append_assoc, List.append_assoc, show o + j + 1 + vs.length = o + j + (vs.length + 1) by omega]
    rfl

theorem RelL.put {E : Env} {cs : List XC} {us : List Value} {l : List XC} {vs : List Value} (o : Nat) (h : RelL E cs us) (h' : RelL E l vs) :
    RelL E (putL cs o l) (us.take o ++ vs ++ us.drop (o + vs.length)) := by
  unfold putL
  rw [h'.len]
  exact ((h.take o).append h').append (h.drop _)

theorem fillX_sound {E : Env} {place : Nat → Option (Nat × Nat)} : ∀ {ps : List (Nat × XV)} {us : List (Nat × Value)} {cs : List XC} {vs : Array Value} {k : List XC → Prop},
    fillX place ps cs k → ps.map (·.1) = us.map (·.1) → (∀ (i : Nat) (x : XV) (u : Value), (ps.map (·.2))[i]? = some x → (us.map (·.2))[i]? = some u → RelV E x u) → RelL E cs vs.toList →
    ∃ cs' vs', k cs' ∧ Instr.fill place vs us = some vs' ∧ RelL E cs' vs'.toList ∧ vs'.size = vs.size
  | [], [], cs, vs, k, h, _, _, hr => ⟨cs, vs, h, rfl, hr, rfl⟩
  | (i, x) :: ps, (j, u) :: us, cs, vs, k, h, hi, hx, hr => by
    simp only [List.map_cons, List.cons.injEq] at hi
    obtain ⟨rfl, hi⟩ := hi
    unfold fillX at h
    split at h
    case h_2 => exact h.elim
    rename_i o z l hp hc
    obtain ⟨hb, h⟩ := when_iff h
    rw [forceL_eq] at h
    simp only [Bool.and_eq_true] at hb
    have hlz : l.length = z := Nat.eq_of_beq_eq_true hb.1
    have hle : o + z ≤ cs.length := Nat.le_of_ble_eq_true hb.2
    have hru := cells_rel hc (hx 0 x u rfl rfl)
    have hlu : u.cells.size = z := by rw [← hlz, hru.len, Array.length_toList]
    have hcl : cs.length = vs.size := by rw [hr.len, Array.length_toList]
    have hput := RelL.put o hr hru
    have hfold := foldl_put o u.cells.toList 0 vs (by simp; omega)
    simp only [Nat.add_zero] at hfold
    have hzip : u.cells.zipIdx.foldl (fun (cs : Array Value) (c : Value × Nat) => cs.setIfInBounds (o + c.2) c.1) vs = (u.cells.toList.zipIdx 0).foldl (fun (cs : Array Value) (c : Value × Nat) => cs.setIfInBounds (o + c.2) c.1) vs := by
      rw [← Array.foldl_toList, Array.toList_zipIdx]
    obtain ⟨cs', vs', hk, hf, hr', hsz⟩ := fillX_sound (vs := u.cells.zipIdx.foldl (fun (cs : Array Value) (c : Value × Nat) => cs.setIfInBounds (o + c.2) c.1) vs) h hi
      (fun n y v hy hv => hx (n + 1) y v (by simpa using hy) (by simpa using hv)) (by rw [hzip, hfold]; exact hput)
    refine ⟨cs', vs', hk, ?_, hr', ?_⟩
    · unfold Instr.fill
      simp only [hp]
      rw [if_neg (by simp; omega)]
      exact hf
    · rw [hsz, hzip, ← Array.length_toList, hfold]
      simp; omega
  | [], _ :: _, _, _, _, _, hi, _, _ => by simp at hi
  | _ :: _, [], _, _, _, _, hi, _, _ => by simp at hi

/-- Where the fields lie. -/
def placesX (T : Tab) (fs : List (Nat × TypeId)) (i : Nat) : Option (Nat × Nat) :=
  match fs[i]? with
  | some (o, ft) => (match T ft with | some fi => some (o, fi.size) | none => none)
  | none => none

def buildX (T : Tab) (t : TypeId) (ps : List (Nat × XV)) (k : XV → Prop) : Prop :=
  match T t with
  | some ti => (match ti.kd with
    | .st fs => when (fs.all fun f => (T f.2).isSome) (forceL (zeroX ti.zero) fun z => fillX (placesX T fs) ps z fun r => k (.a r))
    | .arr _ e => (match T e with
      | some ei => forceL (zeroX ti.zero) fun z => fillX (fun i => some (i * ei.size, ei.size)) ps z fun r => k (.a r)
      | none => False)
    | _ => False)
  | none => False

theorem fill_congr {place place' : Nat → Option (Nat × Nat)} (h : ∀ i p, place i = some p → place' i = some p) : ∀ (us : List (Nat × Value)) (vs vs' : Array Value), Instr.fill place vs us = some vs' → Instr.fill place' vs us = some vs'
  | [], vs, vs', e => e
  | (i, u) :: us, vs, vs', e => by
    unfold Instr.fill at e ⊢
    split at e
    · cases e
    · rename_i o z hp
      rw [h _ _ hp]
      simp only [] at e ⊢
      split at e
      · cases e
      · rename_i hc
        rw [if_neg hc]
        exact fill_congr h us _ _ e

theorem mapM_places {P : Program} {T : Tab} (hT : TabOk P T) : ∀ (fs : List Field), (fs.map fun f => (f.offset, f.type)).all (fun f => (T f.2).isSome) = true →
    ∃ pl, fs.mapM (fun f => (P.info? f.type).map fun i => (f.offset, i.size)) = some pl ∧ ∀ i : Nat, pl[i]? = placesX T (fs.map fun f => (f.offset, f.type)) i
  | [], _ => ⟨[], rfl, fun i => by simp [placesX]⟩
  | f :: fs, h => by
    simp only [List.map_cons, List.all_cons, Bool.and_eq_true] at h
    obtain ⟨pl, hp, hi⟩ := mapM_places hT fs h.2
    obtain ⟨fi, hf⟩ := Option.isSome_iff_exists.1 h.1
    obtain ⟨inf, hinf, hsz, _⟩ := (TIs.of (hT _ _ hf)).info
    refine ⟨(f.offset, fi.size) :: pl, by simp [List.mapM_cons, hinf, hp, hsz], fun i => ?_⟩
    cases i with
    | zero => simp [placesX, hf]
    | succ i => simpa [placesX] using hi i

theorem buildX_sound {P : Program} {T : Tab} (hT : TabOk P T) {S : World → Prop} {E : Env} {t : TypeId} {ps : List (Nat × XV)} {us : Array (Nat × Value)} {k : XV → Prop} (h : buildX T t ps k)
    (hi : ps.map (·.1) = us.toList.map (·.1)) (hx : ∀ (i : Nat) (x : XV) (u : Value), (ps.map (·.2))[i]? = some x → (us.toList.map (·.2))[i]? = some u → RelV E x u) : Gives P S (Instr.build t us) E k := by
  unfold buildX at h
  split at h
  case h_2 => exact h.elim
  rename_i ti ht
  have hs := TIs.of (hT _ _ ht)
  obtain ⟨info, hinfo, hsz, _, zv, hz, hzc, _⟩ := hs.info
  have hz0 := zeroX_rel E _ hs.zone
  rw [← hzc] at hz0
  split at h
  · rename_i fs hkd
    obtain ⟨hall, h⟩ := when_iff h
    rw [forceL_eq, ← hzc] at h
    obtain ⟨fields, hu, rfl⟩ := mkKd_st (hs.kd.symm.trans hkd)
    obtain ⟨pl, hpl, hpi⟩ := mapM_places hT fields.toList hall
    obtain ⟨cs', vs', hk, hf, hr, _⟩ := fillX_sound h hi hx hz0
    refine Gives.mk hk (show RelV E (.a _) (.agg vs') from ⟨vs', rfl, hr⟩) (fun w _ => run_build w t us vs' ?_)
    have hf2 := fill_congr (place' := (pl.toArray[·]?)) (fun i p e => by rw [← e, ← hpi i]; simp) us.toList zv.cells vs' hf
    simp only [Program.built, hinfo, hu, hz, hpl]
    exact hf2
  · rename_i n e hkd
    have hu := mkKd_arr (hs.kd.symm.trans hkd)
    split at h
    case h_2 => exact h.elim
    rename_i ei hte
    obtain ⟨einfo, heinfo, hesz, _⟩ := (TIs.of (hT _ _ hte)).info
    rw [forceL_eq, ← hzc] at h
    obtain ⟨cs', vs', hk, hf, hr, _⟩ := fillX_sound h hi hx hz0
    refine Gives.mk hk (show RelV E (.a _) (.agg vs') from ⟨vs', rfl, hr⟩) (fun w _ => run_build w t us vs' ?_)
    simp only [Program.built, hinfo, hu, hz, heinfo, hesz]
    exact hf
  · exact h.elim
end Go.Eng
