/- The engine, part V: a statement whose order is drawn and whose operations each tell one thing, whatever the order. Nothing of any program is proved here. -/
import Derived.Test.YtbhmplbckkipjaaEngDet
namespace Go.Eng
open Go Go.RowKit
set_option linter.unusedSimpArgs false
set_option linter.unusedVariables false

theorem get_set_ne : ∀ {l : List XV} {d t : Nat} {x : XV}, t ≠ d → get (l.set d x) t = get l t
  | [], _, _, _, _ => by simp
  | _ :: _, 0, 0, _, h => absurd rfl h
  | _ :: _, 0, _ + 1, _, _ => rfl
  | _ :: _, _ + 1, 0, _, _ => rfl
  | _ :: l, d + 1, t + 1, x, h => by
    have := get_set_ne (l := l) (d := d) (t := t) (x := x) (by omega)
    simpa [get] using this

/-- Of these slots the abstract values are known to hold. -/
def RelOn (l : List Tmp) (E : Env) (ts : List XV) (a : Act) : Prop := ts.length = a.tmps.size ∧ ∀ t ∈ l, RelV E (get ts t) (a.tmps.toList.getD t undef)
theorem RelTs.on {E : Env} {ts : List XV} {a : Act} (h : RelTs E ts a.tmps.toList) (l : List Tmp) : RelOn l E ts a := ⟨by simpa using h.len, fun t _ => h.get t⟩
theorem RelOn.set {l : List Tmp} {E : Env} {ts : List XV} {a : Act} {d : Tmp} {x : XV} (hd : d ∉ l) : RelOn l E (ts.set d x) a ↔ RelOn l E ts a := by
  unfold RelOn
  simp only [List.length_set]
  refine and_congr_right fun _ => ⟨fun h t ht => ?_, fun h t ht => ?_⟩
  · have := h t ht; rwa [get_set_ne (fun e => hd (by rw [← e]; exact ht))] at this
  · rw [get_set_ne (fun e => hd (by rw [← e]; exact ht))]; exact h t ht
/-- All other slots are forgotten. -/
def mask (l : List Tmp) : Nat → List XV → List XV
  | _, [] => []
  | i, x :: ts => (if i ∈ l then x else .un) :: mask l (i + 1) ts
theorem mask_get (l : List Tmp) : ∀ (ts : List XV) (i t : Nat), get (mask l i ts) t = if i + t ∈ l then get ts t else .un
  | [], i, t => by simp [mask, get]
  | x :: ts, i, 0 => by simp [mask, get]
  | x :: ts, i, t + 1 => by
    have := mask_get l ts (i + 1) t
    simp only [mask, get]
    rw [this, show i + 1 + t = i + (t + 1) by omega]
theorem mask_len (l : List Tmp) : ∀ (ts : List XV) (i : Nat), (mask l i ts).length = ts.length
  | [], _ => rfl
  | _ :: ts, i => by simp [mask, mask_len l ts (i + 1)]
theorem RelTs.of_get {E : Env} : ∀ {ts : List XV} {vs : List Value}, ts.length = vs.length → (∀ t, RelV E (Eng.get ts t) (vs.getD t undef)) → RelTs E ts vs
  | [], [], _, _ => trivial
  | x :: ts, v :: vs, hl, h => ⟨h 0, RelTs.of_get (by simpa using hl) fun t => by simpa [Eng.get] using h (t + 1)⟩
  | [], _ :: _, hl, _ => by simp at hl
  | _ :: _, [], hl, _ => by simp at hl
theorem RelOn.masked {l : List Tmp} {E : Env} {ts : List XV} {a : Act} (h : RelOn l E ts a) : RelTs E (mask l 0 ts) a.tmps.toList := by
  refine RelTs.of_get (by rw [mask_len]; simpa using h.1) fun t => ?_
  rw [mask_get, Nat.zero_add]
  split
  · rename_i ht; exact h.2 t ht
  · trivial
/-- What an operation reads of the slots are its operands. -/
theorem opv_mask {l : List Tmp} {ts : List XV} {x : Operand} (h : ∀ t, x = .tmp t → t ∈ l) : opv (mask l 0 ts) x = opv ts x := by
  cases x with
  | tmp t => simp only [opv]; rw [mask_get, Nat.zero_add, if_pos (h t rfl)]
  | _ => rfl

/-- A call whose answer hangs on no own block, and that turns nothing. -/
@[irreducible] def CallP (C : Cx) (f : FuncId) (args : List XV) (h : List It) (k : XV → Prop) : Prop :=
  FnOk C.P f ∧ ∃ x, k x ∧ ∀ w0 F E w us, RelTs E args us → Heap w0 F E h w →
    Calls C.P f us.toArray w fun e w' => ∃ u E', e = .returned u ∧ EnvLe E E' ∧ RelV E' x u ∧ Heap w0 F E' h w'
/-- An operation left to its own law. -/
@[irreducible] def OpPX (C : Cx) (o : Oper) (ts : List XV) (h : List It) (k : XV → Prop) : Prop :=
  ∃ x, k x ∧ ∀ w0 F E w a l, (∀ y ∈ o.op.operands, ∀ t, y = .tmp t → t ∈ l) → RelOn l E ts a → Heap w0 F E h w →
    ∃ nx u w' E', (nx = .value u ∨ (nx = .skip ∧ u = undef)) ∧ (execOp a.eval o).run C.P w = .ok nx w' ∧ EnvLe E E' ∧ RelV E' x u ∧ Heap w0 F E' h w'

def puCall (C : Cx) (ts : List XV) (h : List It) (op : Op) (k : XV → Prop) : Prop :=
  match op with
  | .call c => (match c.callee with
    | .value f => fnOf (opv ts f) (c.args.toList.map (opv ts)) fun f args => lowTs args fun args => CallP C f args h k
    | _ => False)
  | _ => False
/-- A slice literal, laid aside as it is made. -/
def puBuild (T : Tab) (ts : List XV) (op : Op) (k : XV → Prop) : Prop :=
  match op with
  | .buildSlice t n ps => (match T t with
    | some ti => (match ti.kd with
      | .sl e => (match T e with
        | some ei => when (Nat.blt 0 (n * ei.size) && Nat.ble (n * ei.size) 10000) (forceL (repX n (zeroX ei.zero)) fun z =>
            fillX (fun i => some (i * ei.size, ei.size)) (ps.toList.map fun p => (p.1, opv ts p.2)) z fun r => when (Nat.beq r.length (n * ei.size) && allSt r)
              (forceLL (chunk ei.size n r) fun xs => k (.c (rsOf xs ei.size))))
        | none => False)
      | _ => False)
    | none => False)
  | _ => False
def puKind : Op → Nat
  | .buildSlice _ _ _ => 1
  | op => kindOf op
def puOp (C : Cx) (o : Oper) (ts : List XV) (h : List It) (k : List XV → Prop) : Prop :=
  match hookB C.T ts h o.op with
  | true => OpPX C o ts h fun x => finQ o.dst x ts k
  | false => (match puKind o.op, kindOf o.op with
    | 0, _ => valX C.T ts h (fun _ => true) o.op fun x => finQ o.dst x ts k
    | 1, _ => puBuild C.T ts o.op fun x => finQ o.dst x ts k
    | 2, _ => puCall C ts h o.op fun x => finQ o.dst x ts k
    | _, _ => False)
def puX (C : Cx) (all : List Oper) (h : List It) : List Oper → List XV → (List XV → Prop) → Prop
  | [], ts, k => k ts
  | o :: rest, ts, k => (match o.guard with
    | none => puOp C o ts h fun ts => puX C all h rest ts k
    | some (j, want) => (match dstAt all j with
      | none => False
      | some d => (match get ts d, want with
        | .c .bt, true => puOp C o ts h fun ts => puX C all h rest ts k
        | .c .bf, false => puOp C o ts h fun ts => puX C all h rest ts k
        | .c .bt, false => finQ o.dst (.t []) ts fun ts => puX C all h rest ts k
        | .c .bf, true => finQ o.dst (.t []) ts fun ts => puX C all h rest ts k
        | .t [], _ => finQ o.dst (.t []) ts fun ts => puX C all h rest ts k
        | .c (.b x), true => (x = true → setK ts d (.c .bt) fun ts => puOp C o ts h fun ts => puX C all h rest ts k) ∧
            (x = false → setK ts d (.c .bf) fun ts => finQ o.dst (.t []) ts fun ts => puX C all h rest ts k)
        | .c (.b x), false => (x = true → setK ts d (.c .bt) fun ts => finQ o.dst (.t []) ts fun ts => puX C all h rest ts k) ∧
            (x = false → setK ts d (.c .bf) fun ts => puOp C o ts h fun ts => puX C all h rest ts k)
        | _, _ => False)))

/-! ### what an operation tells, of a state of the slots -/
section
variable {C : Cx} {h : List It} {all : Array Oper}

def OpTells (C : Cx) (h : List It) (all : Array Oper) (o : Oper) (ts : List XV) (x : XV) : Prop :=
  ∀ w0 F E (a : Act) (w : World), RelOn (o.looksAt all) E ts a → Heap w0 F E h w →
    ∀ (K : Act → World → Prop) (Q : Exit → Act → World → Prop), (∀ u w' E', EnvLe E E' → RelV E' x u → Heap w0 F E' h w' → K (a.put o.dst u) w') → o.wp C.P a w K Q
def Wants (all : Array Oper) (o : Oper) (ts : List XV) (b : Bool) : Prop :=
  ∀ E (a : Act), RelOn (o.looksAt all) E ts a → Region.wanted o (yielded all a.tmps) = b
def Yld (C : Cx) (h : List It) (all : Array Oper) (o : Oper) (ts : List XV) (x : XV) : Prop :=
  (Wants all o ts true ∧ OpTells C h all o ts x) ∨ (Wants all o ts false ∧ x = .t [])
def putT (dst : Option Tmp) (x : XV) (ts : List XV) : List XV := match dst with | some d => ts.set d x | none => ts

theorem Yld.put {o : Oper} {ts : List XV} {x y : XV} {dst : Option Tmp} (hd : ∀ d, dst = some d → d ∉ o.looksAt all) : Yld C h all o (putT dst y ts) x ↔ Yld C h all o ts x := by
  cases dst with
  | none => exact Iff.rfl
  | some d =>
    have hs : ∀ E a, RelOn (o.looksAt all) E (putT (some d) y ts) a ↔ RelOn (o.looksAt all) E ts a := fun E a => RelOn.set (hd d rfl)
    unfold Yld Wants OpTells
    simp only [hs]
theorem putT_comm {x y : XV} {d e : Option Tmp} {ts : List XV} (hne : ∀ t, d = some t → e ≠ some t) : putT e y (putT d x ts) = putT d x (putT e y ts) := by
  cases d with
  | none => rfl
  | some t =>
    cases e with
    | none => rfl
    | some s =>
      have : t ≠ s := fun e => hne t rfl (by rw [e])
      simp [putT, List.set_comm _ _ this]

/-- Operation number i comes up. -/
def aOp (C : Cx) (h : List It) (all : Array Oper) (i : Nat) (K : List XV → Prop) (ts : List XV) : Prop :=
  match all[i]? with
  | none => K ts
  | some o => ∃ x, Yld C h all o ts x ∧ K (putT o.dst x ts)
theorem aOp_mono {i : Nat} {ts : List XV} {K K' : List XV → Prop} (hK : ∀ ts, K ts → K' ts) (hh : aOp C h all i K ts) : aOp C h all i K' ts := by
  unfold aOp at *
  split
  · rename_i e; rw [e] at hh; exact hK _ hh
  · rename_i o e; rw [e] at hh; obtain ⟨x, h1, h2⟩ := hh; exact ⟨x, h1, hK _ h2⟩
def aAny (C : Cx) (h : List It) (all : Array Oper) (k : List XV → Prop) : Nat → Array Bool → List XV → Prop
  | 0, listed, ts => Region.ready .any all listed = [] ∧ k ts
  | fuel + 1, listed, ts =>
    (Region.ready .any all listed = [] → k ts) ∧
    ∀ i ∈ Region.ready .any all listed, aOp C h all i (aAny C h all k fuel (listed.setIfInBounds i true)) ts

theorem wpOp_of_aOp {w0 : Org} {F : Nat → Prop} {i : Nat} {ts : List XV} {K : List XV → Prop} {K' : Act → World → Prop} {Q : Exit → Act → World → Prop} {a : Act} {w : World} (hc : Cfg w0 F ts h a w)
    (hK : ∀ ts' a' w', K ts' → Cfg w0 F ts' h a' w' → K' a' w') (hh : aOp C h all i K ts) : wpOp C.P all Q i K' a w := by
  obtain ⟨w1, F1, hsub, hd, E, hr, hp⟩ := hc
  unfold aOp at hh
  unfold wpOp
  split
  · rename_i e; rw [e] at hh; exact hK _ _ _ hh ⟨w1, F1, hsub, hd, E, hr, hp⟩
  · rename_i o e
    rw [e] at hh
    obtain ⟨x, hy, hk⟩ := hh
    have hdef : ∀ u, Marks w0 w1 F1 (a.put o.dst u).defers := fun u => by rw [put_defers]; exact hd
    rcases hy with ⟨hw, ht⟩ | ⟨hw, rfl⟩
    · rw [if_pos (hw E a (hr.on _))]
      refine .inl (ht w1 F1 E a w (hr.on _) hp _ _ fun u w' E' hle hx hp' => hK _ _ _ hk ⟨w1, F1, hsub, hdef u, E', ?_, hp'⟩)
      have := put_rel (a := a) (x := x) (u := u) o.dst (hr.mono hle) hx
      cases hdst : o.dst <;> simpa [putT, hdst] using this
    · rw [hw E a (hr.on _), if_neg (by simp)]
      refine hK _ _ _ hk ⟨w1, F1, hsub, hdef _, E, ?_, hp⟩
      have := put_rel (a := a) (x := .t []) (u := undef) o.dst hr (undef_rel E)
      cases hdst : o.dst <;> simpa [putT, hdst] using this
theorem wpAny_of_aAny {w0 : Org} {F : Nat → Prop} {k : List XV → Prop} {Q : Exit → Act → World → Prop} (hQ : ∀ ts a w, k ts → Cfg w0 F ts h a w → Q .normal a w) : ∀ (fuel : Nat) (listed : Array Bool) (ts : List XV) (a : Act) (w : World),
    Cfg w0 F ts h a w → aAny C h all k fuel listed ts → wpAny C.P .any all Q fuel listed a w
  | 0, _, _, _, _, hc, hh => ⟨hh.1, hQ _ _ _ hh.2 hc⟩
  | fuel + 1, _, _, _, _, hc, hh => ⟨fun h0 => hQ _ _ _ (hh.1 h0) hc, fun i hi => wpOp_of_aOp hc (fun ts' a' w' hk hc' => wpAny_of_aAny hQ fuel _ ts' a' w' hc' hk) (hh.2 i hi)⟩

theorem aOp_put {j : Nat} {oi oj : Oper} {x : XV} (hj : all[j]? = some oj) (hap : oi.apart all oj = true) {K : List XV → Prop} {ts : List XV}
    (hy : Yld C h all oi ts x) (hh : aOp C h all j K (putT oi.dst x ts)) : aOp C h all j (fun ts' => Yld C h all oi ts' x ∧ K (putT oi.dst x ts')) ts := by
  obtain ⟨h1, h2, h3⟩ := Oper.apart_spec hap
  unfold aOp at *
  simp only [hj] at *
  obtain ⟨y, hyj, hk⟩ := hh
  exact ⟨y, (Yld.put h1).1 hyj, (Yld.put h3).2 hy, by rw [← putT_comm h2]; exact hk⟩
theorem aAny_first {k : List XV → Prop} {i : Nat} {oi : Oper} {x : XV} (hi : all[i]? = some oi) :
    ∀ (fuel : Nat) (listed : Array Bool) (ts : List XV),
      (∀ j oj, all[j]? = some oj → j ≠ i → listed.getD j true = false → (∀ e ∈ oj.after, Region.binds .any e = true → e.on ≠ i) → oi.apart all oj = true) →
      i ∈ Region.ready .any all listed → Yld C h all oi ts x →
      aAny C h all k fuel (listed.setIfInBounds i true) (putT oi.dst x ts) → aAny C h all k (fuel + 1) listed ts := by
  intro fuel
  have own : ∀ {K : List XV → Prop} {ts : List XV}, Yld C h all oi ts x → K (putT oi.dst x ts) → aOp C h all i K ts := by
    intro K ts hy hk
    unfold aOp
    simp only [hi]
    exact ⟨x, hy, hk⟩
  induction fuel with
  | zero =>
    intro listed ts _ hr hy H
    refine ⟨fun h => (by rw [h] at hr; cases hr), fun j hj => ?_⟩
    by_cases hji : j = i
    · subst hji; exact own hy H
    · have := ready_mono hj hji
      rw [H.1] at this
      cases this
  | succ fuel ih =>
    intro listed ts hfree hr hy H
    refine ⟨fun h => (by rw [h] at hr; cases hr), fun j hj => ?_⟩
    by_cases hji : j = i
    · subst hji; exact own hy H
    · have h1 := H.2 j (ready_mono hj hji)
      obtain ⟨hjun, oj, hoj, hall⟩ := mem_ready.1 hj
      have hnot : ∀ e ∈ oj.after, Region.binds .any e = true → e.on ≠ i := fun e he hb heq => by
        have h1 := hall e he hb
        have h0 := (mem_ready.1 hr).1
        rw [heq] at h1
        rcases Nat.lt_or_ge i listed.size with h' | h'
        · simp [h'] at h0 h1; rw [h0] at h1; cases h1
        · simp [Array.getElem?_eq_none h'] at h1
      have h2 := aOp_put hoj (hfree j oj hoj hji hjun hnot) hy h1
      have hfree' : ∀ k ok, all[k]? = some ok → k ≠ i → (listed.setIfInBounds j true).getD k true = false →
          (∀ e ∈ ok.after, Region.binds .any e = true → e.on ≠ i) → oi.apart all ok = true := fun k ok hk hki hun hno => by
        refine hfree k ok hk hki ?_ hno
        by_cases hjk : j = k
        · subst hjk; exact hjun
        · rw [getD_set_ne true hjk] at hun; exact hun
      refine aOp_mono (fun ts' h3 => ih (listed.setIfInBounds j true) ts' hfree' (ready_mono hr (Ne.symm hji)) h3.1 ?_) h2
      rw [Array.setIfInBounds_comm _ _ hji]
      exact h3.2
/-- The text's order. -/
def aLex (C : Cx) (h : List It) (all : Array Oper) (k : List XV → Prop) : List Oper → List XV → Prop
  | [], ts => k ts
  | o :: l, ts => ∃ x, Yld C h all o ts x ∧ aLex C h all k l (putT o.dst x ts)
theorem aAny_lex {k : List XV → Prop} : ∀ (l : List Oper) (n : Nat) (listed : Array Bool) (ts : List XV), (∀ j, l[j]? = all[n + j]?) →
    Region.lexFrom .any all l.length n listed = true → aLex C h all k l ts → aAny C h all k l.length listed ts
  | [], _, _, _, _, hB, hh => ⟨by simpa [Region.lexFrom] using hB, hh⟩
  | o :: l, n, listed, ts, hl, hB, hh => by
    have h0 : all[n]? = some o := by simpa using (hl 0).symm
    simp only [List.length_cons, Region.lexFrom, Bool.and_eq_true] at hB
    obtain ⟨⟨hr, hf⟩, hB'⟩ := hB
    obtain ⟨x, hy, hk⟩ := hh
    exact aAny_first h0 l.length listed ts (Region.free_spec h0 hf) (by simpa using hr) hy
      (aAny_lex l (n + 1) _ _ (fun j => by have := hl (j + 1); simpa [Nat.add_assoc, Nat.add_comm 1 j] using this) hB' hk)
end

/-! ### from the text's order, evaluated -/
/-- The same said in other words. -/
def Eqv (ts ts' : List XV) : Prop := ts.length = ts'.length ∧ ∀ t E v, RelV E (get ts t) v ↔ RelV E (get ts' t) v
theorem Eqv.refl (ts : List XV) : Eqv ts ts := ⟨rfl, fun _ _ _ => Iff.rfl⟩
theorem get_set_eq : ∀ {l : List XV} {d : Nat} {x : XV}, d < l.length → get (l.set d x) d = x
  | _ :: _, 0, _, _ => rfl
  | _ :: l, d + 1, x, h => by
    have := get_set_eq (l := l) (d := d) (x := x) (by simpa using h)
    simpa [get] using this
theorem get_big : ∀ {l : List XV} {d : Nat}, l.length ≤ d → get l d = .un
  | [], _, _ => rfl
  | _ :: l, d + 1, h => by simpa [get] using get_big (l := l) (d := d) (by simpa using h)
theorem Eqv.put {ts ts' : List XV} (he : Eqv ts ts') (dst : Option Tmp) (x : XV) : Eqv (putT dst x ts) (putT dst x ts') := by
  cases dst with
  | none => exact he
  | some d =>
    refine ⟨by simp [putT, he.1], fun t E v => ?_⟩
    simp only [putT]
    by_cases ht : t = d
    · subst ht
      by_cases hl : t < ts.length
      · rw [get_set_eq hl, get_set_eq (he.1 ▸ hl)]
      · rw [get_big (by simpa using hl), get_big (by simpa [← he.1] using hl)]
    · rw [get_set_ne ht, get_set_ne ht]; exact he.2 t E v
theorem Eqv.rename {ts ts' : List XV} (he : Eqv ts ts') {d : Nat} {x : XV} (hx : ∀ E v, RelV E (get ts' d) v ↔ RelV E x v) : Eqv ts (ts'.set d x) := by
  refine ⟨by simp [he.1], fun t E v => ?_⟩
  by_cases ht : t = d
  · subst ht
    by_cases hl : t < ts'.length
    · rw [get_set_eq hl, he.2]; exact hx E v
    · rw [get_big (l := ts'.set t x) (by simpa using hl), he.2, get_big (by simpa using hl)]
  · rw [get_set_ne ht]; exact he.2 t E v
theorem Eqv.on {ts ts' : List XV} (he : Eqv ts ts') {l : List Tmp} {E : Env} {a : Act} (h : RelOn l E ts a) : RelOn l E ts' a :=
  ⟨he.1 ▸ h.1, fun t ht => (he.2 t _ _).1 (h.2 t ht)⟩
theorem Eqv.cfg {w0 : Org} {F : Nat → Prop} {ts ts' : List XV} {h : List It} {a : Act} {w : World} (he : Eqv ts ts') (hc : Cfg w0 F ts h a w) : Cfg w0 F ts' h a w := by
  obtain ⟨w1, F1, hsub, hd, E, hr, hp⟩ := hc
  exact ⟨w1, F1, hsub, hd, E, RelTs.of_get (by rw [← he.1]; exact hr.len) fun t => (he.2 t _ _).1 (hr.get t), hp⟩

theorem valX_congr {T : Tab} {ts ts' : List XV} {h : List It} {rd : Nat → Bool} {op : Op} {k : XV → Prop} (he : ∀ x ∈ op.operands, opv ts' x = opv ts x) (hh : valX T ts h rd op k) : valX T ts' h rd op k := by
  cases op
  case move x => have e := he x (by simp [Op.operands]); simp only [valX] at *; rw [e]; exact hh
  case assign x => have e := he x (by simp [Op.operands]); simp only [valX] at *; rw [e]; exact hh
  case pick c a b =>
    have e := he c (by simp [Op.operands]); have e1 := he a (by simp [Op.operands]); have e2 := he b (by simp [Op.operands])
    simp only [valX] at *; rw [e, e1, e2]; exact hh
  case build t ps =>
    have e : (ps.toList.map fun p => (p.1, opv ts' p.2)) = ps.toList.map fun p => (p.1, opv ts p.2) := List.map_congr_left fun p hp => by rw [he p.2 (by simp only [Op.operands, List.mem_toArray, List.mem_map]; exact ⟨p, hp, rfl⟩)]
    simp only [valX] at *; rw [e]; exact hh
  case load t x => have e := he x (by simp [Op.operands]); simp only [valX] at *; rw [e]; exact hh
  case nilCheck x => have e := he x (by simp [Op.operands]); simp only [valX] at *; rw [e]; exact hh
  case binOp op t x y ty =>
    have e := he x (by simp [Op.operands]); have e1 := he y (by simp [Op.operands])
    simp only [valX] at *; rw [e, e1]; exact hh
  case unOp op t x => have e := he x (by simp [Op.operands]); simp only [valX] at *; rw [e]; exact hh
  case convert s d x => have e := he x (by simp [Op.operands]); simp only [valX] at *; rw [e]; exact hh
  case slice t x lo hi mx =>
    cases mx with
    | some _ => simp [valX] at hh
    | none =>
      have e := he x (by simp [Op.operands])
      have e1 : lo.map (opv ts') = lo.map (opv ts) := by cases lo with
        | none => rfl
        | some y => have := he y (by simp [Op.operands]); simp [this]
      have e2 : hi.map (opv ts') = hi.map (opv ts) := by cases hi with
        | none => rfl
        | some y => have := he y (by simp [Op.operands]); simp [this]
      simp only [valX] at *; rw [e, e1, e2]; exact hh
  case fieldAddr s x f => have e := he x (by simp [Op.operands]); simp only [valX] at *; rw [e]; exact hh
  case field s x f => have e := he x (by simp [Op.operands]); simp only [valX] at *; rw [e]; exact hh
  case indexAddr t x y =>
    have e := he x (by simp [Op.operands]); have e1 := he y (by simp [Op.operands])
    simp only [valX] at *; rw [e, e1]; exact hh
  case index t x y =>
    have e := he x (by simp [Op.operands]); have e1 := he y (by simp [Op.operands])
    simp only [valX] at *; rw [e, e1]; exact hh
  case extract x i => have e := he x (by simp [Op.operands]); simp only [valX] at *; rw [e]; exact hh
  case makeFunc fn first caps =>
    have e : caps.toList.map (opv ts') = caps.toList.map (opv ts) := List.map_congr_left fun p hp => he p (by simp only [Op.operands, Array.mem_append]; exact .inr (by simpa using hp))
    cases fn <;> (try (simp [valX] at hh; done))
    simp only [valX] at *; rw [e]; exact hh
  case call c =>
    obtain ⟨cal, args, tys⟩ := c
    have e : ∀ x ∈ args.toList, opv ts' x = opv ts x := fun x hx => he x (by simp only [Op.operands, Call.operands, Array.mem_append]; exact .inr (by simpa using hx))
    simp only [valX, callX] at *
    split at hh
    · rename_i x t e1 e2
      have e1 : args.toList = [x] := e1
      rw [e1] at e
      rw [e x (by simp)]; exact hh
    · rename_i x y e1
      have e1 : args.toList = [x, y] := e1
      rw [e1] at e
      rw [e x (by simp), e y (by simp)]; exact hh
    · rename_i x y e1
      have e1 : args.toList = [x, y] := e1
      rw [e1] at e
      rw [e x (by simp), e y (by simp)]; exact hh
    · exact hh.elim
  all_goals (simp [valX] at hh; done)

/-! ### soundness -/
section
variable {C : Cx} (hT : TabOk C.P C.T) {h : List It} {all : Array Oper}

theorem Heap.grown {w0 : Org} {F : Nat → Prop} {E : Env} {h : List It} {w w' : World} (hp : Heap w0 F E h w) (hf : Fr (fun _ => False) w w') {E1 : Env} {e z : Nat} {xs : List (List XC)} (hle : EnvLe E E1) (hn1 : E1.n = h.length + 1)
    (hp1 : Heap w0 F E1 (h ++ [.row e z xs]) w') : ∃ E2, EnvLe E E2 ∧ RelC E2 (rsOf xs z) (E1.sl h.length) ∧ Heap w0 F E2 h w' := by
  have hx : (h ++ [It.row e z xs])[h.length]? = some (.row e z xs) := by simp
  let B : Nat → Prop := fun b => (E1.sl h.length).ownBlock = some b
  have hrs := hp1.rs_of (B := B) hx (fun b hb => hb)
  have hle1 : EnvLe E1 (E1.more w' B) := hp1.le_more
  have keep : ∀ b, b < w.heap.size → w'.heap[b]? = w.heap[b]? := fun b hb => hf.block b hb (fun x => x)
  have hle2 : EnvLe E ((E1.more w' B).cut h.length) := by
    have := hle.trans hle1
    exact ⟨by rw [hp.n]; exact Nat.le_refl _, this.blk, this.sl, this.ext, this.bs⟩
  refine ⟨(E1.more w' B).cut h.length, hle2, RelC.stable (E := E1.more w' B) (E' := (E1.more w' B).cut h.length) (fun _ h => ⟨h, rfl⟩) _ _ trivial hrs, ?_⟩
  have hat : ∀ {k : Nat} {x : It}, h[k]? = some x → (h ++ [It.row e z xs])[k]? = some x := fun {k x} hk => by
    rw [List.getElem?_append_left (List.getElem?_eq_some_iff.1 hk).1]; exact hk
  have how : ∀ {k : Nat} {x : It} {b : Nat}, h[k]? = some x → Ow ((E1.more w' B).cut h.length) k x b → Ow E1 k x b := fun {k x b} hk hb => by
    cases x <;> exact hb
  refine ⟨?_, hp1.le.trans hle1.bs, ?_, rfl, ?_, ?_, ?_, hp1.fr⟩
  · rintro k (hB | hB)
    · exact ⟨(hp1.bs k hB).1, rfl⟩
    · exact ⟨(hp1.own _ _ k hx hB).1, rfl⟩
  · rintro b (hB | hB)
    · exact hp1.nb b hB
    · exact .inr (hp1.own _ _ b hx hB).2.2
  · intro k x hk
    refine ItOk.mono hle2 (hp.blkLt hk) ((hp.ok k x hk).of_block fun b hb => keep b (hp.own k x b hk hb).1)
  · intro k x b hk hb
    have h1 := hp1.own k x b (hat hk) (how hk hb)
    refine ⟨h1.1, ?_, h1.2.2⟩
    rintro (hB | hB)
    · exact h1.2.1 hB
    · have := hp1.sep k _ _ _ b (hat hk) hx (how hk hb) hB
      have := (List.getElem?_eq_some_iff.1 hk).1
      omega
  · intro j k x y b hx' hy hb hb'
    exact hp1.sep j k x y b (hat hx') (hat hy) (how hx' hb) (how hy hb')

theorem puBuild_det {T : Tab} {ts : List XV} {op : Op} : Det (puBuild T ts op) := by
  intro k hh
  unfold puBuild at hh ⊢
  split at hh
  case h_2 => exact hh.elim
  rename_i t n ps
  split at hh
  case h_2 => exact hh.elim
  rename_i ti ht
  split at hh
  case h_2 => exact hh.elim
  rename_i e hkd
  split at hh
  case h_2 => exact hh.elim
  rename_i ei hte
  simp only [when_eq, forceL_eq, forceLL_eq] at hh ⊢
  obtain ⟨h0, hh⟩ := hh
  obtain ⟨r, ⟨hb, hk⟩, hx⟩ := fillX_det _ hh
  exact ⟨_, hk, fun k' h' => ⟨h0, hx _ ⟨hb, h'⟩⟩⟩

include hT in
theorem build_sound {w0 : Org} {F : Nat → Prop} {E : Env} {h : List It} {w : World} {ts : List XV} {t : TypeId} {n : Nat} {ps : Array (Nat × Operand)} {k : XV → Prop} {a : Act} {o : Oper} (hop : o.op = .buildSlice t n ps) (hh : puBuild C.T ts (.buildSlice t n ps) k) (hr : RelTs E ts a.tmps.toList) (hp : Heap w0 F E h w) :
    ∃ x u w' E', k x ∧ RelV E' x u ∧ EnvLe E E' ∧ Heap w0 F E' h w' ∧ (execOp a.eval o).run C.P w = .ok (.value u) w' := by
  have ev := fun x => opv_rel (E := E) hr x
  unfold puBuild at hh
  unfold execOp
  simp only [hop]
  dsimp only at hh
  split at hh
  case h_2 => exact hh.elim
  rename_i ti ht
  split at hh
  case h_2 => exact hh.elim
  rename_i e hkd
  have hu := mkKd_sl ((TIs.of (hT _ _ ht)).kd.symm.trans hkd)
  split at hh
  case h_2 => exact hh.elim
  rename_i ei hte
  have hs := TIs.of (hT _ _ hte)
  replace hh := when_iff hh
  obtain ⟨hb, hh⟩ := hh
  simp only [Bool.and_eq_true] at hb
  have hpos : 0 < n * ei.size := by
    have : 0 + 1 ≤ n * ei.size := by simpa [Nat.blt, Nat.ble_eq] using hb.1
    omega
  have hsmall := Nat.le_of_ble_eq_true hb.2
  rw [forceL_eq] at hh
  obtain ⟨z, hz, hzc⟩ := run_zero hs w
  have hzs : z.cells.size = ei.size := by rw [← Array.length_toList, hzc, hs.zlen]
  have hz0 : 0 < z.cells.size := by rw [hzs]; exact Nat.pos_of_mul_pos_left hpos
  have hmade := madeRow z.cells hz0 n
  rw [hzs] at hmade
  have hrz : RelL E (repX n (zeroX ei.zero)) ((Array.range (n * ei.size)).map (fun i => z.cells[i % ei.size]!)).toList := by
    rw [hmade, hzc]; exact repX_rel (zeroX_rel E _ hs.zone) n
  obtain ⟨r, vs, hh, hf, hrel, hsz⟩ := fillX_sound (us := (ps.map fun p => (p.1, a.eval p.2)).toList) hh (by simp [Function.comp_def]) (fun i x u hx hu => by
    simp only [List.map_map, Array.toList_map] at hx hu
    simp only [List.getElem?_map, Option.map_eq_some_iff] at hx hu
    obtain ⟨p, hp', rfl⟩ := hx
    obtain ⟨p', hp'', rfl⟩ := hu
    rw [hp'] at hp''; cases hp''
    exact ev _) hrz
  replace hh := when_iff hh
  obtain ⟨hb2, hh⟩ := hh
  rw [forceLL_eq] at hh
  simp only [Bool.and_eq_true] at hb2
  have hrl : r.length = n * ei.size := Nat.eq_of_beq_eq_true hb2.1
  obtain ⟨hfl, hcl, hcn⟩ := chunk_flat ei.size n r hrl
  have hn : n ≤ 10000 := Nat.le_trans (Nat.le_mul_of_pos_right n (Nat.pos_of_mul_pos_left hpos)) hsmall
  obtain ⟨E', hp', hE, hv, haf⟩ := hp.pushRow (e := e) (z := ei.size) (n := n) (cap := n) (cur := vs) (xs := chunk ei.size n r) hcn.symm (Nat.le_refl _) (by simp only [maxLen]; omega)
    (by rw [hsz]; simp) (by rw [hfl, List.take_of_length_le (by rw [Array.length_toList, hsz]; simp)]; exact hrel) hcl (by rw [hfl]; exact allSt_iff hb2.2)
  obtain ⟨E2, hle2, hrel2, hp2⟩ := hp.grown (Fr.alloc w _) hE (by rw [hp'.n]; simp) hp'
  rw [← hv.2.1] at hrel2
  refine ⟨_, _, _, E2, hh, hrel2, hle2, hp2, ?_⟩
  have hno : ¬ (n * ei.size > 2 ^ 24) := by omega
  have hne : ¬ (n * ei.size = 0) := by omega
  simp only [Instr.buildSlice, Sem.run_bind, run_underlying hu, Result.andThen_ok, run_size hs, Sem.run_ite, hno, hne, if_false, Sem.run_pure, hz, hzs]
  simp only [hf, newRow]
  simp

theorem effX_congr_build {T : Tab} {ts ts' : List XV} {t : TypeId} {n : Nat} {ps : Array (Nat × Operand)} {k : XV → Prop} (he : ∀ x ∈ (Op.buildSlice t n ps).operands, opv ts' x = opv ts x) (hh : puBuild T ts (.buildSlice t n ps) k) : puBuild T ts' (.buildSlice t n ps) k := by
  have e : (ps.toList.map fun p => (p.1, opv ts' p.2)) = ps.toList.map fun p => (p.1, opv ts p.2) := List.map_congr_left fun p hp => by rw [he p.2 (by simp only [Op.operands, List.mem_toArray, List.mem_map]; exact ⟨p, hp, rfl⟩)]
  simp only [puBuild] at *; rw [e]; exact hh

theorem tmp_looks {o : Oper} {y : Operand} (hy : y ∈ o.op.operands) : ∀ t, y = .tmp t → t ∈ o.looksAt all := fun t e => by
  subst e
  exact List.mem_append_left _ (List.mem_filterMap.2 ⟨.tmp t, by simpa using hy, rfl⟩)

include hT in
theorem puOp_tells {o : Oper} {ts : List XV} {k : List XV → Prop} (hh : puOp C o ts h k) : ∃ x, OpTells C h all o ts x ∧ k (putT o.dst x ts) := by
  have hmask : ∀ y ∈ o.op.operands, opv (mask (o.looksAt all) 0 ts) y = opv ts y := fun y hy => opv_mask (tmp_looks hy)
  have fq : ∀ x, finQ o.dst x ts k = k (putT o.dst x ts) := fun x => by rw [finQ_eq]; cases o.dst <;> rfl
  unfold puOp at hh
  split at hh
  · unfold OpPX at hh
    obtain ⟨x, hk, hrun⟩ := hh
    rw [fq] at hk
    refine ⟨x, fun w0 F E a w hon hp K Q hK => ?_, hk⟩
    obtain ⟨nx, u, w', E', hnx, hr, hle, hx, hp'⟩ := hrun w0 F E w a _ (fun y hy => tmp_looks hy) hon hp
    unfold Oper.wp
    rw [hr]
    rcases hnx with rfl | ⟨rfl, rfl⟩ <;> exact hK _ _ _ hle hx hp'
  split at hh
  · obtain ⟨x, hk, hx⟩ := valX_det _ hh
    rw [fq] at hk
    have hv := valX_congr hmask (hx (fun y => y = x) rfl)
    refine ⟨x, fun w0 F E a w hon hp K Q hK => ?_, hk⟩
    obtain ⟨y, u, rfl, hy, hrun⟩ := valX_sound hT hv hon.masked hp
    unfold Oper.wp
    rw [hrun w (same_refl hp _)]
    exact hK _ _ _ (EnvLe.refl E) hy hp
  · obtain ⟨dst, op, ty, pos, after, guard⟩ := o
    obtain ⟨t, n, ps, rfl⟩ : ∃ t n ps, op = .buildSlice t n ps := by
      cases op <;> first
        | exact ⟨_, _, _, rfl⟩
        | (exfalso; simp [puBuild] at hh; done)
    dsimp only at hh hmask fq ⊢
    have hh' := effX_congr_build hmask hh
    obtain ⟨x, hk, hx⟩ := puBuild_det _ hh'
    rw [fq] at hk
    refine ⟨x, fun w0 F E a w hon hp K Q hK => ?_, hk⟩
    obtain ⟨y, u, w', E', rfl, hy, hle, hp', hrun⟩ := build_sound (o := ⟨dst, .buildSlice t n ps, ty, pos, after, guard⟩) (C := C) hT rfl (hx (fun y => y = x) rfl) hon.masked hp
    unfold Oper.wp
    rw [hrun]
    exact hK _ _ _ hle hy hp'
  · unfold puCall at hh
    split at hh
    case h_2 => exact hh.elim
    rename_i c hop
    obtain ⟨callee, args, argTypes⟩ := c
    simp only at hh
    split at hh
    case h_2 => exact hh.elim
    rename_i f
    have hfm : opv (mask (o.looksAt all) 0 ts) f = opv ts f := hmask f (by rw [hop]; simp [Op.operands, Call.operands])
    have ham : args.toList.map (opv (mask (o.looksAt all) 0 ts)) = args.toList.map (opv ts) := List.map_congr_left fun y hy => hmask y (by rw [hop]; simp [Op.operands, Call.operands]; exact .inr (by simpa using hy))
    have key : ∀ (g : FuncId) (xs : List XV), (lowTs xs fun xs => CallP C g xs h (fun x => finQ o.dst x ts k)) →
        (∀ E (a : Act), RelOn (o.looksAt all) E ts a → ∃ us, RelTs E xs us ∧ ∀ w, (execOp a.eval o).run C.P w = (callFunc g us.toArray).run C.P w) →
        ∃ x, OpTells C h all o ts x ∧ k (putT o.dst x ts) := by
      intro g xs hcall hargs
      have hlow : ∃ xs', CallP C g xs' h (fun x => finQ o.dst x ts k) ∧ ∀ E us, RelTs E xs us → RelTs E xs' us := by
        have : ∀ (l : List XV) (K : List XV → Prop), lowTs l K → ∃ l', K l' ∧ ∀ E us, RelTs E l us → RelTs E l' us := by
          have hc : ∀ (l : List XC) (K : List XC → Prop), lowL l K → ∃ l', K l' ∧ ∀ E us, RelL E l us → RelL E l' us := by
            intro l
            induction l with
            | nil => intro K hK; exact ⟨_, hK, fun _ _ h => h⟩
            | cons x l ih =>
              intro K hK
              unfold lowL at hK
              rw [forceC_eq] at hK
              obtain ⟨l', h1, h2⟩ := ih _ hK
              exact ⟨_, h1, fun E us hr => by cases us with | nil => exact hr.elim | cons u us => exact ⟨lowC_rel hr.1, h2 _ _ hr.2⟩⟩
          intro l
          induction l with
          | nil => intro K hK; exact ⟨_, hK, fun _ _ h => h⟩
          | cons x l ih =>
            intro K hK
            unfold lowTs lowV at hK
            split at hK
            · rw [forceC_eq] at hK
              obtain ⟨l', h1, h2⟩ := ih _ hK
              exact ⟨_, h1, fun E us hr => by cases us with | nil => exact hr.elim | cons u us => exact ⟨lowC_rel hr.1, h2 _ _ hr.2⟩⟩
            · obtain ⟨m, h3, h4⟩ := hc _ _ hK
              obtain ⟨l', h1, h2⟩ := ih _ h3
              exact ⟨_, h1, fun E us hr => by
                cases us with
                | nil => exact hr.elim
                | cons u us => obtain ⟨vs, e, hl⟩ := hr.1; exact ⟨⟨vs, e, h4 _ _ hl⟩, h2 _ _ hr.2⟩⟩
            · rw [forceV_eq] at hK
              obtain ⟨l', h1, h2⟩ := ih _ hK
              exact ⟨_, h1, fun E us hr => by cases us with | nil => exact hr.elim | cons u us => exact ⟨hr.1, h2 _ _ hr.2⟩⟩
        exact this xs _ hcall
      obtain ⟨xs', hcall, hlow⟩ := hlow
      unfold CallP at hcall
      obtain ⟨⟨fn, hfn, hname, hbody⟩, x, hk, hcall⟩ := hcall
      rw [fq] at hk
      refine ⟨x, fun w0 F E a w hon hp K Q hK => ?_, hk⟩
      obtain ⟨us, hus, hex⟩ := hargs E a hon
      have hrun : (callFunc g us.toArray).run C.P w = .ok (.enter g us.toArray) w := by
        cases hb : fn.body with
        | none => rw [hb] at hbody; cases hbody
        | some b =>
          have hne : ¬ fn.name = "runtime.NumGoroutine" := by simpa using hname
          simp [callFunc, hfn, hne, hb]
      unfold Oper.wp
      rw [hex, hrun]
      simp only [Oper.upon]
      refine (hcall w0 F E w us (hlow _ _ hus) hp).mono fun e w' he => ?_
      obtain ⟨u, E', rfl, hle, hx, hp'⟩ := he
      exact hK _ _ _ hle hx hp'
    have evf : ∀ E (a : Act), RelOn (o.looksAt all) E ts a → RelV E (opv ts f) (a.eval f) := fun E a hon => by rw [← hfm]; exact opv_rel hon.masked f
    have eva : ∀ E (a : Act), RelOn (o.looksAt all) E ts a → RelTs E (args.toList.map (opv ts)) (args.toList.map a.eval) := fun E a hon => by rw [← ham]; exact opvs_rel hon.masked args.toList
    unfold fnOf at hh
    split at hh
    · rename_i g fs cs e
      split at hh
      · rename_i e1 e2
        have hfs : fs = #[] := by cases fs; simpa using e1
        have hcs : cs = #[] := by cases cs; simpa using e2
        subst hfs; subst hcs
        refine key g _ hh fun E a hon => ⟨_, eva E a hon, fun w => ?_⟩
        have hf := evf E a hon
        rw [e] at hf
        have hv : a.eval f = .func (.func g) #[] #[] := hf.1
        unfold execOp
        rw [hop]
        have hm : Array.map a.eval args = (List.map a.eval args.toList).toArray := by rw [← Array.toList_map, Array.toArray_toList]
        simp [resolve, hv, Deferred.ofValue, invoke, hm]
      · exact hh.elim
    · rename_i g n caps e
      refine key g _ hh fun E a hon => ?_
      have hf := evf E a hon
      rw [e] at hf
      obtain ⟨vs, hv, hn, hc⟩ := hf
      refine ⟨_, (eva E a hon).append (by have := capL_rel (E := E) (vs := vs) n 0 (caps := caps) (by omega) (fun j hj => hc j (by omega)); simpa using this), fun w => ?_⟩
      unfold execOp
      rw [hop]
      simp only [resolve, hv, Deferred.ofValue, invoke, Sem.run_bind, Sem.run_pure, Result.andThen_ok]
      have hm : Array.map a.eval args ++ vs = (List.map a.eval args.toList ++ vs.toList).toArray := by rw [← Array.toList_map, ← Array.toList_append, Array.toArray_toList]
      simp [hm]
    · exact hh.elim
  · exact hh.elim

theorem putT_len {d : Option Tmp} {x : XV} {ts : List XV} : (putT d x ts).length = ts.length := by cases d <;> simp [putT]
theorem Eqv.yld {o : Oper} {ts ts' : List XV} {x : XV} (he : Eqv ts ts') (h1 : Yld C h all o ts' x) : Yld C h all o ts x := by
  rcases h1 with ⟨h1, h2⟩ | ⟨h1, h2⟩
  · exact .inl ⟨fun E a hon => h1 E a (he.on hon), fun w0 F E a w hon => h2 w0 F E a w (he.on hon)⟩
  · exact .inr ⟨fun E a hon => h1 E a (he.on hon), h2⟩

theorem guard_looks {l : List Oper} {o : Oper} {j : Nat} {want : Bool} {d : Tmp} (hg : o.guard = some (j, want)) (hd : dstAt l j = some d) : d ∈ o.looksAt l.toArray := by
  rw [dstAt_eq] at hd
  refine List.mem_append_right _ ?_
  rw [hg]
  simp only [List.getElem?_toArray, hd]
  simp
theorem wants_bool {l : List Oper} {o : Oper} {ts : List XV} {j : Nat} {want : Bool} {d : Tmp} {b : Bool} (hg : o.guard = some (j, want)) (hd : dstAt l j = some d) (hv : ∀ E v, RelV E (get ts d) v → v = .bool b) : Wants l.toArray o ts (b == want) := by
  intro E a hon
  rw [wanted_of hg, yielded_of hd (hv _ _ (hon.2 d (guard_looks hg hd)))]
  cases b <;> cases want <;> rfl
theorem wants_undef {l : List Oper} {o : Oper} {ts : List XV} {j : Nat} {want : Bool} {d : Tmp} (hg : o.guard = some (j, want)) (hd : dstAt l j = some d) (hv : get ts d = .t []) : Wants l.toArray o ts false := by
  intro E a hon
  have h1 := hon.2 d (guard_looks hg hd)
  rw [hv] at h1
  obtain ⟨vs, hvs, hws⟩ := h1
  have : vs = #[] := by
    cases vs with
    | mk l => cases l with
      | nil => rfl
      | cons _ _ => exact hws.elim
  subst this
  rw [wanted_of hg, yielded_undef hd hvs]; rfl

include hT in
theorem puX_lex {l0 : List Oper} : ∀ {l : List Oper} {ts ts' : List XV} {k : List XV → Prop}, puX C l0 h l ts' k → Eqv ts ts' → aLex C h l0.toArray (fun t => ∃ t', Eqv t t' ∧ k t') l ts
  | [], ts, ts', k, hh, he => ⟨ts', he, hh⟩
  | o :: rest, ts, ts', k, hh, he => by
    have run : ∀ {t : List XV}, Eqv ts t → Wants l0.toArray o t true → (puOp C o t h fun t => puX C l0 h rest t k) → ∃ x, Yld C h l0.toArray o ts x ∧ aLex C h l0.toArray (fun t => ∃ t', Eqv t t' ∧ k t') rest (putT o.dst x ts) := by
      intro t he hw hh
      obtain ⟨x, h1, h2⟩ := puOp_tells hT (all := l0.toArray) hh
      exact ⟨x, he.yld (.inl ⟨hw, h1⟩), puX_lex h2 (he.put _ _)⟩
    have skip : ∀ {t : List XV}, Eqv ts t → Wants l0.toArray o t false → (finQ o.dst (.t []) t fun t => puX C l0 h rest t k) → ∃ x, Yld C h l0.toArray o ts x ∧ aLex C h l0.toArray (fun t => ∃ t', Eqv t t' ∧ k t') rest (putT o.dst x ts) := by
      intro t he hw hh
      rw [finQ_eq] at hh
      have hh : puX C l0 h rest (putT o.dst (.t []) t) k := by cases hd : o.dst <;> simpa [putT, hd] using hh
      exact ⟨.t [], he.yld (.inr ⟨hw, rfl⟩), puX_lex hh (he.put _ _)⟩
    show ∃ x, _
    unfold puX at hh
    split at hh
    · rename_i hg
      exact run he (fun E a _ => by simp [Region.wanted, hg]) hh
    · rename_i j want hg
      split at hh
      case h_1 => exact hh.elim
      rename_i d hd
      split at hh
      · rename_i e; exact run he (wants_bool (b := true) hg hd (fun E v hv => by rw [e] at hv; exact hv)) hh
      · rename_i e; exact run he (wants_bool (b := false) hg hd (fun E v hv => by rw [e] at hv; exact hv)) hh
      · rename_i e; exact skip he (wants_bool (b := true) hg hd (fun E v hv => by rw [e] at hv; exact hv)) hh
      · rename_i e; exact skip he (wants_bool (b := false) hg hd (fun E v hv => by rw [e] at hv; exact hv)) hh
      · rename_i e; exact skip he (wants_undef hg hd e) hh
      · rename_i x e
        have hset : ∀ {y : XV}, (∀ E v, RelV E (get ts' d) v ↔ RelV E y v) → Eqv ts (ts'.set d y) := fun hy => he.rename hy
        cases x
        · have h1 := hh.2 rfl
          rw [setK_eq] at h1
          have he' : Eqv ts (ts'.set d (.c .bf)) := hset fun E v => by rw [e]; exact Iff.rfl
          exact skip he' (wants_bool (b := false) hg hd (fun E v hv => by
              have h2 := (he'.2 d E v).2 hv
              have h3 := (he.2 d E v).1 h2
              rw [e] at h3; exact h3)) h1
        · have h1 := hh.1 rfl
          rw [setK_eq] at h1
          have he' : Eqv ts (ts'.set d (.c .bt)) := hset fun E v => by rw [e]; exact Iff.rfl
          exact run he' (wants_bool (b := true) hg hd (fun E v hv => by
              have h2 := (he'.2 d E v).2 hv
              have h3 := (he.2 d E v).1 h2
              rw [e] at h3; exact h3)) h1
      · rename_i x e
        have hset : ∀ {y : XV}, (∀ E v, RelV E (get ts' d) v ↔ RelV E y v) → Eqv ts (ts'.set d y) := fun hy => he.rename hy
        cases x
        · have h1 := hh.2 rfl
          rw [setK_eq] at h1
          have he' : Eqv ts (ts'.set d (.c .bf)) := hset fun E v => by rw [e]; exact Iff.rfl
          exact run he' (wants_bool (b := false) hg hd (fun E v hv => by
              have h2 := (he'.2 d E v).2 hv
              have h3 := (he.2 d E v).1 h2
              rw [e] at h3; exact h3)) h1
        · have h1 := hh.1 rfl
          rw [setK_eq] at h1
          have he' : Eqv ts (ts'.set d (.c .bt)) := hset fun E v => by rw [e]; exact Iff.rfl
          exact skip he' (wants_bool (b := true) hg hd (fun E v hv => by
              have h2 := (he'.2 d E v).2 hv
              have h3 := (he.2 d E v).1 h2
              rw [e] at h3; exact h3)) h1
      · exact hh.elim

theorem Cfg.drew {w0 : Org} {F : Nat → Prop} {ts : List XV} {h : List It} {a : Act} {w : World} (hc : Cfg w0 F ts h a w) : Cfg w0 F ts h a { w with drawn := w.drawn + 1 } := by
  obtain ⟨w1, F1, hsub, hd, E, hr, hp⟩ := hc
  exact ⟨w1, F1, hsub, hd, E, hr, hp.stays ⟨rfl, rfl, rfl, Nat.le_refl _, fun _ _ _ => rfl⟩⟩

include hT in
/-- A statement whose order is drawn, whose operations each tell one thing: walked in the text's order. -/
theorem drawx_pure {id : Nat} {ops : List Oper} {k : KS} {ts : List XV} {h : List It} (hm : C.P.follows .mixedOrders = true) (hB : Region.lexB .any ops.toArray = true) (hh : puX C ops h ops ts fun ts => k ts h) (hnd : C.rd = none ∨ noDefer ops.toArray = true := by first | exact .inl rfl | exact .inr (by kernel_rfl)) : DrawX C id ops k ts h := by
  unfold DrawX
  intro w0 F Q' a w hK hc
  simp only [Region.lexB, Bool.and_eq_true] at hB
  have hl := puX_lex hT hh (Eqv.refl ts)
  refine fen_drawn (Q := Q' .normal) hnd hm (wpAny_of_aAny (C := C) (h := h) (w0 := w0) (F := F) (k := fun t => ∃ t', Eqv t t' ∧ k t' h) (fun ts' a' w' ⟨t', he, hk⟩ hc' => ⟨rfl, hK _ _ _ _ hk (he.cfg hc')⟩) _ _ ts _ _ hc.drew ?_) (fun _ _ h => h)
  have := aAny_lex (C := C) (h := h) ops 0 (Array.replicate ops.toArray.size false) ts (by simp) (by simpa using hB.2) hl
  simpa using this
end

/-- The call of a contract, inside such a statement. -/
theorem callp_tells {C : Cx} {f : FuncId} {args : List XV} {h : List It} {k : XV → Prop} {v : XV} (hf : Fn C.P f args (Tells v)) (hs : stXs args = true) (hv : stX v) (hk : k v) : CallP C f args h k := by
  unfold CallP
  refine ⟨hf.ok, v, hk, fun w0 F E w us hargs hp => ?_⟩
  refine (hf.run E.bs w us hp.bs (stXs_rel (E := E) (E' := ⟨E.bs, 0, fun _ => 0, fun _ => undef, fun _ _ => False⟩) rfl hs hargs)).mono fun e w' ⟨u, x, h', E', he, hR, hx, hp'⟩ => ?_
  obtain ⟨hp2, hle⟩ := hp.behind hp'
  exact ⟨u, { E with bs := E'.bs }, he, hle, RelV.ofSt (E := E') (E' := { E with bs := E'.bs }) (fun b hb => ⟨hb, rfl⟩) hv (entV_rel hR hx), hp2⟩
theorem callp_as {C : Cx} {f : FuncId} {args : List XV} {h : List It} {k : XV → Prop} {v : XV} (v' : XV) (hf : Fn C.P f args (Tells v)) (hs : stXs args = true) (he : entV v v') (hv : stX v') (hk : k v') : CallP C f args h k := by
  unfold CallP
  refine ⟨hf.ok, v', hk, fun w0 F E w us hargs hp => ?_⟩
  refine (hf.run E.bs w us hp.bs (stXs_rel (E := E) (E' := ⟨E.bs, 0, fun _ => 0, fun _ => undef, fun _ _ => False⟩) rfl hs hargs)).mono fun e w' ⟨u, x, h', E', he', hR, hx, hp'⟩ => ?_
  obtain ⟨hp2, hle⟩ := hp.behind hp'
  exact ⟨u, { E with bs := E'.bs }, he', hle, RelV.ofSt (E := E') (E' := { E with bs := E'.bs }) (fun b hb => ⟨hb, rfl⟩) hv (entV_rel he (entV_rel hR hx)), hp2⟩
/-- .. of a function that reads what the caller owns. -/
theorem callp_lend {C : Cx} {f : FuncId} {args : List XV} {h : List It} {k : XV → Prop} {args' : List XV} {v : XV} (hf : Fn C.P f args' (Tells v)) (hl : args.map (lendV h) = args') (hs : stXs args' = true) (hv : flatV v = true) (hk : k v) : CallP C f args h k := by
  unfold CallP
  refine ⟨hf.ok, v, hk, fun w0 F E w us hargs hp => ?_⟩
  refine (hf.run (E.lent h w).bs w us hp.lent_ok (stXs_rel (E := E.lent h w) (E' := ⟨(E.lent h w).bs, 0, fun _ => 0, fun _ => undef, fun _ _ => False⟩) rfl hs (hl ▸ lendTs_rel hp hargs))).mono fun e w' ⟨u, x, h', E', he, hR, hx, hp'⟩ => ?_
  exact ⟨u, E, he, EnvLe.refl E, flatV_rel hv (entV_rel hR hx), hp.stays hp'.fr⟩
end Go.Eng
