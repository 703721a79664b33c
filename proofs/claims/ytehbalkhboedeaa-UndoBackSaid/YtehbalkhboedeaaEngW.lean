/- The engine, part W: maps whose keys are whole numbers, or structs and arrays of them. Nothing of any program is proved here. -/
import Derived.Test.YtehbalkhboedeaaEngP3
namespace Go.Eng
open Go Go.RowKit
set_option linter.unusedSimpArgs false
set_option linter.unusedVariables false

/-! ### keys -/
mutual
theorem flat_check {P : Program} (em : Bool) : ∀ (d : Nat) (t : TypeId) (l : List Nat), flatT P d t = some l → ∀ (n : Nat) (xs : List Value) (w : World), d ≤ n → xs.length = l.length →
    (Instr.checkKey em n t (mkVal (isAggT P t) xs)).run P w = .ok () w
  | 0, _, _, h, _, _, _, _, _ => by simp [flatT] at h
  | d + 1, t, l, h, n, xs, w, hn, hk => by
    obtain ⟨n, rfl⟩ : ∃ m, n = m + 1 := ⟨n - 1, by omega⟩
    unfold flatT at h
    cases hu : P.underlying t with
    | none => simp [hu] at h
    | some dd =>
      rw [hu] at h
      cases dd <;> simp only [reduceCtorEq] at h
      case int k =>
        cases h
        match xs, hk with
        | [u], _ => simp [isAggT, hu, mkVal, Instr.checkKey, run_underlying hu]
      case bool =>
        cases h
        match xs, hk with
        | [u], _ => simp [isAggT, hu, mkVal, Instr.checkKey, run_underlying hu]
      case string =>
        cases h
        match xs, hk with
        | [u], _ => simp [isAggT, hu, mkVal, Instr.checkKey, run_underlying hu]
      case array m el =>
        cases hf : flatT P d el with
        | none => simp [hf] at h
        | some q =>
          simp only [hf] at h
          split at h
          case isFalse => cases h
          case isTrue hm =>
            cases h
            obtain ⟨hlen, hinfo⟩ := hm
            obtain ⟨i, hi⟩ := Option.isSome_iff_exists.1 hinfo
            have hag : isAggT P t = true := by simp [isAggT, hu]
            rw [hag, Instr.checkKey]
            simp only [mkVal, if_true, Sem.run_bind, run_underlying hu, Result.andThen_ok]
            simp only [Std.Legacy.Range.forIn_eq_forIn_range', Std.Legacy.Range.size, Nat.sub_zero, Nat.add_one_sub_one, Nat.div_one]
            have hxl : xs.length = m * P.cellsOf el := by rw [hk, ← hlen]; simp
            have key : ∀ (is : List Nat), (∀ j ∈ is, j < m) → ∀ w : World, (forIn is PUnit.unit fun i (_ : PUnit) => (do
                Instr.checkKey em n el (← part el xs.toArray (i * (← sizeOf el)))
                pure (ForInStep.yield PUnit.unit) : Sem (ForInStep PUnit))).run P w = .ok PUnit.unit w := by
              intro is
              induction is with
              | nil => intro _ w; simp
              | cons j is ih =>
                intro hall w
                have hj := hall j (by simp)
                have hle : (j + 1) * P.cellsOf el ≤ m * P.cellsOf el := Nat.mul_le_mul_right _ hj
                rw [Nat.succ_mul] at hle
                have hpl : ((xs.drop (j * P.cellsOf el)).take (P.cellsOf el)).length = P.cellsOf el := by simp; omega
                have px := run_part_flat hf hlen hinfo w xs.toArray (j * P.cellsOf el) _ hpl (by simp)
                have pc := flat_check em d el q hf n _ w (by omega) (hpl.trans hlen.symm)
                simp only [List.forIn_cons, Sem.run_bind, run_sizeOf w hi, Result.andThen_ok, px, pc, Sem.run_pure]
                exact ih (fun y hy => hall y (by simp [hy])) w
            rw [key (List.range' 0 m) (fun j hj => by simpa using hj) w]; rfl
      case struct fs =>
        split at h
        case isTrue => cases h
        case isFalse hst =>
          have hag : isAggT P t = true := by simp [isAggT, hu]
          rw [hag, Instr.checkKey]
          simp only [mkVal, if_true, Sem.run_bind, run_underlying hu, Result.andThen_ok]
          rw [← Array.forIn_toList]
          rw [flat_checks em d 0 fs.toList l h n xs w (by omega) (by simpa using hk)]; rfl
theorem flat_checks {P : Program} (em : Bool) : ∀ (d off : Nat) (fs : List Field) (l : List Nat), flatFs P d off fs = some l → ∀ (n : Nat) (xs : List Value) (w : World), d ≤ n → xs.length = off + l.length →
    (forIn fs PUnit.unit fun f (_ : PUnit) => (if f.name ≠ "_" then do
        let a ← part f.type xs.toArray f.offset
        Instr.checkKey em n f.type a
        pure (ForInStep.yield PUnit.unit)
      else pure (ForInStep.yield PUnit.unit) : Sem (ForInStep PUnit))).run P w = .ok PUnit.unit w
  | 0, _, _, _, h, _, _, _, _, _ => by simp [flatFs] at h
  | d + 1, off, [], l, h, n, xs, w, hn, hk => by simp
  | d + 1, off, f :: fs, l, h, n, xs, w, hn, hk => by
    simp only [flatFs] at h
    split at h
    case isFalse => cases h
    case isTrue hc =>
      obtain ⟨hname, ho, hinfo⟩ := hc
      cases hf : flatT P d f.type with
      | none => simp [hf] at h
      | some m =>
        cases hr : flatFs P d (off + P.cellsOf f.type) fs with
        | none => simp [hf, hr] at h
        | some r =>
          simp only [hf, hr] at h
          split at h
          case isFalse => cases h
          case isTrue hlen =>
            cases h
            simp only [List.length_append] at hk
            have hpl : ((xs.drop off).take (P.cellsOf f.type)).length = P.cellsOf f.type := by simp; omega
            have px := run_part_flat hf hlen hinfo w xs.toArray off _ hpl (by simp)
            have pc := flat_check em d f.type m hf n _ w (by omega) (hpl.trans hlen.symm)
            have ih := flat_checks em d (off + P.cellsOf f.type) fs r hr n xs w (by omega) (by omega)
            simp only [List.forIn_cons, Sem.run_bind, hname, ne_eq, not_false_eq_true, if_true, ho, px, pc, Result.andThen_ok, Sem.run_pure]
            exact ih
end

/-- The cells of a key of whole numbers. -/
def keyCells (ks : List IntKind) (k : List Int) : List Value := List.zipWith Value.int ks k
theorem keyCells_len {ks : List IntKind} {k : List Int} (h : k.length = ks.length) : (keyCells ks k).length = ks.length := by simp [keyCells, h]
theorem keyCells_eq : ∀ {ks : List IntKind} {a b : List Int}, a.length = ks.length → b.length = ks.length → leavesEq (keyCells ks a) (keyCells ks b) = decide (a = b)
  | [], [], [], _, _ => rfl
  | k :: ks, x :: a, y :: b, ha, hb => by
    have := keyCells_eq (ks := ks) (a := a) (b := b) (by simpa using ha) (by simpa using hb)
    simp only [keyCells, List.zipWith_cons_cons, leavesEq, leafEq]
    simp only [keyCells] at this
    rw [this]
    by_cases h1 : x = y <;> by_cases h2 : a = b <;> simp [h1, h2]
  | [], _ :: _, _, ha, _ => by simp at ha
  | [], [], _ :: _, _, hb => by simp at hb
  | _ :: _, [], _, ha, _ => by simp at ha
  | _ :: _, _ :: _, [], _, hb => by simp at hb
theorem keyCells_ok : ∀ {ks : List IntKind} {a b : List Int}, a.length = ks.length → b.length = ks.length → leavesOk (List.replicate ks.length 0) (keyCells ks a) (keyCells ks b) = true
  | [], [], [], _, _ => rfl
  | k :: ks, x :: a, y :: b, ha, hb => by
    have := keyCells_ok (ks := ks) (a := a) (b := b) (by simpa using ha) (by simpa using hb)
    simp only [keyCells, List.length_cons, List.replicate_succ, List.zipWith_cons_cons, leavesOk, leafOk, decide_true, Bool.true_and]
    exact this
  | [], _ :: _, _, ha, _ => by simp at ha
  | [], [], _ :: _, _, hb => by simp at hb
  | _ :: _, [], _, ha, _ => by simp at ha
  | _ :: _, _ :: _, [], _, hb => by simp at hb

def kxs : List XC → Option (List IntKind × List Int)
  | [] => some ([], [])
  | x :: l => (match asI x, kxs l with | some (_, k, n), some (ks, ns) => some (k :: ks, n :: ns) | _, _ => none)
def kx : XV → Option (List IntKind × List Int)
  | .c x => (match asI x with | some (_, k, n) => some ([k], [n]) | none => none)
  | .a l => kxs l
  | _ => none
theorem kxs_rel {E : Env} : ∀ {l : List XC} {vs : List Value} {ks : List IntKind} {ns : List Int}, kxs l = some (ks, ns) → RelL E l vs → vs = keyCells ks ns ∧ ns.length = ks.length
  | [], [], ks, ns, h, _ => by simp [kxs] at h; obtain ⟨rfl, rfl⟩ := h; exact ⟨rfl, rfl⟩
  | x :: l, v :: vs, ks, ns, h, hr => by
    unfold kxs at h
    split at h
    · rename_i e1 e2
      cases h
      obtain ⟨rfl, h2⟩ := kxs_rel e2 hr.2
      have := asI_rel e1 hr.1
      subst this
      exact ⟨rfl, by simp [h2]⟩
    · cases h
  | [], _ :: _, _, _, _, hr => hr.elim
  | _ :: _, [], _, _, _, hr => hr.elim
def isA : XV → Bool
  | .a _ => true
  | _ => false
theorem kx_rel {E : Env} {x : XV} {v : Value} {ks : List IntKind} {ns : List Int} (h : kx x = some (ks, ns)) (hr : RelV E x v) : v = mkVal (isA x) (keyCells ks ns) ∧ ns.length = ks.length := by
  cases x with
  | un => simp [kx] at h
  | t l => simp [kx] at h
  | c x =>
    simp only [kx] at h
    split at h
    · rename_i e; cases h
      have := asI_rel e hr
      subst this
      exact ⟨rfl, rfl⟩
    · cases h
  | a l =>
    obtain ⟨vs, rfl, hl⟩ := hr
    obtain ⟨h1, h2⟩ := kxs_rel h hl
    refine ⟨?_, h2⟩
    simp [isA, mkVal, ← h1]

/-! ### what a map has -/
def EsRel (bs : Base) (ag : Bool) (ks : List IntKind) (va : Bool) (vz : Nat) (val : List Int → List XC) : List MapEntry → List (List Int) → Prop
  | [], [] => True
  | e :: es, k :: dom => (k.length = ks.length ∧ e.key = mkVal ag (keyCells ks k) ∧ ∃ us, us.length = vz ∧ e.val = mkVal va us ∧ RelL ⟨bs, 0, fun _ => 0, fun _ => undef, fun _ _ => False⟩ (val k) us ∧ ∀ x ∈ val k, St x) ∧ EsRel bs ag ks va vz val es dom
  | _, _ => False
/-- A map's entries: its keys, and what it has at each. -/
def MapA (ag : Bool) (ks : List IntKind) (va : Bool) (vz : Nat) (dom : List (List Int)) (val : List Int → List XC) : Abs where
  is bs v S w := ∃ b es clock, v = .map (some b) ∧ S b ∧ w.heap[b]? = some (.map es clock) ∧ EsRel bs ag ks va vz val es.toList dom ∧ dom.Nodup ∧ es.toList.Pairwise (fun x y => x.born < y.born) ∧ ∀ e ∈ es.toList, e.born < clock
  one := by rintro bs v S w ⟨b, es, clock, rfl, _⟩; rfl
  st := by
    rintro bs bs' v S w w' hbs hS ⟨b, es, clock, rfl, hb, hw, hrel, hrest⟩
    refine ⟨b, es, clock, rfl, hb, (hS b hb).trans hw, ?_, hrest⟩
    clear hrest hw
    generalize es.toList = l at hrel
    have key : ∀ (l : List MapEntry) (dom : List (List Int)), EsRel bs ag ks va vz val l dom → EsRel bs' ag ks va vz val l dom := by
      intro l
      induction l with
      | nil => intro dom hrel; cases dom with | nil => trivial | cons _ _ => exact hrel.elim
      | cons e l ih =>
       intro dom hrel
       cases dom with
       | nil => exact hrel.elim
       | cons k dom =>
        obtain ⟨⟨h1, h2, us, h3, h4, h5, h6⟩, h7⟩ := hrel
        refine ⟨⟨h1, h2, us, h3, h4, ?_, h6⟩, ih _ h7⟩
        have : ∀ {l : List XC} {vs : List Value}, (∀ x ∈ l, St x) → RelL ⟨bs, 0, fun _ => 0, fun _ => undef, fun _ _ => False⟩ l vs → RelL ⟨bs', 0, fun _ => 0, fun _ => undef, fun _ _ => False⟩ l vs := by
          intro l
          induction l with
          | nil => intro vs _ h; cases vs with | nil => trivial | cons _ _ => exact h.elim
          | cons x l ih =>
            intro vs hs h
            cases vs with
            | nil => exact h.elim
            | cons v vs => exact ⟨RelC.stable hbs x v (hs x (by simp)) h.1, ih (fun y hy => hs y (by simp [hy])) h.2⟩
        exact this h6 h5
    exact key l dom hrel

theorem EsRel.len {bs : Base} {ag : Bool} {ks : List IntKind} {va : Bool} {vz : Nat} {val : List Int → List XC} : ∀ {es : List MapEntry} {dom : List (List Int)}, EsRel bs ag ks va vz val es dom → es.length = dom.length
  | [], [], _ => rfl
  | _ :: _, _ :: _, h => by simp [EsRel.len h.2]
  | [], _ :: _, h => h.elim
  | _ :: _, [], h => h.elim
theorem EsRel.mono {bs : Base} {ag : Bool} {ks : List IntKind} {va : Bool} {vz : Nat} {val val' : List Int → List XC} : ∀ {es : List MapEntry} {dom : List (List Int)}, (∀ k ∈ dom, val' k = val k) → EsRel bs ag ks va vz val es dom → EsRel bs ag ks va vz val' es dom
  | [], [], _, _ => trivial
  | _ :: _, k :: dom, he, h => ⟨by rw [he k (by simp)]; exact h.1, EsRel.mono (fun k hk => he k (by simp [hk])) h.2⟩
  | [], _ :: _, _, h => h.elim
  | _ :: _, [], _, h => h.elim

section
variable {P : Program} {w : World} {kt : TypeId} {ag : Bool} {ks : List IntKind} {va : Bool} {vz : Nat} {val : List Int → List XC} {bs : Base}

theorem run_findKey' {P : Program} {w : World} {kt : TypeId} {d : TypeDesc} {k : Value} {l : List MapEntry} {a : Option (Nat × Value)} (hd : P.underlying kt = some d) (h : Instr.findNow d k l 0 = some a) : (Instr.findKey kt k l).run P w = .ok a w := by
  simp [Instr.findKey, run_underlying hd, Result.andThen, h]
/-- A type of keys: so many whole numbers. -/
structure KeyT (P : Program) (kt : TypeId) (ag : Bool) (n : Nat) : Prop where
  flat : flatT P 40 kt = some (List.replicate n 0)
  agg : isAggT P kt = ag
theorem find_asking (K : KeyT P kt ag ks.length) {k : List Int} (hk : k.length = ks.length) : ∀ {es : List MapEntry} {dom : List (List Int)} (i : Nat), EsRel bs ag ks va vz val es dom →
    (k ∉ dom ∧ (Instr.findAsking kt (mkVal ag (keyCells ks k)) es i).run P w = .ok none w) ∨
    (∃ j e, es[j]? = some e ∧ dom[j]? = some k ∧ (Instr.findAsking kt (mkVal ag (keyCells ks k)) es i).run P w = .ok (some (i + j, e.val)) w)
  | [], [], i, _ => .inl ⟨by simp, by simp [Instr.findAsking]⟩
  | e :: es, k' :: dom, i, h => by
    obtain ⟨⟨h1, h2, _⟩, h7⟩ := h
    have heq := flat_equal 40 kt _ K.flat 10000 (keyCells ks k) (keyCells ks k') w (by omega) (keyCells_ok hk h1)
    rw [K.agg, keyCells_eq hk h1] at heq
    have heq : (Op.equal kt (mkVal ag (keyCells ks k)) (mkVal ag (keyCells ks k'))).run P w = .ok (decide (k = k')) w := heq
    by_cases he : k = k'
    · subst he
      exact .inr ⟨0, e, rfl, rfl, by simp [Instr.findAsking, h2, heq]⟩
    · rcases find_asking K hk (i + 1) h7 with ⟨h3, h4⟩ | ⟨j, e', h3, h4, h5⟩
      · exact .inl ⟨by simp [he, h3], by simp [Instr.findAsking, h2, heq, he, h4]⟩
      · exact .inr ⟨j + 1, e', by simpa using h3, by simpa using h4, by simp [Instr.findAsking, h2, heq, he, h5, Nat.add_assoc, Nat.add_comm 1 j]⟩
  | [], _ :: _, _, h => h.elim
  | _ :: _, [], _, h => h.elim
theorem find_now {q q' : IntKind} {n : Int} : ∀ {es : List MapEntry} {dom : List (List Int)} (i : Nat), EsRel bs false [q] va vz val es dom →
    ([n] ∉ dom ∧ Instr.findNow (.int q') (.int q n) es i = some none) ∨
    (∃ j e, es[j]? = some e ∧ dom[j]? = some [n] ∧ Instr.findNow (.int q') (.int q n) es i = some (some (i + j, e.val)))
  | [], [], i, _ => .inl ⟨by simp, rfl⟩
  | e :: es, k' :: dom, i, h => by
    obtain ⟨⟨h1, h2, _⟩, h7⟩ := h
    match k', h1 with
    | [m], _ =>
      have h2 : e.key = .int q m := h2
      by_cases he : n = m
      · subst he
        exact .inr ⟨0, e, rfl, rfl, by simp [Instr.findNow, Instr.sameNow, h2]⟩
      · have hb : (n == m) = false := by simpa using he
        rcases find_now (q' := q') (n := n) (i + 1) h7 with ⟨h3, h4⟩ | ⟨j, e', h3, h4, h5⟩
        · exact .inl ⟨by simp [he, h3], by simp [Instr.findNow, Instr.sameNow, h2, hb, h4]⟩
        · exact .inr ⟨j + 1, e', by simpa using h3, by simpa using h4, by simp [Instr.findNow, Instr.sameNow, h2, hb, h5, Nat.add_assoc, Nat.add_comm 1 j]⟩
  | [], _ :: _, _, h => h.elim
  | _ :: _, [], _, h => h.elim
theorem find_key (K : KeyT P kt ag ks.length) {k : List Int} (hk : k.length = ks.length) {es : List MapEntry} {dom : List (List Int)} (h : EsRel bs ag ks va vz val es dom) :
    (k ∉ dom ∧ (Instr.findKey kt (mkVal ag (keyCells ks k)) es).run P w = .ok none w) ∨
    (∃ j e, es[j]? = some e ∧ dom[j]? = some k ∧ (Instr.findKey kt (mkVal ag (keyCells ks k)) es).run P w = .ok (some (j, e.val)) w) := by
  have hf := K.flat
  have hag := K.agg
  unfold flatT at hf
  cases hu : P.underlying kt with
  | none => simp [hu] at hf
  | some dd =>
    rw [hu] at hf
    have wide : (∀ q, dd ≠ .int q) → (match dd with | .array _ _ | .struct _ => true | _ => false) = true → (Instr.findKey kt (mkVal ag (keyCells ks k)) es).run P w = (Instr.findAsking kt (mkVal ag (keyCells ks k)) es).run P w := by
      intro _ hw
      cases es with
      | nil => simp [Instr.findKey, run_underlying hu, Instr.findNow, Instr.findAsking]
      | cons e es => cases dd <;> simp at hw <;> simp [Instr.findKey, run_underlying hu, Instr.findNow, Instr.sameNow]
    cases dd <;> simp only [reduceCtorEq] at hf
    case int q =>
      have hf : [0] = List.replicate ks.length 0 := by simpa using hf
      have hn : ks.length = 1 := by rw [← List.length_replicate (n := ks.length) (a := 0), ← hf]; rfl
      match ks, hn, k, hk with
      | [p], _, [n], _ =>
        have ha : ag = false := by rw [← hag]; simp [isAggT, hu]
        subst ha
        rcases find_now (q' := q) (n := n) 0 h with ⟨h1, h2⟩ | ⟨j, e, h1, h2, h3⟩
        · exact .inl ⟨h1, run_findKey' hu h2⟩
        · exact .inr ⟨j, e, h1, h2, by have := run_findKey' (w := w) hu h3; rw [Nat.zero_add] at this; exact this⟩
    case bool =>
      exfalso
      have hf : [1] = List.replicate ks.length 0 := by simpa using hf
      cases hl : ks.length <;> rw [hl] at hf <;> simp [List.replicate_succ] at hf
    case string =>
      exfalso
      have hf : [2] = List.replicate ks.length 0 := by simpa using hf
      cases hl : ks.length <;> rw [hl] at hf <;> simp [List.replicate_succ] at hf
    case array m el =>
      rw [wide (by simp) rfl]
      rcases find_asking K hk 0 h with ⟨h1, h2⟩ | ⟨j, e, h1, h2, h3⟩
      · exact .inl ⟨h1, h2⟩
      · exact .inr ⟨j, e, h1, h2, by simpa using h3⟩
    case struct fs =>
      rw [wide (by simp) rfl]
      rcases find_asking K hk 0 h with ⟨h1, h2⟩ | ⟨j, e, h1, h2, h3⟩
      · exact .inl ⟨h1, h2⟩
      · exact .inr ⟨j, e, h1, h2, by simpa using h3⟩
theorem check_key (K : KeyT P kt ag ks.length) {k : List Int} (hk : k.length = ks.length) (em : Bool) : (Instr.checkKey em 10000 kt (mkVal ag (keyCells ks k))).run P w = .ok () w := by
  have := flat_check em 40 kt _ K.flat 10000 (keyCells ks k) w (by omega) (by simp [keyCells_len hk])
  rwa [K.agg] at this
theorem sameBits_int : ∀ (ks : List IntKind) (k : List Int), ((keyCells ks k).zip (keyCells ks k)).all (fun (x, y) => Instr.sameBits 9999 x y) = true
  | [], _ => by simp [keyCells]
  | _ :: _, [] => by simp [keyCells]
  | q :: ks, n :: k => by
    have := sameBits_int ks k
    simp only [keyCells, List.zipWith_cons_cons, List.zip_cons_cons, List.all_cons] at this ⊢
    rw [this]
    simp [Instr.sameBits]
theorem stays_key {k : List Int} (hk : k.length = ks.length) (hag : ag = false → ks.length = 1) : (Instr.keyThatStays (mkVal ag (keyCells ks k)) (mkVal ag (keyCells ks k))).run P w = .ok (mkVal ag (keyCells ks k)) w := by
  have : Instr.sameBits 10000 (mkVal ag (keyCells ks k)) (mkVal ag (keyCells ks k)) = true := by
    cases ag with
    | true =>
      simp only [mkVal, if_true]
      have := sameBits_int ks k
      simp only [Instr.sameBits, beq_self_eq_true, Bool.true_and]
      exact this
    | false =>
      match ks, hag rfl, k, hk with
      | [q], _, [n], _ => simp [mkVal, keyCells, Instr.sameBits]
  simp [Instr.keyThatStays, this]
end

theorem zero_val {P : Program} {t : TypeId} {ti : TI} (h : mkTI P t = some ti) (w : World) : (zeroValue t).run P w = .ok (mkVal ti.agg ti.zero) w := by
  have hs := TIs.of h
  obtain ⟨i, hi, hsz, hby, z, hz, hc, hag, hzs⟩ := hs.info
  have hrun : (zeroValue t).run P w = .ok z w := by simp [zeroValue, typeInfo, hi, hz]
  rw [hrun]
  congr 1
  cases ha : ti.agg with
  | true => rw [hag ha]; simp [mkVal]
  | false =>
    have hz2 : zAgg i.zero = false := by
      unfold mkTI at h
      cases hu : P.underlying t with
      | none => simp [hi, hu] at h
      | some d =>
        simp only [hi, hu] at h
        split at h
        · rename_i hcond
          simp only [Bool.and_eq_true, beq_iff_eq] at hcond
          cases h
          have ha : isAggT P t = false := ha
          rw [← hcond.2, ha]
        · cases h
    have h1 := hs.one ha
    have hl := hs.zlen
    rw [h1] at hl
    rw [hz] at hz2
    match hl0 : ti.zero, hl with
    | [u], _ =>
      rw [hl0] at hc
      simp only [mkVal, Bool.false_eq_true, if_false, List.headD_cons]
      cases z <;> simp [Value.cells] at hc <;> first | exact hc | (simp [zAgg] at hz2)

/-! ### an abstract item says something else -/
theorem Heap.putAbs {w0 : Org} {F : Nat → Prop} {E : Env} {h : List It} {w w' : World} (hp : Heap w0 F E h w) {it : Nat} {A A' : Abs} (hx : h[it]? = some (.abs A)) (hi : A'.is E.bs (E.sl it) (E.ext it) w')
    (hs : w'.heap.size = w.heap.size) (ho : w'.os = w.os) (ht : w'.tape = w.tape) (hu : w'.output = w.output) (hk : ∀ k, ¬ E.ext it k → w'.heap[k]? = w.heap[k]?) : Heap w0 F E (h.set it (.abs A')) w' := by
  have hlt := (List.getElem?_eq_some_iff.1 hx).1
  have at_ : ∀ {k : Nat} {z : It}, (h.set it (.abs A'))[k]? = some z → (k ≠ it ∧ h[k]? = some z) ∨ (k = it ∧ z = .abs A') := by
    intro k z hz
    by_cases he : it = k
    · subst he; rw [List.getElem?_set_self hlt] at hz; exact .inr ⟨rfl, by simpa using hz.symm⟩
    · rw [List.getElem?_set_ne he] at hz; exact .inl ⟨fun e => he e.symm, hz⟩
  refine ⟨?_, hp.le, hp.nb, by simpa using hp.n, ?_, ?_, ?_, ?_⟩
  · intro k hB
    have h1 := hp.bs k hB
    exact ⟨by rw [hs]; exact h1.1, (hk k (fun e => (hp.own it _ k hx e).2.1 hB)).trans h1.2⟩
  · intro k z hz
    rcases at_ hz with ⟨hne, hz⟩ | ⟨rfl, rfl⟩
    · exact (hp.ok k z hz).of_block fun c hc => hk c fun e => hne (hp.sep k it z _ c hz hx hc e)
    · exact hi
  · intro k z c hz hc
    rw [hs]
    rcases at_ hz with ⟨hne, hz⟩ | ⟨rfl, rfl⟩
    · exact hp.own k z c hz hc
    · exact hp.own k _ c hx hc
  · intro j k z z' c hz hz' hc hc'
    rcases at_ hz with ⟨hj, h1⟩ | ⟨e1, e2⟩ <;> rcases at_ hz' with ⟨hk', h2⟩ | ⟨e3, e4⟩
    · exact hp.sep j k z z' c h1 h2 hc hc'
    · rw [e3, e4] at hc'; rw [e3]; exact hp.sep j it z _ c h1 hx hc hc'
    · rw [e1, e2] at hc; rw [e1]; exact hp.sep it k _ z' c hx h2 hc hc'
    · rw [e1, e3]
  · refine ⟨ho.trans hp.fr.os, ht.trans hp.fr.tape, hu.trans hp.fr.output, by rw [hs]; exact hp.fr.size, fun k hk' hF => ?_⟩
    by_cases e : E.ext it k
    · rcases (hp.own it _ k hx e).2.2 with h1 | h1
      · omega
      · exact (hF h1).elim
    · exact (hk k e).trans (hp.fr.block k hk' hF)

/-! ### operations on maps -/
def fitMp (T : Tab) (t : TypeId) (n : Nat) (ag : Bool) : Option (TypeId × TypeId × TI) :=
  match T t with
  | some ti => (match ti.kd with
    | .mp kt et => (match T kt, T et with
      | some ki, some ei => (match ki.flat with
        | some l => (match Nat.beq l.length n && l.all (fun m => Nat.beq m 0) && (match ki.agg, ag with | true, true => true | false, false => true | _, _ => false) with
          | true => some (kt, et, ei)
          | false => none)
        | none => none)
      | _, _ => none)
    | _ => none)
  | none => none
theorem mkKd_mp {P : Program} {t k e : TypeId} (h : mkKd P t = .mp k e) : P.underlying t = some (.map k e) := by
  unfold mkKd at h
  split at h <;> simp_all
theorem fitMp_spec {P : Program} {T : Tab} (hT : TabOk P T) {t : TypeId} {n : Nat} {ag : Bool} {kt et : TypeId} {ei : TI} (h : fitMp T t n ag = some (kt, et, ei)) :
    P.underlying t = some (.map kt et) ∧ KeyT P kt ag n ∧ mkTI P et = some ei := by
  unfold fitMp at h
  split at h
  case h_2 => cases h
  rename_i ti ht
  split at h
  case h_2 => cases h
  rename_i k e hkd
  split at h
  case h_2 => cases h
  rename_i ki ei' hk he
  split at h
  case h_2 => cases h
  rename_i l hl
  split at h
  case h_2 => cases h
  rename_i hc
  cases h
  simp only [Bool.and_eq_true] at hc
  have hks := TIs.of (hT _ _ hk)
  obtain ⟨hf, _, _⟩ := flatOf_spec (hks.flat.symm.trans hl)
  have hl0 : l = List.replicate n 0 := by
    refine List.eq_replicate_iff.2 ⟨Nat.eq_of_beq_eq_true hc.1.1, fun b hb => Nat.eq_of_beq_eq_true (List.all_eq_true.1 hc.1.2 b hb)⟩
  refine ⟨mkKd_mp ((TIs.of (hT _ _ ht)).kd.symm.trans hkd), ⟨hl0 ▸ hf, ?_⟩, hT _ _ he⟩
  have h3 := hc.2
  have hag : ki.agg = isAggT P kt := hks.agg.symm
  rw [← hag]
  revert h3
  cases ki.agg <;> cases ag <;> simp

section
variable {C : Cx} (hT : TabOk C.P C.T) {ts : List XV} {h : List It} {k : KE}

theorem esrel_at {bs : Base} {ag : Bool} {ks : List IntKind} {va : Bool} {vz : Nat} {val : List Int → List XC} : ∀ {es : List MapEntry} {dom : List (List Int)} (j : Nat) {e : MapEntry} {q : List Int}, EsRel bs ag ks va vz val es dom → es[j]? = some e → dom[j]? = some q →
    q.length = ks.length ∧ e.key = mkVal ag (keyCells ks q) ∧ ∃ us, us.length = vz ∧ e.val = mkVal va us ∧ RelL ⟨bs, 0, fun _ => 0, fun _ => undef, fun _ _ => False⟩ (val q) us ∧ ∀ x ∈ val q, St x
  | e :: es, q :: dom, 0, _, _, h, he, hq => by simp at he hq; subst he; subst hq; exact h.1
  | _ :: es, _ :: dom, j + 1, e, q, h, he, hq => esrel_at j h.2 (by simpa using he) (by simpa using hq)
  | [], [], _, _, _, _, he, _ => by simp at he
  | [], _ :: _, _, _, _, h, _, _ => h.elim
  | _ :: _, [], _, _, _, h, _, _ => h.elim

include hT in
/-- x := m[k] -/
theorem opx_lookup {dst : Option Tmp} {t : TypeId} {x y : Operand} {ty : TypeId} {pos : String} {after : Array Edge} {guard : Option (Nat × Bool)} {it : Nat} {ag : Bool} {ks : List IntKind} {va : Bool} {vz : Nat} {dom : List (List Int)} {val : List Int → List XC} {q : List Int} {kt et : TypeId} {ei : TI}
    (hx : opv ts x = .c (.ow it)) (hit : itemAt h it = .abs (MapA ag ks va vz dom val)) (hy : kx (opv ts y) = some (ks, q)) (hya : isA (opv ts y) = ag) (ht : fitMp C.T t ks.length ag = some (kt, et, ei)) (hva : ei.agg = va) (hvz : ei.size = vz)
    (hin : q ∈ dom → mkX va (val q) fun v => k v ts h) (hout : q ∉ dom → mkX va (zeroX ei.zero) fun v => k v ts h) : OpX C ⟨dst, .lookup t x y false, ty, pos, after, guard⟩ ts h k := by
  unfold OpX
  refine And.intro (fun c e => Op.noConfusion e) ?_
  intro w0 F E w a hr hp
  have hxr := opv_rel hr x
  have hyr := opv_rel hr y
  rw [hx] at hxr
  have hi := itemAt_eq _ _ hit (by simp)
  obtain ⟨b, es, clock, hv, hS, hw, hrel, hnd, hpw, hcl⟩ := hp.ok it _ hi
  obtain ⟨hkey, hlen⟩ := kx_rel hy hyr
  rw [hya] at hkey
  obtain ⟨hu, K, hei⟩ := fitMp_spec hT ht
  have hxv : a.eval x = .map (some b) := hxr.2.1.trans hv
  have hobj : (getObj b).run C.P w = .ok (.map es clock) w := by simp [getObj, Sem.run, hw]
  rcases find_key (w := w) K hlen hrel with ⟨h1, h2⟩ | ⟨j, e, h1, h2, h3⟩
  · have hz := zero_val hei w
    rw [hva] at hz
    obtain ⟨v, hk, hvr⟩ := mkX_sound (E := E) (hout h1) (zeroX_rel E ei.zero (TIs.of hei).zone)
    refine ⟨_, mkVal va ei.zero, w, v, ts, h, E, .inl rfl, ?_, hk, hvr, hr, hp⟩
    simp [execOp, Instr.lookup, run_underlying hu, hxv, hobj, hkey, check_key K hlen, h2, hz]
  · obtain ⟨_, _, us, hul, hev, hur, hst⟩ := esrel_at j hrel h1 h2
    have hur' : RelL E (val q) us := RelL.ofSt (E := ⟨E.bs, 0, fun _ => 0, fun _ => undef, fun _ _ => False⟩) (E' := E) rfl hst hur
    have hmem : q ∈ dom := List.mem_of_getElem? h2
    obtain ⟨v, hk, hvr⟩ := mkX_sound (hin hmem) hur'
    refine ⟨_, e.val, w, v, ts, h, E, .inl rfl, ?_, hk, hev ▸ hvr, hr, hp⟩
    simp [execOp, Instr.lookup, run_underlying hu, hxv, hobj, hkey, check_key K hlen, h3]

/-- A value, as part of a tuple. -/
def mkW (agg : Bool) (l : List XC) (k : XW → Prop) : Prop :=
  match agg, l with
  | true, l => k (.a l)
  | false, [x] => k (.c x)
  | false, _ => False
theorem mkW_sound {E : Env} {agg : Bool} {l : List XC} {us : List Value} {k : XW → Prop} (h : mkW agg l k) (hr : RelL E l us) : ∃ x, k x ∧ RelW E x (mkVal agg us) := by
  unfold mkW at h
  split at h
  · exact ⟨_, h, us.toArray, rfl, by simpa using hr⟩
  · match us, hr with
    | [u], hr => exact ⟨_, h, hr.1⟩
  · exact h.elim

include hT in
/-- x, is := m[k] -/
theorem opx_lookup2 {dst : Option Tmp} {t : TypeId} {x y : Operand} {ty : TypeId} {pos : String} {after : Array Edge} {guard : Option (Nat × Bool)} {it : Nat} {ag : Bool} {ks : List IntKind} {va : Bool} {vz : Nat} {dom : List (List Int)} {val : List Int → List XC} {q : List Int} {kt et : TypeId} {ei : TI}
    (hx : opv ts x = .c (.ow it)) (hit : itemAt h it = .abs (MapA ag ks va vz dom val)) (hy : kx (opv ts y) = some (ks, q)) (hya : isA (opv ts y) = ag) (ht : fitMp C.T t ks.length ag = some (kt, et, ei)) (hva : ei.agg = va) (hvz : ei.size = vz)
    (hin : q ∈ dom → mkW va (val q) fun v => k (.t [v, .c .bt]) ts h) (hout : q ∉ dom → mkW va (zeroX ei.zero) fun v => k (.t [v, .c .bf]) ts h) : OpX C ⟨dst, .lookup t x y true, ty, pos, after, guard⟩ ts h k := by
  unfold OpX
  refine And.intro (fun c e => Op.noConfusion e) ?_
  intro w0 F E w a hr hp
  have hxr := opv_rel hr x
  have hyr := opv_rel hr y
  rw [hx] at hxr
  have hi := itemAt_eq _ _ hit (by simp)
  obtain ⟨b, es, clock, hv, hS, hw, hrel, hnd, hpw, hcl⟩ := hp.ok it _ hi
  obtain ⟨hkey, hlen⟩ := kx_rel hy hyr
  rw [hya] at hkey
  obtain ⟨hu, K, hei⟩ := fitMp_spec hT ht
  have hxv : a.eval x = .map (some b) := hxr.2.1.trans hv
  have hobj : (getObj b).run C.P w = .ok (.map es clock) w := by simp [getObj, Sem.run, hw]
  rcases find_key (w := w) K hlen hrel with ⟨h1, h2⟩ | ⟨j, e, h1, h2, h3⟩
  · have hz := zero_val hei w
    rw [hva] at hz
    obtain ⟨v, hk, hvr⟩ := mkW_sound (E := E) (hout h1) (zeroX_rel E ei.zero (TIs.of hei).zone)
    refine ⟨_, .tuple #[mkVal va ei.zero, .bool false], w, _, ts, h, E, .inl rfl, ?_, hk, ⟨_, rfl, hvr, (rfl : _ = Value.bool false), trivial⟩, hr, hp⟩
    simp [execOp, Instr.lookup, run_underlying hu, hxv, hobj, hkey, check_key K hlen, h2, hz]
  · obtain ⟨_, _, us, hul, hev, hur, hst⟩ := esrel_at j hrel h1 h2
    have hur' : RelL E (val q) us := RelL.ofSt (E := ⟨E.bs, 0, fun _ => 0, fun _ => undef, fun _ _ => False⟩) (E' := E) rfl hst hur
    have hmem : q ∈ dom := List.mem_of_getElem? h2
    obtain ⟨v, hk, hvr⟩ := mkW_sound (hin hmem) hur'
    refine ⟨_, .tuple #[e.val, .bool true], w, _, ts, h, E, .inl rfl, ?_, hk, ⟨_, rfl, hev ▸ hvr, (rfl : _ = Value.bool true), trivial⟩, hr, hp⟩
    simp [execOp, Instr.lookup, run_underlying hu, hxv, hobj, hkey, check_key K hlen, h3]

/-- .. where it is known whether there is an entry, inside a statement whose order is drawn. -/
theorem opp_map {x y : Operand} {o : Oper} {it : Nat} {A : Abs} {q : List Int} {ks : List IntKind} {k : XV → Prop} {xv yv : XV} (hops : o.op.operands = #[x, y]) (hx : opv ts x = xv) (hy : opv ts y = yv) (v : XV) (hk : k v)
    (hrun : ∀ (w0 : Org) (F : Nat → Prop) (E : Env) (w : World) (a : Act), RelV E xv (a.eval x) → RelV E yv (a.eval y) → Heap w0 F E h w → ∃ u, (execOp a.eval o).run C.P w = .ok (.value u) w ∧ RelV E v u) : OpPX C o ts h k := by
  unfold OpPX
  refine ⟨v, hk, fun w0 F E w a l hl hon hp => ?_⟩
  have ev : ∀ z ∈ o.op.operands, RelV E (opv ts z) (a.eval z) := fun z hz => by
    rw [← opv_mask (hl z hz)]; exact opv_rel hon.masked z
  obtain ⟨u, h1, h2⟩ := hrun w0 F E w a (hx ▸ ev x (by rw [hops]; simp)) (hy ▸ ev y (by rw [hops]; simp)) hp
  exact ⟨_, u, w, E, .inl rfl, h1, EnvLe.refl E, h2, hp⟩

include hT in
theorem opp_lookup_in {dst : Option Tmp} {t : TypeId} {x y : Operand} {ty : TypeId} {pos : String} {after : Array Edge} {guard : Option (Nat × Bool)} {it : Nat} {ag : Bool} {ks : List IntKind} {va : Bool} {vz : Nat} {dom : List (List Int)} {val : List Int → List XC} {q : List Int} {kt et : TypeId} {ei : TI} {k : XV → Prop}
    (hx : opv ts x = .c (.ow it)) (hit : itemAt h it = .abs (MapA ag ks va vz dom val)) (hy : kx (opv ts y) = some (ks, q)) (hya : isA (opv ts y) = ag) (ht : fitMp C.T t ks.length ag = some (kt, et, ei)) (hva : ei.agg = va) (hvz : ei.size = vz)
    (hin : q ∈ dom) (hk : mkX va (val q) k) : OpPX C ⟨dst, .lookup t x y false, ty, pos, after, guard⟩ ts h k := by
  obtain ⟨v, hkv, hv⟩ := mkX_det _ hk
  refine opp_map (it := it) (A := MapA ag ks va vz dom val) (q := q) (ks := ks) rfl hx rfl v hkv fun w0 F E w a hxr hyr hp => ?_
  have hi := itemAt_eq _ _ hit (by simp)
  obtain ⟨b, es, clock, hv', hS, hw, hrel, hnd, hpw, hcl⟩ := hp.ok it _ hi
  obtain ⟨hkey, hlen⟩ := kx_rel hy hyr
  rw [hya] at hkey
  obtain ⟨hu, K, hei⟩ := fitMp_spec hT ht
  have hxv : a.eval x = .map (some b) := hxr.2.1.trans hv'
  have hobj : (getObj b).run C.P w = .ok (.map es clock) w := by simp [getObj, Sem.run, hw]
  rcases find_key (w := w) K hlen hrel with ⟨h1, h2⟩ | ⟨j, e, h1, h2, h3⟩
  · exact absurd hin h1
  · obtain ⟨_, _, us, hul, hev, hur, hst⟩ := esrel_at j hrel h1 h2
    have hur' : RelL E (val q) us := RelL.ofSt (E := ⟨E.bs, 0, fun _ => 0, fun _ => undef, fun _ _ => False⟩) (E' := E) rfl hst hur
    obtain ⟨v', hk', hvr⟩ := mkX_sound (hv (fun y => y = v) rfl) hur'
    subst hk'
    exact ⟨e.val, by simp [execOp, Instr.lookup, run_underlying hu, hxv, hobj, hkey, check_key K hlen, h3], hev ▸ hvr⟩
include hT in
theorem opp_lookup_out {dst : Option Tmp} {t : TypeId} {x y : Operand} {ty : TypeId} {pos : String} {after : Array Edge} {guard : Option (Nat × Bool)} {it : Nat} {ag : Bool} {ks : List IntKind} {va : Bool} {vz : Nat} {dom : List (List Int)} {val : List Int → List XC} {q : List Int} {kt et : TypeId} {ei : TI} {k : XV → Prop}
    (hx : opv ts x = .c (.ow it)) (hit : itemAt h it = .abs (MapA ag ks va vz dom val)) (hy : kx (opv ts y) = some (ks, q)) (hya : isA (opv ts y) = ag) (ht : fitMp C.T t ks.length ag = some (kt, et, ei)) (hva : ei.agg = va) (hvz : ei.size = vz)
    (hin : q ∉ dom) (hk : mkX va (zeroX ei.zero) k) : OpPX C ⟨dst, .lookup t x y false, ty, pos, after, guard⟩ ts h k := by
  obtain ⟨v, hkv, hv⟩ := mkX_det _ hk
  refine opp_map (it := it) (A := MapA ag ks va vz dom val) (q := q) (ks := ks) rfl hx rfl v hkv fun w0 F E w a hxr hyr hp => ?_
  have hi := itemAt_eq _ _ hit (by simp)
  obtain ⟨b, es, clock, hv', hS, hw, hrel, hnd, hpw, hcl⟩ := hp.ok it _ hi
  obtain ⟨hkey, hlen⟩ := kx_rel hy hyr
  rw [hya] at hkey
  obtain ⟨hu, K, hei⟩ := fitMp_spec hT ht
  have hxv : a.eval x = .map (some b) := hxr.2.1.trans hv'
  have hobj : (getObj b).run C.P w = .ok (.map es clock) w := by simp [getObj, Sem.run, hw]
  rcases find_key (w := w) K hlen hrel with ⟨h1, h2⟩ | ⟨j, e, h1, h2, h3⟩
  · have hz := zero_val hei w
    rw [hva] at hz
    obtain ⟨v', hk', hvr⟩ := mkX_sound (E := E) (hv (fun y => y = v) rfl) (zeroX_rel E ei.zero (TIs.of hei).zone)
    subst hk'
    exact ⟨_, by simp [execOp, Instr.lookup, run_underlying hu, hxv, hobj, hkey, check_key K hlen, h2, hz], hvr⟩
  · exact absurd (List.mem_of_getElem? h2) hin

/-- make(map[K]V) -/
theorem opx_makeMap {dst : Option Tmp} {t : TypeId} {ty : TypeId} {pos : String} {after : Array Edge} {guard : Option (Nat × Bool)} (ag : Bool) (ks : List IntKind) (va : Bool) (vz : Nat) (val : List Int → List XC)
    (hk : lenK h fun n => snocH h (.abs (MapA ag ks va vz [] val)) fun h => k (.c (.ow n)) ts h) : OpX C ⟨dst, .makeMap t none, ty, pos, after, guard⟩ ts h k := by
  rw [lenK_eq, snocH_eq] at hk
  unfold OpX
  refine And.intro (fun c e => Op.noConfusion e) ?_
  intro w0 F E w a hr hp
  let S : Nat → Prop := fun b => b = w.heap.size
  have hle := Env.push_le E 0 (.map (some w.heap.size)) S
  refine ⟨_, .map (some w.heap.size), w.alloc (.map #[] 0), _, ts, _, E.push 0 (.map (some w.heap.size)) S, .inl rfl, ?_, hk, ?_, hr.mono hle, hp.push (Fr.alloc w _) ?_ ?_⟩
  · simp [execOp, Instr.makeMap]
  · exact ⟨by simp [Env.push, hp.n], by simp [Env.push, hp.n], rfl⟩
  · refine ⟨w.heap.size, #[], 0, by simp [Env.push], by simp [Env.push, S], heap_alloc_new w _, trivial, by simp, by simp, by simp⟩
  · intro c hc
    have : c = w.heap.size := by simpa [Ow, Env.push, S] using hc
    subst this
    exact ⟨Nat.le_refl _, by simp⟩

theorem esrel_push {bs : Base} {ag : Bool} {ks : List IntKind} {va : Bool} {vz : Nat} {val : List Int → List XC} : ∀ {es : List MapEntry} {dom : List (List Int)} {e : MapEntry} {q : List Int}, EsRel bs ag ks va vz val es dom →
    (q.length = ks.length ∧ e.key = mkVal ag (keyCells ks q) ∧ ∃ us, us.length = vz ∧ e.val = mkVal va us ∧ RelL ⟨bs, 0, fun _ => 0, fun _ => undef, fun _ _ => False⟩ (val q) us ∧ ∀ x ∈ val q, St x) → EsRel bs ag ks va vz val (es ++ [e]) (dom ++ [q])
  | [], [], _, _, _, he => ⟨he, trivial⟩
  | _ :: _, _ :: _, _, _, h, he => ⟨h.1, esrel_push h.2 he⟩
  | [], _ :: _, _, _, h, _ => h.elim
  | _ :: _, [], _, _, h, _ => h.elim
theorem esrel_set {bs : Base} {ag : Bool} {ks : List IntKind} {va : Bool} {vz : Nat} {val : List Int → List XC} : ∀ {es : List MapEntry} {dom : List (List Int)} (j : Nat) {e : MapEntry} {q : List Int}, EsRel bs ag ks va vz val es dom → (∀ q', q' ∈ dom → q' ≠ q → val q' = val q') → dom[j]? = some q →
    (q.length = ks.length ∧ e.key = mkVal ag (keyCells ks q) ∧ ∃ us, us.length = vz ∧ e.val = mkVal va us ∧ RelL ⟨bs, 0, fun _ => 0, fun _ => undef, fun _ _ => False⟩ (val q) us ∧ ∀ x ∈ val q, St x) → EsRel bs ag ks va vz val (es.set j e) dom
  | _ :: _, _ :: _, 0, _, _, h, _, hq, he => by simp at hq; subst hq; exact ⟨he, h.2⟩
  | _ :: _, _ :: _, j + 1, _, _, h, _, hq, he => ⟨h.1, esrel_set j h.2 (fun _ _ _ => rfl) (by simpa using hq) he⟩
  | [], [], _, _, _, _, _, _, _ => trivial
  | [], _ :: _, _, _, _, h, _, _, _ => h.elim
  | _ :: _, [], _, _, _, h, _, _, _ => h.elim
theorem esrel_erase {bs : Base} {ag : Bool} {ks : List IntKind} {va : Bool} {vz : Nat} {val : List Int → List XC} : ∀ {es : List MapEntry} {dom : List (List Int)} (j : Nat), EsRel bs ag ks va vz val es dom → EsRel bs ag ks va vz val (es.eraseIdx j) (dom.eraseIdx j)
  | _ :: _, _ :: _, 0, h => h.2
  | _ :: _, _ :: _, j + 1, h => ⟨h.1, esrel_erase j h.2⟩
  | [], [], _, _ => by simp [EsRel]
  | [], _ :: _, _, h => h.elim
  | _ :: _, [], _, h => h.elim
theorem born_set : ∀ {l : List MapEntry} {j : Nat} {e e' : MapEntry}, l[j]? = some e → e'.born = e.born → (l.set j e').map MapEntry.born = l.map MapEntry.born
  | _ :: _, 0, _, _, h, he => by simp at h; subst h; simp [he]
  | _ :: l, j + 1, e, e', h, he => by
    have := born_set (l := l) (j := j) (e := e) (e' := e') (by simpa using h) he
    simp [this]
  | [], _, _, _, h, _ => by simp at h
/-- What a map has, with one entry more. -/
def updV (val : List Int → List XC) (q : List Int) (l : List XC) : List Int → List XC := fun q' => if q' = q then l else val q'
def insD (dom : List (List Int)) (q : List Int) : List (List Int) := if q ∈ dom then dom else dom ++ [q]

theorem esrel_upd {bs : Base} {ag : Bool} {ks : List IntKind} {va : Bool} {vz : Nat} {val : List Int → List XC} {q : List Int} {l : List XC} : ∀ {es : List MapEntry} {dom : List (List Int)} (j : Nat) {e : MapEntry}, EsRel bs ag ks va vz val es dom → dom.Nodup → dom[j]? = some q →
    (q.length = ks.length ∧ e.key = mkVal ag (keyCells ks q) ∧ ∃ us, us.length = vz ∧ e.val = mkVal va us ∧ RelL ⟨bs, 0, fun _ => 0, fun _ => undef, fun _ _ => False⟩ (updV val q l q) us ∧ ∀ x ∈ updV val q l q, St x) → EsRel bs ag ks va vz (updV val q l) (es.set j e) dom
  | _ :: _, _ :: dom, 0, _, h, hn, hq, he => by
    simp at hq; subst hq
    exact ⟨he, h.2.mono fun k hk => by
      simp only [updV]
      rw [if_neg (fun e => (List.nodup_cons.1 hn).1 (by rw [← e]; exact hk))]⟩
  | _ :: _, k' :: dom, j + 1, _, h, hn, hq, he => by
    have hq : dom[j]? = some q := by simpa using hq
    refine ⟨?_, esrel_upd j h.2 (List.nodup_cons.1 hn).2 hq he⟩
    have hne : k' ≠ q := fun e => (List.nodup_cons.1 hn).1 (e ▸ List.mem_of_getElem? hq)
    have : updV val q l k' = val k' := by simp only [updV]; rw [if_neg hne]
    rw [this]; exact h.1
  | [], [], _, _, _, _, _, _ => trivial
  | [], _ :: _, _, _, h, _, _, _ => h.elim
  | _ :: _, [], _, _, h, _, _, _ => h.elim

theorem erase_idx : ∀ {l : List (List Int)} {j : Nat} {q : List Int}, l.Nodup → l[j]? = some q → l.erase q = l.eraseIdx j
  | _ :: _, 0, _, _, h => by simp at h; subst h; simp
  | x :: l, j + 1, q, hn, h => by
    have hq : l[j]? = some q := by simpa using h
    have hne : x ≠ q := fun e => (List.nodup_cons.1 hn).1 (e ▸ List.mem_of_getElem? hq)
    rw [List.erase_cons_tail (by simpa using hne), erase_idx (List.nodup_cons.1 hn).2 hq, List.eraseIdx_cons_succ]
  | [], _, _, _, h => by simp at h
theorem nodup_snoc {dom : List (List Int)} {q : List Int} (h : dom.Nodup) (hq : q ∉ dom) : (dom ++ [q]).Nodup := by
  rw [List.nodup_append]
  refine ⟨h, by simp, fun a ha b hb => ?_⟩
  simp at hb; subst hb
  exact fun e => hq (e ▸ ha)

include hT in
/-- m[k] = v -/
theorem opx_update {dst : Option Tmp} {t : TypeId} {x y z : Operand} {ty : TypeId} {pos : String} {after : Array Edge} {guard : Option (Nat × Bool)} {it : Nat} {ag : Bool} {ks : List IntKind} {va : Bool} {vz : Nat} {dom : List (List Int)} {val : List Int → List XC} {q : List Int} {kt et : TypeId} {ei : TI} {l : List XC}
    (hx : opv ts x = .c (.ow it)) (hit : itemAt h it = .abs (MapA ag ks va vz dom val)) (hy : kx (opv ts y) = some (ks, q)) (hya : isA (opv ts y) = ag) (ht : fitMp C.T t ks.length ag = some (kt, et, ei)) (hva : isA (opv ts z) = va) (hvz : l.length = vz)
    (hz : cells (opv ts z) = some l) (hst : allSt l = true) (hk : setH h it (.abs (MapA ag ks va vz (insD dom q) (updV val q l))) fun h => k .un ts h) : OpX C ⟨dst, .mapUpdate t x y z, ty, pos, after, guard⟩ ts h k := by
  rw [setH_eq] at hk
  unfold OpX
  refine And.intro (fun c e => Op.noConfusion e) ?_
  intro w0 F E w a hr hp
  have hxr := opv_rel hr x
  have hyr := opv_rel hr y
  have hzr := opv_rel hr z
  rw [hx] at hxr
  have hi := itemAt_eq _ _ hit (by simp)
  obtain ⟨b, es, clock, hv, hS, hw, hrel, hnd, hpw, hcl⟩ := hp.ok it _ hi
  obtain ⟨hkey, hlen⟩ := kx_rel hy hyr
  rw [hya] at hkey
  obtain ⟨hu, K, hei⟩ := fitMp_spec hT ht
  have hxv : a.eval x = .map (some b) := hxr.2.1.trans hv
  have hobj : (getObj b).run C.P w = .ok (.map es clock) w := by simp [getObj, Sem.run, hw]
  have hset : ∀ o : Obj, (setObj b o).run C.P w = .ok () { w with heap := w.heap.setIfInBounds b o } := fun o => by simp [setObj, Sem.run, hw]
  have hblt : b < w.heap.size := (Array.getElem?_eq_some_iff.1 hw).1
  have hzc := cells_rel hz hzr
  have hzv : a.eval z = mkVal va (a.eval z).cells.toList := by
    cases hzz : opv ts z with
    | un => rw [hzz] at hz; simp [cells] at hz
    | t _ => rw [hzz] at hz; simp [cells] at hz
    | c c =>
      rw [hzz] at hva hzr
      have h1 := RelC.one (E := E) hzr
      subst hva
      generalize a.eval z = u at h1
      cases u <;> simp [isA, mkVal, Value.cells] <;> simp [Value.oneCell'] at h1
    | a m =>
      rw [hzz] at hva hzr
      obtain ⟨vs, hvs, _⟩ := hzr
      subst hva
      rw [hvs]; simp [isA, mkVal, Value.cells]
  have hlz : (a.eval z).cells.toList.length = vz := by rw [← hzc.len]; exact hvz
  have hag : ag = false → ks.length = 1 := by
    intro e; subst e
    cases hyy : opv ts y with
    | un => rw [hyy] at hy; simp [kx] at hy
    | t _ => rw [hyy] at hy; simp [kx] at hy
    | a _ => rw [hyy] at hya; simp [isA] at hya
    | c c =>
      rw [hyy] at hy; simp only [kx] at hy
      split at hy
      · cases hy; rfl
      · cases hy
  have hentry : q.length = ks.length ∧ (mkVal ag (keyCells ks q)) = mkVal ag (keyCells ks q) ∧ ∃ us, us.length = vz ∧ a.eval z = mkVal va us ∧ RelL ⟨E.bs, 0, fun _ => 0, fun _ => undef, fun _ _ => False⟩ (updV val q l q) us ∧ ∀ x ∈ updV val q l q, St x := by
    refine ⟨hlen, rfl, _, hlz, hzv, ?_, ?_⟩
    · simp only [updV, if_pos]; exact RelL.ofSt (E := E) (E' := ⟨E.bs, 0, fun _ => 0, fun _ => undef, fun _ _ => False⟩) rfl (allSt_iff hst) hzc
    · simp only [updV, if_pos]; exact allSt_iff hst
  have finish : ∀ (es' : Array MapEntry) (clock' : Nat), EsRel E.bs ag ks va vz (updV val q l) es'.toList (insD dom q) → (insD dom q).Nodup → es'.toList.Pairwise (fun x y => x.born < y.born) → (∀ e ∈ es'.toList, e.born < clock') →
      Heap w0 F E (h.set it (.abs (MapA ag ks va vz (insD dom q) (updV val q l)))) { w with heap := w.heap.setIfInBounds b (.map es' clock') } := fun es' clock' h1 h2 h3 h4 =>
    hp.putAbs hi ⟨b, es', clock', hv, hS, by simp [hblt], h1, h2, h3, h4⟩ (by simp) rfl rfl rfl (fun k hk => by
      have : b ≠ k := fun e => hk (e ▸ hS)
      simp [this])
  rcases find_key (w := w) K hlen hrel with ⟨h1, h2⟩ | ⟨j, e, h1, h2, h3⟩
  · have hins : insD dom q = dom ++ [q] := by simp [insD, h1]
    refine ⟨.skip, undef, _, _, ts, _, E, .inr ⟨rfl, rfl⟩, ?_, hk, trivial, hr, finish (es.push { key := mkVal ag (keyCells ks q), val := a.eval z, born := clock }) (clock + 1) ?_ ?_ ?_ ?_⟩
    · simp [execOp, Instr.mapUpdate, run_underlying hu, hxv, hobj, hkey, check_key K hlen, h2, hset]
    · rw [hins, Array.toList_push]
      exact esrel_push (hrel.mono fun k hk => by simp only [updV]; rw [if_neg (fun (e : k = q) => h1 (e ▸ hk))]) hentry
    · rw [hins]; exact nodup_snoc hnd h1
    · rw [Array.toList_push, List.pairwise_append]
      exact ⟨hpw, by simp, fun x hx y hy => by simp at hy; subst hy; exact hcl x hx⟩
    · intro e he
      rw [Array.toList_push] at he
      rcases List.mem_append.1 he with he | he
      · exact Nat.lt_succ_of_lt (hcl e he)
      · simp at he; subst he; exact Nat.lt_succ_self _
  · have hmem : q ∈ dom := List.mem_of_getElem? h2
    have hins : insD dom q = dom := by simp [insD, hmem]
    obtain ⟨_, hekey, _⟩ := esrel_at j hrel h1 h2
    have hej : es[j]? = some e := by simpa using h1
    have hjlt : j < es.size := (Array.getElem?_eq_some_iff.1 hej).1
    have hmod : es.modify j (fun e' => { e' with key := mkVal ag (keyCells ks q), val := a.eval z }) = es.setIfInBounds j { e with key := mkVal ag (keyCells ks q), val := a.eval z } := by
      apply Array.ext_getElem?
      intro i
      rw [Array.getElem?_modify, Array.getElem?_setIfInBounds]
      split
      · rename_i e1; subst e1; have hget := (Array.getElem?_eq_some_iff.1 hej).2; simp [hej, hjlt, hget]
      · rfl
    refine ⟨.skip, undef, _, _, ts, _, E, .inr ⟨rfl, rfl⟩, ?_, hk, trivial, hr, finish (es.setIfInBounds j { e with key := mkVal ag (keyCells ks q), val := a.eval z }) clock ?_ ?_ ?_ ?_⟩
    · simp [execOp, Instr.mapUpdate, run_underlying hu, hxv, hobj, hkey, check_key K hlen, h3, hset, hej, hekey, stays_key hlen hag, hmod]
    · rw [hins, Array.toList_setIfInBounds]
      exact esrel_upd j hrel hnd h2 hentry
    · rw [hins]; exact hnd
    · rw [Array.toList_setIfInBounds]
      have := born_set (e' := { e with key := mkVal ag (keyCells ks q), val := a.eval z }) h1 rfl
      rw [← List.pairwise_map (f := MapEntry.born) (R := (· < ·)), this, List.pairwise_map]; exact hpw
    · intro e' he
      rw [Array.toList_setIfInBounds] at he
      have := born_set (e' := { e with key := mkVal ag (keyCells ks q), val := a.eval z }) h1 rfl
      have hm : e'.born ∈ (es.toList.set j { e with key := mkVal ag (keyCells ks q), val := a.eval z }).map MapEntry.born := List.mem_map_of_mem he
      rw [this] at hm
      obtain ⟨e2, h4, h5⟩ := List.mem_map.1 hm
      rw [← h5]; exact hcl e2 h4

include hT in
/-- delete(m, k) -/
theorem opx_delete {dst : Option Tmp} {t t' : TypeId} {x y : Operand} {ty : TypeId} {pos : String} {after : Array Edge} {guard : Option (Nat × Bool)} {it : Nat} {ag : Bool} {ks : List IntKind} {va : Bool} {vz : Nat} {dom : List (List Int)} {val : List Int → List XC} {q : List Int} {kt et : TypeId} {ei : TI}
    (hx : opv ts x = .c (.ow it)) (hit : itemAt h it = .abs (MapA ag ks va vz dom val)) (hy : kx (opv ts y) = some (ks, q)) (hya : isA (opv ts y) = ag) (ht : fitMp C.T t ks.length ag = some (kt, et, ei))
    (hk : setH h it (.abs (MapA ag ks va vz (dom.erase q) val)) fun h => k (.t []) ts h) : OpX C ⟨dst, .call ⟨.builtin .delete, #[x, y], #[t, t']⟩, ty, pos, after, guard⟩ ts h k := by
  rw [setH_eq] at hk
  unfold OpX
  refine And.intro (fun c e => Op.noConfusion e) ?_
  intro w0 F E w a hr hp
  have hxr := opv_rel hr x
  have hyr := opv_rel hr y
  rw [hx] at hxr
  have hi := itemAt_eq _ _ hit (by simp)
  obtain ⟨b, es, clock, hv, hS, hw, hrel, hnd, hpw, hcl⟩ := hp.ok it _ hi
  obtain ⟨hkey, hlen⟩ := kx_rel hy hyr
  rw [hya] at hkey
  obtain ⟨hu, K, hei⟩ := fitMp_spec hT ht
  have hxv : a.eval x = .map (some b) := hxr.2.1.trans hv
  have hobj : (getObj b).run C.P w = .ok (.map es clock) w := by simp [getObj, Sem.run, hw]
  have hset : ∀ o : Obj, (setObj b o).run C.P w = .ok () { w with heap := w.heap.setIfInBounds b o } := fun o => by simp [setObj, Sem.run, hw]
  have hblt : b < w.heap.size := (Array.getElem?_eq_some_iff.1 hw).1
  have finish : ∀ (es' : Array MapEntry), EsRel E.bs ag ks va vz val es'.toList (dom.erase q) → es'.toList.Pairwise (fun x y => x.born < y.born) → (∀ e ∈ es'.toList, e.born < clock) →
      Heap w0 F E (h.set it (.abs (MapA ag ks va vz (dom.erase q) val))) { w with heap := w.heap.setIfInBounds b (.map es' clock) } := fun es' h1 h3 h4 =>
    hp.putAbs hi ⟨b, es', clock, hv, hS, by simp [hblt], h1, hnd.erase q, h3, h4⟩ (by simp) rfl rfl rfl (fun k hk => by
      have : b ≠ k := fun e => hk (e ▸ hS)
      simp [this])
  rcases find_key (w := w) K hlen hrel with ⟨h1, h2⟩ | ⟨j, e, h1, h2, h3⟩
  · refine ⟨_, .tuple #[], _, _, ts, _, E, .inl rfl, ?_, hk, undef_rel E, hr, finish es (by rw [List.erase_of_not_mem h1]; exact hrel) hpw hcl⟩
    simp [execOp, resolve, Deferred.ofValue, invoke, builtin, Builtin.delete_, run_underlying hu, hxv, hobj, hkey, check_key K hlen, h2, hset]
  · have hej : es[j]? = some e := by simpa using h1
    have hjlt : j < es.size := (Array.getElem?_eq_some_iff.1 hej).1
    have her : dom.erase q = dom.eraseIdx j := erase_idx hnd h2
    have hes : (es.eraseIdxIfInBounds j).toList = es.toList.eraseIdx j := by simp
    refine ⟨_, .tuple #[], _, _, ts, _, E, .inl rfl, ?_, hk, undef_rel E, hr, finish (es.eraseIdxIfInBounds j) ?_ ?_ ?_⟩
    · simp [execOp, resolve, Deferred.ofValue, invoke, builtin, Builtin.delete_, run_underlying hu, hxv, hobj, hkey, check_key K hlen, h3, hset]
    · rw [hes, her]; exact esrel_erase j hrel
    · rw [hes]; exact hpw.sublist (List.eraseIdx_sublist _ _)
    · intro e' he; rw [hes] at he; exact hcl e' ((List.eraseIdx_sublist _ _).mem he)
end
end Go.Eng
