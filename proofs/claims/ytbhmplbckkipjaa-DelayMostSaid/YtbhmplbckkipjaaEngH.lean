/- The engine, part H: append, store, new memory; every operation that writes, under one name; nothing of any program is proved here. -/
import Derived.Test.YtbhmplbckkipjaaEngG
namespace Go.Eng
open Go Go.RowKit
set_option linter.unusedSimpArgs false
set_option linter.unusedVariables false

/-! ### what an old slice value says is forgotten when its row has turned -/
def isFix : XC → Bool
  | .ow _ | .q _ _ _ _ | .fn _ _ _ => false
  | _ => true
def allFix : Nat → (Nat → XC) → Bool
  | 0, _ => true
  | n + 1, c => (match isFix (c n) with | true => allFix n c | false => false)
def killC (it : Nat) (x : XC) : XC :=
  match x with
  | .ow k => (match Nat.beq k it with | true => .un | false => .ow k)
  | .q k a b c => (match Nat.beq k it with | true => .un | false => .q k a b c)
  | .fn f n caps => (match allFix n caps with | true => .fn f n caps | false => .un)
  | x => x
def killL (it : Nat) : List XC → (List XC → Prop) → Prop
  | [], k => k []
  | x :: l, k => forceC (killC it x) fun x => killL it l fun l => k (x :: l)
theorem killL_eq (it : Nat) : ∀ (l : List XC) (k : List XC → Prop), killL it l k = k (l.map (killC it))
  | [], _ => rfl
  | x :: l, k => by simp only [killL, forceC_eq, killL_eq it l, List.map_cons]
def killV (it : Nat) (x : XV) (k : XV → Prop) : Prop :=
  match x with
  | .c x => forceC (killC it x) fun x => k (.c x)
  | .a l => killL it l fun l => k (.a l)
  | .t _ => k .un
  | .un => k .un
def killTs (it : Nat) : List XV → (List XV → Prop) → Prop
  | [], k => k []
  | x :: l, k => killV it x fun x => killTs it l fun l => k (x :: l)
def killH (it : Nat) : List It → (List It → Prop) → Prop
  | [], k => k []
  | x :: l, k => (match x with
    | .cells ty cs => killL it cs fun cs => killH it l fun l => k (.cells ty cs :: l)
    | .held vs xs => killTs it xs fun xs => killH it l fun l => k (.held vs xs :: l)
    | .prow e z as (some (i, cs)) => killL it cs fun cs => killH it l fun l => k (.prow e z as (some (i, cs)) :: l)
    | x => killH it l fun l => k (x :: l))
def setH : List It → Nat → It → (List It → Prop) → Prop
  | [], _, _, k => k []
  | _ :: l, 0, x, k => k (x :: l)
  | a :: l, n + 1, x, k => setH l n x fun l => k (a :: l)
theorem setH_eq : ∀ (l : List It) (n : Nat) (x : It) (k : List It → Prop), setH l n x k = k (l.set n x)
  | [], _, _, _ => rfl
  | _ :: _, 0, _, _ => rfl
  | a :: l, n + 1, x, k => by simp only [setH, setH_eq l n, List.set_cons_succ]
/-- The next number, as a literal. -/
def sucK (n : Nat) (k : Nat → Prop) : Prop :=
  match n with
  | 0 => k 1
  | 1 => k 2
  | 2 => k 3
  | 3 => k 4
  | 4 => k 5
  | 5 => k 6
  | 6 => k 7
  | 7 => k 8
  | 8 => k 9
  | 9 => k 10
  | 10 => k 11
  | 11 => k 12
  | 12 => k 13
  | 13 => k 14
  | 14 => k 15
  | 15 => k 16
  | 16 => k 17
  | 17 => k 18
  | 18 => k 19
  | 19 => k 20
  | 20 => k 21
  | 21 => k 22
  | 22 => k 23
  | 23 => k 24
  | 24 => k 25
  | 25 => k 26
  | 26 => k 27
  | 27 => k 28
  | 28 => k 29
  | 29 => k 30
  | 30 => k 31
  | 31 => k 32
  | 32 => k 33
  | 33 => k 34
  | 34 => k 35
  | 35 => k 36
  | 36 => k 37
  | 37 => k 38
  | 38 => k 39
  | 39 => k 40
  | 40 => k 41
  | 41 => k 42
  | 42 => k 43
  | 43 => k 44
  | 44 => k 45
  | 45 => k 46
  | 46 => k 47
  | 47 => k 48
  | 48 => k 49
  | 49 => k 50
  | 50 => k 51
  | 51 => k 52
  | 52 => k 53
  | 53 => k 54
  | 54 => k 55
  | 55 => k 56
  | 56 => k 57
  | 57 => k 58
  | 58 => k 59
  | 59 => k 60
  | 60 => k 61
  | 61 => k 62
  | 62 => k 63
  | 63 => k 64
  | 64 => k 65
  | 65 => k 66
  | 66 => k 67
  | 67 => k 68
  | 68 => k 69
  | 69 => k 70
  | 70 => k 71
  | 71 => k 72
  | 72 => k 73
  | 73 => k 74
  | 74 => k 75
  | 75 => k 76
  | 76 => k 77
  | 77 => k 78
  | 78 => k 79
  | 79 => k 80
  | n => k (n + 1)
theorem sucK_eq (n : Nat) (k : Nat → Prop) : sucK n k = k (n + 1) := by unfold sucK; split <;> rfl
def lenK : List It → (Nat → Prop) → Prop
  | [], k => k 0
  | _ :: l, k => lenK l fun n => sucK n k
theorem lenK_eq : ∀ (l : List It) (k : Nat → Prop), lenK l k = k l.length
  | [], _ => rfl
  | _ :: l, k => by simp only [lenK, lenK_eq l, sucK_eq, List.length_cons]
def snocH : List It → It → (List It → Prop) → Prop
  | [], x, k => k [x]
  | a :: l, x, k => snocH l x fun l => k (a :: l)
theorem snocH_eq : ∀ (l : List It) (x : It) (k : List It → Prop), snocH l x k = k (l ++ [x])
  | [], _, _ => rfl
  | a :: l, x, k => by simp only [snocH, snocH_eq l, List.cons_append]

/-- Only the slice of one item has turned. -/
structure Turn (E E' : Env) (it : Nat) : Prop where
  n : E'.n = E.n
  bs : E'.bs = E.bs
  blk : E'.blk = E.blk
  ext : E'.ext = E.ext
  sl : ∀ k, k ≠ it → E'.sl k = E.sl k

theorem beq_ne {a b : Nat} (h : Nat.beq a b = false) : a ≠ b := fun e => by rw [e] at h; simp at h

theorem killFix {E E' : Env} {it : Nat} (ht : Turn E E' it) : ∀ (x : XC) (v : Value), isFix x = true → RelC E x v → RelC E' x v := by
  intro x v hf h
  cases x with
  | ow => simp [isFix] at hf
  | q => simp [isFix] at hf
  | fn => simp [isFix] at hf
  | p it off => exact ⟨by rw [ht.n]; exact h.1, by rw [ht.blk]; exact h.2⟩
  | sp it off n z => exact ⟨by rw [ht.n]; exact h.1, by rw [ht.blk]; exact h.2⟩
  | mp it => exact ⟨by rw [ht.n]; exact h.1, by rw [ht.blk]; exact h.2⟩
  | un => exact h
  | il => exact h
  | i => exact h
  | bt => exact h
  | bf => exact h
  | b => exact h
  | v => exact h
  | ep => exact RelC.stable (by rw [ht.bs]; exact fun _ hb => ⟨hb, rfl⟩) _ _ trivial h
  | rs => exact RelC.stable (by rw [ht.bs]; exact fun _ hb => ⟨hb, rfl⟩) _ _ trivial h

theorem allFix_spec : ∀ (n : Nat) (c : Nat → XC), allFix n c = true → ∀ j, j < n → isFix (c j) = true
  | n + 1, c, h, j, hj => by
    unfold allFix at h
    split at h
    · rename_i h1
      by_cases e : j = n
      · subst e; exact h1
      · exact allFix_spec n c h j (by omega)
    · cases h

theorem killC_rel {E E' : Env} {it : Nat} (ht : Turn E E' it) {x : XC} {v : Value} (h : RelC E x v) : RelC E' (killC it x) v := by
  cases x with
  | ow k =>
    simp only [killC]
    split
    · exact h.one
    · rename_i hb
      exact ⟨by rw [ht.n]; exact h.1, by rw [ht.sl k (beq_ne hb)]; exact h.2⟩
  | q k a b c =>
    simp only [killC]
    split
    · exact h.one
    · rename_i hb
      exact ⟨by rw [ht.n]; exact h.1, by rw [ht.sl k (beq_ne hb)]; exact h.2⟩
  | fn f n caps =>
    simp only [killC]
    split
    · rename_i ha
      obtain ⟨vs, rfl, hn, hc⟩ := h
      refine ⟨vs, rfl, hn, fun j hj => ?_⟩
      obtain ⟨u, hu, hr⟩ := hc j hj
      exact ⟨u, hu, killFix ht _ _ (allFix_spec n caps ha j hj) hr⟩
    · exact h.one
  | un => exact killFix ht _ _ rfl h
  | il => exact killFix ht _ _ rfl h
  | i => exact killFix ht _ _ rfl h
  | bt => exact killFix ht _ _ rfl h
  | bf => exact killFix ht _ _ rfl h
  | b => exact killFix ht _ _ rfl h
  | p => exact killFix ht _ _ rfl h
  | ep => exact killFix ht _ _ rfl h
  | rs => exact killFix ht _ _ rfl h
  | sp => exact killFix ht _ _ rfl h
  | mp => exact killFix ht _ _ rfl h
  | v => exact killFix ht _ _ rfl h

theorem killL_rel {E E' : Env} {it : Nat} (ht : Turn E E' it) : ∀ {l : List XC} {vs : List Value}, RelL E l vs → RelL E' (l.map (killC it)) vs
  | [], [], _ => trivial
  | _ :: _, _ :: _, h => ⟨killC_rel ht h.1, killL_rel ht h.2⟩
  | [], _ :: _, h => h.elim
  | _ :: _, [], h => h.elim

theorem killV_rel {E E' : Env} {it : Nat} (ht : Turn E E' it) {x : XV} {v : Value} {k : XV → Prop} (hk : killV it x k) (h : RelV E x v) : ∃ x', k x' ∧ RelV E' x' v := by
  unfold killV at hk
  split at hk
  · rw [forceC_eq] at hk; exact ⟨_, hk, killC_rel ht h⟩
  · rw [killL_eq] at hk
    obtain ⟨vs, rfl, hl⟩ := h
    exact ⟨_, hk, vs, rfl, killL_rel ht hl⟩
  · exact ⟨_, hk, trivial⟩
  · exact ⟨_, hk, trivial⟩

theorem killTs_rel {E E' : Env} {it : Nat} (ht : Turn E E' it) : ∀ {ts : List XV} {vs : List Value} {k : List XV → Prop}, killTs it ts k → RelTs E ts vs → ∃ ts', k ts' ∧ RelTs E' ts' vs
  | [], [], k, hk, _ => ⟨[], hk, trivial⟩
  | x :: ts, v :: vs, k, hk, h => by
    unfold killTs at hk
    obtain ⟨x', hk', hx⟩ := killV_rel ht hk h.1
    obtain ⟨ts', hk'', hts⟩ := killTs_rel ht hk' h.2
    exact ⟨_, hk'', hx, hts⟩
  | [], _ :: _, _, _, h => h.elim
  | _ :: _, [], _, _, h => h.elim

def killVf (it : Nat) : XV → XV
  | .c x => .c (killC it x)
  | .a l => .a (l.map (killC it))
  | _ => .un
theorem killV_eq (it : Nat) (x : XV) (k : XV → Prop) : killV it x k = k (killVf it x) := by
  cases x <;> simp only [killV, forceC_eq, killL_eq, killVf]
theorem killTs_eq (it : Nat) : ∀ (l : List XV) (k : List XV → Prop), killTs it l k = k (l.map (killVf it))
  | [], _ => rfl
  | x :: l, k => by simp only [killTs, killV_eq, killTs_eq it l, List.map_cons]
theorem killVf_rels {E E' : Env} {it : Nat} (ht : Turn E E' it) {ts : List XV} {vs : List Value} (h : RelTs E ts vs) : RelTs E' (ts.map (killVf it)) vs := by
  obtain ⟨ts', hk, hr⟩ := killTs_rel (k := fun l => l = ts.map (killVf it)) ht (by rw [killTs_eq]) h
  exact hk ▸ hr
def killIt (it : Nat) : It → It
  | .cells ty cs => .cells ty (cs.map (killC it))
  | .held vs xs => .held vs (xs.map (killVf it))
  | .prow e z as (some (i, cs)) => .prow e z as (some (i, cs.map (killC it)))
  | x => x
theorem killH_eq (it : Nat) : ∀ (h : List It) (k : List It → Prop), killH it h k = k (h.map (killIt it))
  | [], _ => rfl
  | .prow e z as (some (i, cs)) :: l, k => by simp only [killH, killL_eq, killH_eq it l, List.map_cons, killIt]
  | .prow e z as none :: l, k => by simp only [killH, killH_eq it l, List.map_cons, killIt]
  | .dead :: l, k => by simp only [killH, killH_eq it l, List.map_cons, killIt]
  | .cells _ _ :: l, k => by simp only [killH, killL_eq, killH_eq it l, List.map_cons, killIt]
  | .row _ _ _ :: l, k => by simp only [killH, killH_eq it l, List.map_cons, killIt]
  | .obj _ :: l, k => by simp only [killH, killH_eq it l, List.map_cons, killIt]
  | .abs _ :: l, k => by simp only [killH, killH_eq it l, List.map_cons, killIt]
  | .held _ _ :: l, k => by simp only [killH, killTs_eq, killH_eq it l, List.map_cons, killIt]

theorem RelL.ofSt {E E' : Env} (hb : E'.bs = E.bs) : ∀ {l : List XC} {vs : List Value}, (∀ x ∈ l, St x) → RelL E l vs → RelL E' l vs
  | [], [], _, _ => trivial
  | x :: l, v :: vs, hs, h => ⟨RelC.stable (by rw [hb]; exact fun _ hb => ⟨hb, rfl⟩) x v (hs x (by simp)) h.1, RelL.ofSt hb (fun y hy => hs y (by simp [hy])) h.2⟩
  | [], _ :: _, _, h => h.elim
  | _ :: _, [], _, h => h.elim

section
variable {P : Program} {T : Tab} (hT : TabOk P T) {E : Env} {h : List It} {w0 : Org} {w : World} {F : Nat → Prop}

theorem Ow_kill {E E' : Env} {it k : Nat} (x : It) (hb : E'.blk = E.blk) (he : E'.ext k = E.ext k) (hs : E'.sl k = E.sl k) : Ow E' k (killIt it x) = Ow E k x := by
  funext b
  cases x with
  | prow e z as o => cases o <;> simp [Ow, killIt, he]
  | _ => simp [Ow, killIt, hb, he, hs]
/-- An item's memory has turned, perhaps lies elsewhere: what it owned, or new blocks, it owns now. -/
theorem Heap.turnTo (hp : Heap w0 F E h w) {w' : World} {it : Nat} {x y : It} {E' : Env} (hx : h[it]? = some x) (hsz : w.heap.size ≤ w'.heap.size) (ho : w'.os = w.os) (ht : w'.tape = w.tape) (hu : w'.output = w.output)
    (hk : ∀ b, b < w.heap.size → ¬ Ow E it x b → w'.heap[b]? = w.heap[b]?) (hn : E'.n = E.n) (hbs : E'.bs = E.bs) (hbl : E'.blk = E.blk) (hext : ∀ k, k ≠ it → E'.ext k = E.ext k) (hsl : ∀ k, k ≠ it → E'.sl k = E.sl k)
    (hown : ∀ b, Ow E' it y b → (Ow E it x b ∨ w.heap.size ≤ b) ∧ b < w'.heap.size) (hi : ItOk E' w' it y) : Heap w0 F E' ((h.map (killIt it)).set it y) w' := by
  have hltit := (List.getElem?_eq_some_iff.1 hx).1
  let Ek : Env := { E' with ext := E.ext }
  have htk : Turn E Ek it := ⟨hn, hbs, hbl, rfl, hsl⟩
  have hc : EnvC Ek E' := ⟨Nat.le_refl _, fun _ _ => rfl, fun _ _ => rfl, fun _ h => ⟨h, rfl⟩⟩
  have at_ : ∀ {k : Nat} {z : It}, ((h.map (killIt it)).set it y)[k]? = some z → (k ≠ it ∧ ∃ x, h[k]? = some x ∧ z = killIt it x) ∨ (k = it ∧ z = y) := by
    intro k z hz
    by_cases he : it = k
    · subst he; rw [List.getElem?_set_self (by simpa using hltit)] at hz; exact .inr ⟨rfl, by simpa using hz.symm⟩
    · rw [List.getElem?_set_ne he, List.getElem?_map, Option.map_eq_some_iff] at hz
      obtain ⟨x, hx, rfl⟩ := hz
      exact .inl ⟨fun e => he e.symm, x, hx, rfl⟩
  have owk : ∀ {k : Nat} (x : It), k ≠ it → Ow E' k (killIt it x) = Ow E k x := fun x hk => Ow_kill x hbl (hext _ hk) (hsl _ hk)
  have keep : ∀ {k b : Nat} {x' : It}, k ≠ it → h[k]? = some x' → Ow E k x' b → w'.heap[b]? = w.heap[b]? := fun hk' hx' hb => hk _ (hp.own _ _ _ hx' hb).1 fun hb' => hk' (hp.sep _ _ _ _ _ hx' hx hb hb')
  refine ⟨?_, ?_, ?_, by simp [hn, hp.n], ?_, ?_, ?_, ?_⟩
  · rw [hbs]
    intro k hB
    have h1 := hp.bs k hB
    exact ⟨Nat.lt_of_lt_of_le h1.1 hsz, (hk k h1.1 fun hb => (hp.own it x k hx hb).2.1 hB).trans h1.2⟩
  · rw [hbs]; exact hp.le
  · rw [hbs]; exact hp.nb
  · intro k z hz
    rcases at_ hz with ⟨hne, x', hx', rfl⟩ | ⟨rfl, rfl⟩
    · have h1 := (hp.ok k x' hx').of_block (w' := w') (fun b hb => keep hne hx' hb)
      cases x' with
      | dead => trivial
      | cells ty cs =>
        obtain ⟨vs, hb, hrel⟩ := h1
        exact ⟨vs, by rw [hbl]; exact hb, (killL_rel htk hrel).monoC hc⟩
      | row e2 z2 xs2 =>
        obtain ⟨us, ho2, hr2, hl2, hs2⟩ := h1
        exact ⟨us, by rw [hsl k hne]; exact ho2, RelL.ofSt (E := E) (E' := E') hbs hs2 hr2, hl2, hs2⟩
      | obj Φ =>
        obtain ⟨o, h2, h3⟩ := h1
        exact ⟨o, by rw [hbl]; exact h2, h3⟩
      | abs A =>
        show A.is E'.bs (E'.sl k) (E'.ext k) w'
        rw [hsl k hne, hext k hne, hbs]; exact h1
      | held vs xs => exact (killVf_rels htk h1).monoC hc
      | prow e2 z2 as o =>
        obtain ⟨ys, Ss, h2⟩ := h1
        have key : ∀ o', (∀ i cs, o' = some (i, cs) → ∃ cs0, o = some (i, cs0) ∧ cs = cs0.map (killC it)) → (o' = none → o = none) → PRow E' w' k e2 z2 as o' ys Ss := fun o' ho1 ho2 => by
          have hel : ∀ (i : Nat) (a : AbsL), as[i]? = some a → (∀ cs, o' ≠ some (i, cs)) → a.is E'.bs ((ys.drop (i * z2)).take z2) (Ss i) w' := fun i a ha hno => by
            rw [hbs]
            refine h2.el i a ha fun cs e => ?_
            cases ho' : o' with
            | none => rw [ho2 ho'] at e; cases e
            | some p =>
              obtain ⟨cs0, e0, _⟩ := ho1 p.1 p.2 ho'
              rw [e0] at e; cases e
              exact hno p.2 (by rw [ho'])
          have hop : ∀ (i : Nat) (cs : List XC), o' = some (i, cs) → i < as.length ∧ cs.length = z2 ∧ RelL E' cs ((ys.drop (i * z2)).take z2) := fun i cs e => by
            obtain ⟨cs0, e0, rfl⟩ := ho1 i cs e
            obtain ⟨g1, g2, g3⟩ := h2.op i cs0 e0
            exact ⟨g1, by simpa using g2, (killL_rel htk g3).monoC hc⟩
          exact ⟨by rw [hsl k hne]; exact h2.row, hel, hop, h2.sep, by rw [hsl k hne, hext k hne]; exact h2.own, by rw [hsl k hne, hext k hne]; exact h2.blk⟩
        cases o with
        | none => exact ⟨ys, Ss, key none (fun i cs e => by cases e) (fun _ => rfl)⟩
        | some p => exact ⟨ys, Ss, key (some (p.1, p.2.map (killC it))) (fun i cs e => by cases e; exact ⟨p.2, rfl, rfl⟩) (fun e => by cases e)⟩
    · exact hi
  · intro k z b hz hb
    rcases at_ hz with ⟨hne, x', hx', rfl⟩ | ⟨rfl, rfl⟩
    · rw [owk x' hne] at hb
      have h1 := hp.own k x' b hx' hb
      rw [hbs]
      exact ⟨Nat.lt_of_lt_of_le h1.1 hsz, h1.2⟩
    · obtain ⟨h1, h2⟩ := hown b hb
      rw [hbs]
      rcases h1 with h1 | h1
      · exact ⟨h2, (hp.own _ x b hx h1).2⟩
      · exact ⟨h2, fun hB => by have := (hp.bs _ hB).1; omega, .inl (Nat.le_trans hp.fr.size h1)⟩
  · intro j k z z' b hz hz' hb hb'
    rcases at_ hz with ⟨hj, x1, hx1, rfl⟩ | ⟨e1, rfl⟩ <;> rcases at_ hz' with ⟨hk', x2, hx2, rfl⟩ | ⟨e3, e4⟩
    · rw [owk x1 hj] at hb
      rw [owk x2 hk'] at hb'
      exact hp.sep j k x1 x2 b hx1 hx2 hb hb'
    · exfalso
      rw [owk x1 hj] at hb
      subst e3; subst e4
      rcases (hown b hb').1 with h1 | h1
      · exact hj (hp.sep _ _ _ _ _ hx1 hx hb h1)
      · have := (hp.own j x1 _ hx1 hb).1; omega
    · exfalso
      rw [owk x2 hk'] at hb'
      subst e1
      rcases (hown b hb).1 with h1 | h1
      · exact hk' (hp.sep _ _ _ _ _ hx2 hx hb' h1)
      · have := (hp.own k x2 _ hx2 hb').1; omega
    · rw [e1, e3]
  · refine ⟨ho.trans hp.fr.os, ht.trans hp.fr.tape, hu.trans hp.fr.output, Nat.le_trans hp.fr.size hsz, fun k hk' hF => ?_⟩
    refine (hk k (Nat.lt_of_lt_of_le hk' hp.fr.size) fun hb => ?_).trans (hp.fr.block k hk' hF)
    rcases (hp.own it x k hx hb).2.2 with h1 | h1
    · omega
    · exact hF h1

/-- The row of an item has grown, perhaps in another block. -/
theorem Heap.turn (hp : Heap w0 F E h w) {w' : World} {it e z : Nat} {xs ys : List (List XC)} {v' : Value} (hx : h[it]? = some (.row e z xs)) (hg : w.grownBy w' (E.sl it).ownBlock)
    (hv : v'.ownBlock = (E.sl it).ownBlock ∨ v'.ownBlock = some w.heap.size) (hlt : ∀ b, v'.ownBlock = some b → b < w'.heap.size)
    {ys' : List Value} (ho : w'.ownsRow 0 e z v' ys.length ys') (hr : ∀ E', Turn E E' it → RelL E' ys.flatten ys') (hl : ∀ l ∈ ys, l.length = z) (hst : ∀ x ∈ ys.flatten, St x) :
    ∃ E', Turn E E' it ∧ Heap w0 F E' ((h.map (killIt it)).set it (.row e z ys)) w' ∧ E'.sl it = v' := by
  let E' : Env := { E with sl := fun k => if k = it then v' else E.sl k }
  have ht : Turn E E' it := ⟨rfl, rfl, rfl, rfl, fun k hk => by simp [E', hk]⟩
  have hsl : E'.sl it = v' := by simp [E']
  refine ⟨E', ht, hp.turnTo hx hg.size hg.os hg.tape hg.output (fun b hb hno => hg.block b hb fun e => hno e.symm) rfl rfl rfl (fun _ _ => rfl) (fun k hk => ht.sl k hk) (fun b hb => ?_) ⟨ys', by rw [hsl]; exact ho, hr E' ht, hl, hst⟩, hsl⟩
  simp only [Ow, hsl] at hb
  refine ⟨?_, hlt b hb⟩
  rcases hv with e1 | e1
  · rw [e1] at hb; exact .inl hb
  · rw [e1] at hb; cases hb; exact .inr (Nat.le_refl _)
end
end Go.Eng
