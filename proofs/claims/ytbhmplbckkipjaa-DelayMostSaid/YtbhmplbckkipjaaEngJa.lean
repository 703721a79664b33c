/- The engine, part Ja: a row of the run's own that turns no more, lent or laid aside for good; nothing of any program is proved here. -/
import Derived.Test.YtbhmplbckkipjaaEngJ
namespace Go.Eng
open Go Go.RowKit
set_option linter.unusedSimpArgs false
set_option linter.unusedVariables false

def nthL : List (List XC) → Nat → List XC
  | [], _ => []
  | a :: _, 0 => a
  | _ :: l, n + 1 => nthL l n
def cell2 (xs : List (List XC)) (i j : Nat) : XC := nthC (nthL xs i) j
def rsOf (xs : List (List XC)) (z : Nat) : XC := .rs xs.length z (cell2 xs)

theorem nthL_eq : ∀ (l : List (List XC)) (i : Nat), nthL l i = (l[i]?).getD []
  | [], _ => rfl
  | _ :: _, 0 => rfl
  | _ :: l, n + 1 => by simp [nthL, nthL_eq l n]
theorem nthC_getD : ∀ (l : List XC) (i : Nat), nthC l i = (l[i]?).getD .un
  | [], _ => rfl
  | _ :: _, 0 => rfl
  | _ :: l, n + 1 => by simp [nthC, nthC_getD l n]
theorem flat_at {z : Nat} : ∀ {xs : List (List XC)}, (∀ l ∈ xs, l.length = z) → ∀ i j, i < xs.length → j < z → xs.flatten[i * z + j]? = some (cell2 xs i j)
  | [], _, i, j, hi, _ => by simp at hi
  | x :: xs, hl, 0, j, _, hj => by
    have hx := hl x (by simp)
    rw [List.flatten_cons, Nat.zero_mul, Nat.zero_add, List.getElem?_append_left (by omega)]
    simp only [cell2, nthL, nthC_getD]
    rw [List.getElem?_eq_getElem (by omega)]; rfl
  | x :: xs, hl, i + 1, j, hi, hj => by
    have hx := hl x (by simp)
    rw [List.flatten_cons, List.getElem?_append_right (by rw [hx, Nat.succ_mul]; omega), hx, Nat.succ_mul]
    have : i * z + z + j - z = i * z + j := by omega
    rw [this, flat_at (fun l h => hl l (by simp [h])) i j (by simpa using hi) hj]
    rfl

/-- Blocks more that don't turn. -/
def Env.more (E : Env) (w : World) (B : Nat → Prop) : Env := { E with bs := ⟨w, fun b => E.bs.B b ∨ B b⟩ }

section
variable {E : Env} {h : List It} {w0 : Org} {w : World} {F : Nat → Prop} {B : Nat → Prop}

theorem Heap.le_more (hp : Heap w0 F E h w) : EnvLe E (E.more w B) :=
  ⟨Nat.le_refl _, fun _ _ => rfl, fun _ _ => rfl, fun _ _ => rfl, fun b hb => ⟨.inl hb, (hp.bs b hb).2⟩⟩

/-- A row, as a slice that doesn't turn. -/
theorem Heap.rs_of (hp : Heap w0 F E h w) {it e z : Nat} {xs : List (List XC)} (hx : h[it]? = some (.row e z xs)) (hB : ∀ b, (E.sl it).ownBlock = some b → B b) : RelC (E.more w B) (rsOf xs z) (E.sl it) := by
  obtain ⟨ys, how, hr, hl, hst⟩ := hp.ok it _ hx
  rcases how.2 with ⟨hsl, h0⟩ | ⟨g, cap, cur, hsl, _, _, hnc, hm, _, _⟩
  · refine ⟨none, 0, by rw [hsl, h0], by omega, by simp [maxLen], fun i hi => by omega⟩
  · refine ⟨_, _, hsl, hnc, hm, fun i hi => ⟨_, rfl, fun j hj => ?_⟩⟩
    have hf := flat_at hl i j hi hj
    obtain ⟨u, hu, hru⟩ := hr.get _ hf
    refine ⟨.inr (hB g (by simp [hsl, Value.ownBlock])), u, how.cells (by simp [hsl, Value.ownBlock]) _ _ hu, hst _ (List.mem_of_getElem? hf), RelC.mono hp.le_more _ _ hru⟩

/-! ### for good -/
def frzC (it : Nat) (r : XC) (x : XC) : XC :=
  match x with
  | .ow k => (match Nat.beq k it with | true => r | false => .ow k)
  | x => x
def frzL (it : Nat) (r : XC) : List XC → (List XC → Prop) → Prop
  | [], k => k []
  | x :: l, k => forceC (frzC it r x) fun x => frzL it r l fun l => k (x :: l)
theorem frzL_eq (it : Nat) (r : XC) : ∀ (l : List XC) (k : List XC → Prop), frzL it r l k = k (l.map (frzC it r))
  | [], _ => rfl
  | x :: l, k => by simp only [frzL, forceC_eq, frzL_eq it r l, List.map_cons]
def frzV (it : Nat) (r : XC) (x : XV) (k : XV → Prop) : Prop :=
  match x with
  | .c x => forceC (frzC it r x) fun x => k (.c x)
  | .a l => frzL it r l fun l => k (.a l)
  | x => k x
def frzTs (it : Nat) (r : XC) : List XV → (List XV → Prop) → Prop
  | [], k => k []
  | x :: l, k => frzV it r x fun x => frzTs it r l fun l => k (x :: l)
def frzH (it : Nat) (r : XC) : List It → (List It → Prop) → Prop
  | [], k => k []
  | x :: l, k => (match x with
    | .cells ty cs => frzL it r cs fun cs => frzH it r l fun l => k (.cells ty cs :: l)
    | .held vs xs => frzTs it r xs fun xs => frzH it r l fun l => k (.held vs xs :: l)
    | .prow e z as (some (i, cs)) => frzL it r cs fun cs => frzH it r l fun l => k (.prow e z as (some (i, cs)) :: l)
    | x => frzH it r l fun l => k (x :: l))
def frzVf (it : Nat) (r : XC) : XV → XV
  | .c x => .c (frzC it r x)
  | .a l => .a (l.map (frzC it r))
  | x => x
theorem frzV_eq (it : Nat) (r : XC) (x : XV) (k : XV → Prop) : frzV it r x k = k (frzVf it r x) := by
  cases x <;> simp only [frzV, forceC_eq, frzL_eq, frzVf]
theorem frzTs_eq (it : Nat) (r : XC) : ∀ (l : List XV) (k : List XV → Prop), frzTs it r l k = k (l.map (frzVf it r))
  | [], _ => rfl
  | x :: l, k => by simp only [frzTs, frzV_eq, frzTs_eq it r l, List.map_cons]
def frzIt (it : Nat) (r : XC) : It → It
  | .cells ty cs => .cells ty (cs.map (frzC it r))
  | .held vs xs => .held vs (xs.map (frzVf it r))
  | .prow e z as (some (i, cs)) => .prow e z as (some (i, cs.map (frzC it r)))
  | x => x
theorem frzH_eq (it : Nat) (r : XC) : ∀ (h : List It) (k : List It → Prop), frzH it r h k = k (h.map (frzIt it r))
  | [], _ => rfl
  | .prow e z as (some (i, cs)) :: l, k => by simp only [frzH, frzL_eq, frzH_eq it r l, List.map_cons, frzIt]
  | .prow e z as none :: l, k => by simp only [frzH, frzH_eq it r l, List.map_cons, frzIt]
  | .dead :: l, k => by simp only [frzH, frzH_eq it r l, List.map_cons, frzIt]
  | .cells _ _ :: l, k => by simp only [frzH, frzL_eq, frzH_eq it r l, List.map_cons, frzIt]
  | .row _ _ _ :: l, k => by simp only [frzH, frzH_eq it r l, List.map_cons, frzIt]
  | .obj _ :: l, k => by simp only [frzH, frzH_eq it r l, List.map_cons, frzIt]
  | .abs _ :: l, k => by simp only [frzH, frzH_eq it r l, List.map_cons, frzIt]
  | .held _ _ :: l, k => by simp only [frzH, frzTs_eq, frzH_eq it r l, List.map_cons, frzIt]

variable {E' : Env} {it : Nat} {r : XC}
theorem frzC_rel (hle : EnvLe E E') (hr : RelC E' r (E.sl it)) {x : XC} {v : Value} (h : RelC E x v) : RelC E' (frzC it r x) v := by
  unfold frzC
  split
  · rename_i k
    split
    · rename_i hb
      have := Nat.eq_of_beq_eq_true hb
      subst this
      rw [h.2.1]; exact hr
    · exact RelC.mono hle _ _ h
  · exact RelC.mono hle _ _ h
theorem frzL_rel (hle : EnvLe E E') (hr : RelC E' r (E.sl it)) : ∀ {l : List XC} {vs : List Value}, RelL E l vs → RelL E' (l.map (frzC it r)) vs
  | [], [], _ => trivial
  | _ :: _, _ :: _, h => ⟨frzC_rel hle hr h.1, frzL_rel hle hr h.2⟩
  | [], _ :: _, h => h.elim
  | _ :: _, [], h => h.elim
theorem frzV_rel (hle : EnvLe E E') (hr : RelC E' r (E.sl it)) {x : XV} {v : Value} {k : XV → Prop} (hk : frzV it r x k) (h : RelV E x v) : ∃ x', k x' ∧ RelV E' x' v := by
  unfold frzV at hk
  split at hk
  · rw [forceC_eq] at hk; exact ⟨_, hk, frzC_rel hle hr h⟩
  · rw [frzL_eq] at hk
    obtain ⟨vs, rfl, hl⟩ := h
    exact ⟨_, hk, vs, rfl, frzL_rel hle hr hl⟩
  · exact ⟨_, hk, h.mono hle⟩
theorem frzTs_rel (hle : EnvLe E E') (hr : RelC E' r (E.sl it)) : ∀ {ts : List XV} {vs : List Value} {k : List XV → Prop}, frzTs it r ts k → RelTs E ts vs → ∃ ts', k ts' ∧ RelTs E' ts' vs
  | [], [], k, hk, _ => ⟨[], hk, trivial⟩
  | x :: ts, v :: vs, k, hk, h => by
    unfold frzTs at hk
    obtain ⟨x', hk', hx⟩ := frzV_rel hle hr hk h.1
    obtain ⟨ts', hk'', hts⟩ := frzTs_rel hle hr hk' h.2
    exact ⟨_, hk'', hx, hts⟩
  | [], _ :: _, _, _, h => h.elim
  | _ :: _, [], _, _, h => h.elim

theorem Heap.freezeTo (hp : Heap w0 F E h w) {it : Nat} {x : It} (hx : h[it]? = some x) (hrs : RelC (E.more w (Ow E it x)) r (E.sl it)) :
    EnvLe E (E.more w (Ow E it x)) ∧ Heap w0 F (E.more w (Ow E it x)) ((h.map (frzIt it r)).set it .dead) w := by
  have hle : EnvLe E (E.more w (Ow E it x)) := hp.le_more
  refine ⟨hle, ?_⟩
  have hltit := (List.getElem?_eq_some_iff.1 hx).1
  have at_ : ∀ {k : Nat} {y : It}, ((h.map (frzIt it r)).set it .dead)[k]? = some y → (k ≠ it ∧ ∃ x, h[k]? = some x ∧ y = frzIt it r x) ∨ (k = it ∧ y = .dead) := by
    intro k y hy
    by_cases he : it = k
    · subst he; rw [List.getElem?_set_self (by simpa using hltit)] at hy; exact .inr ⟨rfl, by simpa using hy.symm⟩
    · rw [List.getElem?_set_ne he, List.getElem?_map, Option.map_eq_some_iff] at hy
      obtain ⟨x, hx, rfl⟩ := hy
      exact .inl ⟨fun e => he e.symm, x, hx, rfl⟩
  have hbl : ∀ k x', Ow (E.more w (Ow E it x)) k (frzIt it r x') = Ow E k x' := fun k x' => by
    cases x' with
    | prow e z as o => cases o <;> rfl
    | _ => rfl
  refine ⟨?_, ?_, ?_, by simp [Env.more, hp.n], ?_, ?_, ?_, hp.fr⟩
  · rintro k (hB | hB)
    · exact ⟨(hp.bs k hB).1, rfl⟩
    · exact ⟨(hp.own it _ k hx hB).1, rfl⟩
  · exact hp.le.trans hle.bs
  · rintro b (hB | hB)
    · exact hp.nb b hB
    · exact .inr (hp.own it _ b hx hB).2.2
  · intro k y hy
    rcases at_ hy with ⟨_, x', hx', rfl⟩ | ⟨_, rfl⟩
    · have h1 := hp.ok k x' hx'
      cases x' with
      | cells ty cs =>
        obtain ⟨vs, hv, hr⟩ := h1
        exact ⟨vs, hv, frzL_rel hle hrs hr⟩
      | dead => trivial
      | row e z xs => exact h1.mono hle (hp.blkLt hx')
      | obj Φ => exact h1
      | abs A => exact ItOk.mono (x := .abs A) hle (hp.blkLt hx') h1
      | held us qs =>
        obtain ⟨ts', hk, hr⟩ := frzTs_rel (k := fun l => l = qs.map (frzVf it r)) hle hrs (by rw [frzTs_eq]) h1
        subst hk
        exact hr
      | prow e z as o =>
        cases o with
        | none => exact ItOk.mono (x := .prow e z as none) hle (hp.blkLt hx') h1
        | some p =>
          obtain ⟨ys, Ss, h2⟩ := h1
          have h3 := h2.mono hle (hp.blkLt hx')
          refine ⟨ys, Ss, h3.row, fun i a ha hno => h3.el i a ha fun cs e => hno (cs.map (frzC it r)) (by cases e; rfl), fun i cs e => ?_, h3.sep, h3.own, h3.blk⟩
          cases e
          obtain ⟨g1, g2, g3⟩ := h2.op p.1 p.2 rfl
          exact ⟨g1, by simpa using g2, frzL_rel hle hrs g3⟩
    · trivial
  · intro k y b hy hb
    rcases at_ hy with ⟨hk, x', hx', rfl⟩ | ⟨_, rfl⟩
    · rw [hbl] at hb
      have h1 := hp.own k x' b hx' hb
      refine ⟨h1.1, ?_, h1.2.2⟩
      rintro (hB | hB)
      · exact h1.2.1 hB
      · exact hk (hp.sep _ _ _ _ _ hx' hx hb hB)
    · simp [Ow] at hb
  · intro j k y y' b hy hy' hb hb'
    rcases at_ hy with ⟨_, x', hx1, rfl⟩ | ⟨_, rfl⟩
    · rcases at_ hy' with ⟨_, x'', hx2, rfl⟩ | ⟨_, rfl⟩
      · rw [hbl] at hb hb'
        exact hp.sep _ _ _ _ _ hx1 hx2 hb hb'
      · simp [Ow] at hb'
    · simp [Ow] at hb
theorem Heap.freeze (hp : Heap w0 F E h w) {it e z : Nat} {xs : List (List XC)} (hx : h[it]? = some (.row e z xs)) :
    ∃ E', EnvLe E E' ∧ RelC E' (rsOf xs z) (E.sl it) ∧ Heap w0 F E' ((h.map (frzIt it (rsOf xs z))).set it .dead) w := by
  have hrs : RelC (E.more w (Ow E it (.row e z xs))) (rsOf xs z) (E.sl it) := hp.rs_of hx (fun b hb => hb)
  obtain ⟨h1, h2⟩ := hp.freezeTo hx hrs
  exact ⟨_, h1, hrs, h2⟩

/-- What is known of an element, once all turns no more. -/
def fzAt : List AbsL → Nat → List XC
  | [], _ => []
  | a :: _, 0 => a.fz
  | _ :: l, n + 1 => fzAt l n
theorem fzAt_eq : ∀ {l : List AbsL} {i : Nat} {a : AbsL}, l[i]? = some a → fzAt l i = a.fz
  | a :: l, 0, b, h => by simp at h; subst h; rfl
  | _ :: l, i + 1, b, h => fzAt_eq (l := l) (by simpa using h)
  | [], _, _, h => by simp at h
def rsP (as : List AbsL) (z : Nat) : XC := .rs as.length z (fun i j => nthC (fzAt as i) j)
/-- A row of packs, as a slice that doesn't turn. -/
theorem PRow.rs_of {E : Env} {w : World} {k e z : Nat} {as : List AbsL} {ys : List Value} {Ss : Nat → Nat → Prop} (hp : PRow E w k e z as none ys Ss) (hb : E.bs.ok w) {B : Nat → Prop} (hB : ∀ b, E.ext k b → B b) : RelC (E.more w B) (rsP as z) (E.sl k) := by
  rcases hp.row.2 with ⟨hsl, h0⟩ | ⟨g, cap, cur, hsl, _, _, hnc, hm, _, _⟩
  · refine ⟨none, 0, by rw [hsl, h0], by omega, by simp [maxLen], fun i hi => by omega⟩
  · refine ⟨_, _, hsl, hnc, hm, fun i hi => ⟨_, rfl, fun j hj => ?_⟩⟩
    have ha := List.getElem?_eq_getElem hi
    have h1 := hp.el i _ ha (fun cs e => by cases e)
    have h2 := AbsL.fzOk _ h1 (E.more w B) (fun b hb' => ⟨.inl hb', (hb b hb').2⟩) (fun b hb' => ⟨.inr (hB b (hp.own i b hb').1), rfl⟩)
    have hlen : ((ys.drop (i * z)).take z).length = z := by
      have := hp.row.1
      have hle : i * z + z ≤ as.length * z := by rw [← Nat.succ_mul]; exact Nat.mul_le_mul_right z hi
      rw [List.length_take, List.length_drop]; omega
    have hjl : j < (as[i]).fz.length := by rw [h2.len, hlen]; exact hj
    have hf : (as[i]).fz[j]? = some (nthC (as[i]).fz j) := by rw [nthC_getD, List.getElem?_eq_getElem hjl]; rfl
    obtain ⟨u, hu, hru⟩ := h2.get _ hf
    rw [List.getElem?_take, if_pos hj, List.getElem?_drop] at hu
    refine ⟨.inr (hB g (hp.blk g (by simp [hsl, Value.ownBlock]))), u, hp.row.cells (by simp [hsl, Value.ownBlock]) _ _ hu, ?_, ?_⟩
    · show St (nthC (fzAt as i) j)
      rw [fzAt_eq ha]
      exact (as[i]).fzSt _ (List.mem_of_getElem? hf)
    · show RelC _ (nthC (fzAt as i) j) u
      rw [fzAt_eq ha]; exact hru

/-- One own row is laid aside for good. -/
def frz (it : Nat) (ts : List XV) (h : List It) (k : List XV → List It → Prop) : Prop :=
  match itemAt h it with
  | .row _ z xs => frzTs it (rsOf xs z) ts fun ts => frzH it (rsOf xs z) h fun h => setH h it .dead fun h => k ts h
  | .prow _ z as none => frzTs it (rsP as z) ts fun ts => frzH it (rsP as z) h fun h => setH h it .dead fun h => k ts h
  | _ => False
def firstOw : List XC → Option Nat
  | [] => none
  | .ow it :: _ => some it
  | _ :: l => firstOw l
def owOf : XV → Option Nat
  | .c (.ow it) => some it
  | .a l => firstOw l
  | _ => none
/-- The own rows among these operands are laid aside: what they go into keeps them. -/
def frzOps : Nat → List Operand → List XV → List It → (List XV → List It → Prop) → Prop
  | 0, _, _, _, _ => False
  | _ + 1, [], ts, h, k => k ts h
  | n + 1, o :: l, ts, h, k => (match owOf (opv ts o) with
    | none => frzOps n l ts h k
    | some it => frz it ts h fun ts h => frzOps n (o :: l) ts h k)

theorem frz_sound {ts : List XV} {vs : List Value} {k : List XV → List It → Prop} {it : Nat} (hh : frz it ts h k) (hr : RelTs E ts vs) (hp : Heap w0 F E h w) :
    ∃ ts' h' E', k ts' h' ∧ RelTs E' ts' vs ∧ Heap w0 F E' h' w := by
  unfold frz at hh
  split at hh
  case h_3 => exact hh.elim
  · rename_i e z xs hit
    obtain ⟨E', hle, hrs, hp'⟩ := hp.freeze (itemAt_eq _ _ hit (by simp))
    obtain ⟨ts', hk, hr'⟩ := frzTs_rel hle hrs hh hr
    rw [frzH_eq, setH_eq] at hk
    exact ⟨ts', _, E', hk, hr', hp'⟩
  · rename_i e z as hit
    have hx := itemAt_eq _ _ hit (by simp)
    obtain ⟨ys, Ss, hpr⟩ := hp.ok it _ hx
    have hrs : RelC (E.more w (Ow E it (.prow e z as none))) (rsP as z) (E.sl it) := hpr.rs_of hp.bs (fun b hb => hb)
    obtain ⟨hle, hp'⟩ := hp.freezeTo hx hrs
    obtain ⟨ts', hk, hr'⟩ := frzTs_rel hle hrs hh hr
    rw [frzH_eq, setH_eq] at hk
    exact ⟨ts', _, _, hk, hr', hp'⟩
theorem frzOps_sound {vs : List Value} {k : List XV → List It → Prop} : ∀ (n : Nat) {l : List Operand} {ts : List XV} {h : List It} {E : Env}, frzOps n l ts h k → RelTs E ts vs → Heap w0 F E h w →
    ∃ ts' h' E', k ts' h' ∧ RelTs E' ts' vs ∧ Heap w0 F E' h' w
  | 0, _, _, _, _, hh, _, _ => hh.elim
  | n + 1, [], ts, h, E, hh, hr, hp => ⟨ts, h, E, hh, hr, hp⟩
  | n + 1, o :: l, ts, h, E, hh, hr, hp => by
    unfold frzOps at hh
    split at hh
    · exact frzOps_sound n hh hr hp
    · obtain ⟨ts', h', E', hk, hr', hp'⟩ := frz_sound hh hr hp
      exact frzOps_sound n hk hr' hp'
end

/-- What an operation keeps for good. -/
def keptBy (h : List It) (ts : List XV) : Op → List Operand
  | .buildSlice _ _ ps => ps.toList.map (·.2)
  | .store _ a x => (match opv ts a with | .c (.q it _ _ _) => (match itemAt h it with | .prow _ _ _ (some _) => [] | _ => [x]) | _ => [])
  | _ => []
end Go.Eng
