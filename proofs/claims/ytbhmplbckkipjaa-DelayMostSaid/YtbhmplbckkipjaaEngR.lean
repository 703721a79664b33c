/- The engine, part R: a law's arguments, opened by their types; nothing of any program is proved here. -/
import Derived.Test.YtbhmplbckkipjaaEngQ
import Derived.Deep.Slices
import Derived.OpenShut
namespace Go.Eng
open Go Go.RowKit Go.ChangeShapes Go.WideShapes
set_option linter.unusedSimpArgs false
set_option linter.unusedVariables false

/-- What a cell may be, by its type. -/
inductive Sh where
  | int (k : IntKind)
  | bool
  | str
  | sl (z : Nat) (l : List Sh)

mutual
def fit : Sh → XC → Prop
  | .int k, x => ∃ n, x = .i k n ∧ (Lit.int k n).wf = true
  | .bool, x => ∃ b, x = .b b
  | .str, x => ∃ s : ByteArray, x = .v (.string s) ∧ s.size ≤ maxLen
  | .sl z l, x => ∃ n f, x = .rs n z f ∧ n ≤ maxLen ∧ ∀ i, i < n → fitF l (f i) 0
def fitF : List Sh → (Nat → XC) → Nat → Prop
  | [], _, _ => True
  | s :: l, f, j => fit s (f j) ∧ fitF l f (j + 1)
end
def fits : List Sh → List XC → Prop
  | [], [] => True
  | s :: l, x :: xs => fit s x ∧ fits l xs
  | _, _ => False
theorem fits.len : ∀ {l : List Sh} {xs : List XC}, fits l xs → l.length = xs.length
  | [], [], _ => rfl
  | _ :: _, _ :: _, h => by simp [fits.len h.2]
  | [], _ :: _, h => h.elim
  | _ :: _, [], h => h.elim
theorem fits.append : ∀ {l l' : List Sh} {xs xs' : List XC}, fits l xs → fits l' xs' → fits (l ++ l') (xs ++ xs')
  | [], _, [], _, _, h => h
  | _ :: _, _, _ :: _, _, h, h' => ⟨h.1, fits.append h.2 h'⟩
  | [], _, _ :: _, _, h, _ => h.elim
  | _ :: _, _, [], _, h, _ => h.elim
theorem fits.fitF : ∀ {l : List Sh} {xs : List XC} {f : Nat → XC} {o : Nat}, fits l xs → (∀ j, j < xs.length → f (o + j) = xs.getD j .un) → fitF l f o
  | [], [], _, _, _, _ => by unfold Go.Eng.fitF; trivial
  | s :: l, x :: xs, f, o, h, hf => by
    unfold Go.Eng.fitF
    refine ⟨?_, fits.fitF h.2 fun j hj => ?_⟩
    · have := hf 0 (by simp)
      simp at this
      rw [this]; exact h.1
    · have := hf (j + 1) (by simpa using hj)
      rw [Nat.add_assoc, Nat.add_comm 1 j, this]; simp
  | [], _ :: _, _, _, h, _ => h.elim
  | _ :: _, [], _, _, h, _ => h.elim

theorem fits_cons {s : Sh} {l : List Sh} : ∀ {xs : List XC}, fits (s :: l) xs → ∃ x r, xs = x :: r ∧ fit s x ∧ fits l r
  | x :: r, h => ⟨x, r, rfl, h.1, h.2⟩
  | [], h => h.elim
theorem fits_nil : ∀ {xs : List XC}, fits [] xs → xs = []
  | [], _ => rfl
  | _ :: _, h => h.elim
theorem fit_int {k : IntKind} {x : XC} (h : fit (.int k) x) : ∃ n, x = .i k n ∧ (Lit.int k n).wf = true := by unfold fit at h; exact h
theorem fit_bool {x : XC} (h : fit .bool x) : ∃ b, x = .b b := by unfold fit at h; exact h
theorem fit_str {x : XC} (h : fit .str x) : ∃ s : ByteArray, x = .v (.string s) ∧ s.size ≤ maxLen := by unfold fit at h; exact h
theorem fit_sl {z : Nat} {l : List Sh} {x : XC} (h : fit (.sl z l) x) : ∃ n f, x = .rs n z f ∧ n ≤ maxLen ∧ ∀ i, i < n → fitF l (f i) 0 := by unfold fit at h; exact h
/-- A slice of ints. -/
theorem rs_ints {E : Env} {k : IntKind} {n : Nat} {f : Nat → Nat → XC} {v : Value} (hf : ∀ i, i < n → fitF [.int k] (f i) 0) (hr : RelV E (.c (.rs n 1 f)) v) :
    ∃ g : Nat → Int, (∀ i, i < n → (Lit.int k (g i)).wf = true) ∧ RelV E (.c (.rs n 1 fun i _ => .i k (g i))) v := by
  have h : ∀ i, ∃ m : Int, i < n → f i 0 = .i k m ∧ (Lit.int k m).wf = true := fun i => by
    by_cases hi : i < n
    · have := hf i hi
      simp only [fitF] at this
      obtain ⟨m, h1, h2⟩ := fit_int this.1
      exact ⟨m, fun _ => ⟨h1, h2⟩⟩
    · exact ⟨0, fun h => absurd h hi⟩
  obtain ⟨g, hg⟩ := Classical.axiomOfChoice h
  refine ⟨g, fun i hi => (hg i hi).2, ?_⟩
  refine entV_rel (x := .c (.rs n 1 f)) (show entC (.rs n 1 f) (.rs n 1 fun i _ => .i k (g i)) from ⟨rfl, rfl, fun i hi j hj => ?_⟩) hr
  have : j = 0 := by omega
  subst this
  exact entC_of_eq (hg i hi).1
/-- A slice of structs of ints alone. -/
theorem rs_rows {E : Env} {k : IntKind} {n z : Nat} {f : Nat → Nat → XC} {v : Value} (hf : ∀ i, i < n → fitF (List.replicate z (.int k)) (f i) 0) (hr : RelV E (.c (.rs n z f)) v) :
    ∃ g : Nat → Nat → Int, (∀ i, i < n → ∀ j, j < z → (Lit.int k (g i j)).wf = true) ∧ RelV E (.c (.rs n z fun i j => .i k (g i j))) v := by
  have key : ∀ (z o : Nat) (f : Nat → XC), fitF (List.replicate z (.int k)) f o → ∀ j, j < z → ∃ m : Int, f (o + j) = .i k m ∧ (Lit.int k m).wf = true := by
    intro z
    induction z with
    | zero => intro o f _ j hj; omega
    | succ z ih =>
      intro o f hf j hj
      rw [List.replicate_succ] at hf
      simp only [fitF] at hf
      cases j with
      | zero => exact fit_int hf.1
      | succ j =>
        have := ih (o + 1) f hf.2 j (by omega)
        rwa [Nat.add_assoc, Nat.add_comm 1 j] at this
  have h : ∀ p : Nat × Nat, ∃ m : Int, p.1 < n → p.2 < z → f p.1 p.2 = .i k m ∧ (Lit.int k m).wf = true := fun p => by
    by_cases hi : p.1 < n
    · by_cases hj : p.2 < z
      · obtain ⟨m, h1⟩ := key z 0 (f p.1) (hf p.1 hi) p.2 hj
        rw [Nat.zero_add] at h1
        exact ⟨m, fun _ _ => h1⟩
      · exact ⟨0, fun _ h => absurd h hj⟩
    · exact ⟨0, fun h => absurd h hi⟩
  obtain ⟨g, hg⟩ := Classical.axiomOfChoice h
  refine ⟨fun i j => g (i, j), fun i hi j hj => (hg (i, j) hi hj).2, ?_⟩
  exact entV_rel (x := .c (.rs n z f)) (show entC (.rs n z f) (.rs n z fun i j => .i k (g (i, j))) from ⟨rfl, rfl, fun i hi j hj => (entC_of_eq (hg (i, j) hi hj).1)⟩) hr

mutual
/-- The cells of a type. -/
def shT (P : Program) : Nat → TypeId → Option (List Sh)
  | 0, _ => none
  | d + 1, t =>
    match P.underlying t with
    | some (.int k) => some [.int k]
    | some .bool => some [.bool]
    | some .string => some [.str]
    | some (.slice e) => (match shT P d e with
      | some l => if l.length = P.cellsOf e then some [.sl l.length l] else none
      | none => none)
    | some (.array n e) => (match shT P d e with
      | some l => if l.length = P.cellsOf e ∧ n * P.cellsOf e = P.cellsOf t then some (List.replicate n l).flatten else none
      | none => none)
    | some (.struct fs) => (match shFs P d 0 fs.toList with
      | some l => if l.length = P.cellsOf t then some l else none
      | none => none)
    | _ => none
def shFs (P : Program) : Nat → Nat → List Field → Option (List Sh)
  | 0, _, _ => none
  | _ + 1, _, [] => some []
  | d + 1, off, f :: fs =>
    if f.offset = off then
      match shT P d f.type, shFs P d (off + P.cellsOf f.type) fs with
      | some l, some r => if l.length = P.cellsOf f.type then some (l ++ r) else none
      | _, _ => none
    else none
end

section
variable {H : Type} {enc : TypeId × Value → H} {P : Program} {W : World} {base : Nat} {spare : Nat → Bool} {held : Bool}

theorem St.of_fit {s : Sh} {x : XC} (h : fit s x) : St x := by
  cases s <;> unfold fit at h
  · obtain ⟨n, rfl, _⟩ := h; trivial
  · obtain ⟨b, rfl⟩ := h; trivial
  · obtain ⟨s, rfl, _⟩ := h; trivial
  · obtain ⟨n, f, rfl, _⟩ := h; trivial

theorem fits.get : ∀ {l : List Sh} {xs : List XC}, fits l xs → ∀ (j : Nat) (x : XC), xs[j]? = some x → ∃ s, fit s x
  | [], [], _, j, x, e => by simp at e
  | s :: l, y :: ys, h, 0, x, e => by simp at e; exact ⟨s, e ▸ h.1⟩
  | s :: l, y :: ys, h, j + 1, x, e => fits.get h.2 j x (by simpa using e)
  | [], _ :: _, h, _, _, _ => h.elim
  | _ :: _, [], h, _, _, _ => h.elim

theorem getD_of {l : List XC} {j : Nat} {x : XC} (h : l[j]? = some x) : l.getD j .un = x := by simp [List.getD_eq_getElem?_getD, h]

/-- What the opener finds. -/
def Found (W : World) (l : List Sh) (cs : List Value) : Prop := ∃ xs, fits l xs ∧ RelL (rowEnv W) xs cs

theorem Found.append {l l' : List Sh} {cs cs' : List Value} (h : Found W l cs) (h' : Found W l' cs') : Found W (l ++ l') (cs ++ cs') := by
  obtain ⟨xs, h1, h2⟩ := h
  obtain ⟨xs', h3, h4⟩ := h'
  exact ⟨xs ++ xs', h1.append h3, h2.append h4⟩

theorem found_slice {a : Addr} {len cap z : Nat} {l : List Sh} (hl : len ≤ cap) (hm : cap ≤ maxLen) (hz : l.length = z)
    (h : ∀ i, i < len → ∃ cs', W.cells? base (a.add (i * z)) z = some cs' ∧ Found W l cs') : Found W [.sl l.length l] [.slice (some a) len cap] := by
  have hall : ∀ i, ∃ xs : List XC, i < len → fits l xs ∧ ∀ j, j < z → (rowBase W).B a.block ∧ ∃ u, W.cell? (a.add (i * z + j)) = some u ∧ RelC (rowEnv W) (xs.getD j .un) u := by
    intro i
    by_cases hi : i < len
    · obtain ⟨cs', hc, xs, hf, hr⟩ := h i hi
      obtain ⟨_, hcl, hat⟩ := World.cells?_some hc
      refine ⟨xs, fun _ => ⟨hf, fun j hj => ?_⟩⟩
      have hxl := hr.len
      have hxj : xs[j]? = some (xs[j]'(by omega)) := List.getElem?_eq_getElem (by omega)
      obtain ⟨u, hu, hru⟩ := hr.get j hxj
      have hcell := hat j hj
      rw [hu, add_add] at hcell
      refine ⟨?_, u, hcell, by rw [getD_of hxj]; exact hru⟩
      have := World.block_lt_of_cell? W _ hcell
      rwa [block_add] at this
    · exact ⟨[], fun h' => absurd h' hi⟩
  obtain ⟨G, hG⟩ := Classical.axiomOfChoice hall
  refine ⟨[.rs len z fun i j => (G i).getD j .un], ⟨?_, trivial⟩, ⟨⟨some a, cap, rfl, hl, hm, fun i hi => ⟨a, rfl, fun j hj => ?_⟩⟩, trivial⟩⟩
  · unfold fit
    refine ⟨len, _, by rw [hz], by omega, fun i hi => ?_⟩
    exact (hG i hi).1.fitF fun j hj => by simp
  · obtain ⟨hB, u, hu, hr⟩ := (hG i hi).2 j hj
    have hlen := (hG i hi).1.len
    have hx : (G i)[j]? = some ((G i)[j]'(by omega)) := List.getElem?_eq_getElem (by omega)
    refine ⟨hB, u, hu, ?_, hr⟩
    obtain ⟨s, hs⟩ := (hG i hi).1.get j _ hx
    show St ((G i).getD j .un)
    rw [getD_of hx]
    exact St.of_fit hs

theorem found_array {e : TypeId} {l : List Sh} {z : Nat} (hz : l.length = z) : ∀ (n : Nat) (cs : List Value), cs.length = n * z → (∀ i, i < n → Found W l ((cs.drop (i * z)).take z)) → Found W (List.replicate n l).flatten cs
  | 0, cs, hc, _ => by
    have : cs = [] := List.eq_nil_of_length_eq_zero (by simpa using hc)
    subst this
    exact ⟨[], trivial, trivial⟩
  | n + 1, cs, hc, h => by
    have h0 := h 0 (by omega)
    rw [Nat.zero_mul, List.drop_zero] at h0
    have hr := found_array (e := e) hz n (cs.drop z) (by rw [List.length_drop, hc, Nat.succ_mul]; omega) (fun i hi => by
      have := h (i + 1) (by omega)
      rw [List.drop_drop, Nat.add_comm z (i * z)]
      rw [Nat.succ_mul] at this
      exact this)
    rw [List.replicate_succ, List.flatten_cons]
    have := h0.append hr
    rwa [List.take_append_drop] at this

mutual
theorem shT_found : ∀ (d : Nat) {t : TypeId} {l : List Sh} {fuel : Nat} {cs : List Value} {x : DataW H × List MemPlace}, shT P d t = some l → DataW.trod enc P W base spare held fuel t cs = some x → Found W l cs
  | 0, t, l, fuel, cs, x, hs, h => by simp [shT] at hs
  | d + 1, t, l, fuel, cs, x, hs, h => by
    unfold shT at hs
    split at hs
    · rename_i k hu
      cases hs
      obtain ⟨n, rfl, _, hw⟩ := DataW.trod_int hu h
      exact ⟨[.i k n], ⟨by unfold fit; exact ⟨n, rfl, hw⟩, trivial⟩, ⟨rfl, trivial⟩⟩
    · rename_i hu
      cases hs
      obtain ⟨b, rfl, _⟩ := DataW.trod_bool hu h
      exact ⟨[.b b], ⟨by unfold fit; exact ⟨b, rfl⟩, trivial⟩, ⟨rfl, trivial⟩⟩
    · rename_i hu
      cases hs
      obtain ⟨s, rfl, _, hs⟩ := DataW.trod_string hu h
      exact ⟨[.v (.string s)], ⟨by unfold fit; exact ⟨s, rfl, hs⟩, trivial⟩, ⟨⟨rfl, rfl⟩, trivial⟩⟩
    · rename_i e hu
      split at hs
      case h_2 => cases hs
      rename_i l' hl'
      split at hs
      case isFalse => cases hs
      rename_i hlen
      cases hs
      rcases Go.Deep.open_slice hu h with ⟨rfl, _⟩ | ⟨a, len, cap, m, n, D, Pl, rfl, hb, hl, hm, hmm, _, hi⟩
      · refine ⟨[.rs 0 l'.length fun _ _ => .un], ⟨by unfold fit; exact ⟨0, _, rfl, by omega, fun i hi => by omega⟩, trivial⟩, ⟨⟨none, 0, rfl, by omega, by simp [maxLen], fun i hi => by omega⟩, trivial⟩⟩
      · refine found_slice (base := base) (z := P.cellsOf e) hl hm hlen fun i hil => ?_
        obtain ⟨cs', hc, ht⟩ := hi i (by rw [hmm]; split <;> omega)
        exact ⟨cs', hc, shT_found d hl' ht⟩
    · rename_i n e hu
      split at hs
      case h_2 => cases hs
      rename_i l' hl'
      split at hs
      case isFalse => cases hs
      rename_i hlen
      cases hs
      obtain ⟨xs, m, _, _, hcl, hxl, hi⟩ := DataW.trod_array hu h
      refine found_array (e := e) hlen.1 n cs (by rw [hcl, hlen.2]) fun i hin => ?_
      have := hi i hin
      have hx : xs[i]? = some (xs[i]'(by omega)) := List.getElem?_eq_getElem (by omega)
      rw [hx] at this
      exact shT_found d hl' this
    · rename_i fs hu
      split at hs
      case h_2 => cases hs
      rename_i l' hl'
      split at hs
      case isFalse => cases hs
      rename_i hlen
      cases hs
      obtain ⟨xs, n, _, _, hcl, hxl, hf⟩ := DataW.trod_struct hu h
      have := shFs_found d (off := 0) (n := n) (cs := cs) hl' (by rw [hcl, hlen]; omega) (fun i f hif => ⟨xs[i]'(by
        have := (List.getElem?_eq_some_iff.1 hif).1
        simp at this; omega), by
        have hlt : i < xs.length := by
          have := (List.getElem?_eq_some_iff.1 hif).1
          simp at this; omega
        rw [← List.getElem?_eq_getElem hlt]
        exact hf i f (by simpa using hif)⟩)
      simpa using this
    · cases hs
theorem shFs_found : ∀ (d : Nat) {off : Nat} {fs : List Field} {l : List Sh} {n : Nat} {cs : List Value}, shFs P d off fs = some l → cs.length = off + l.length →
    (∀ (i : Nat) (f : Field), fs[i]? = some f → ∃ x, DataW.trod enc P W base spare held n f.type ((cs.drop f.offset).take (P.cellsOf f.type)) = some x) → Found W l (cs.drop off)
  | 0, _, _, _, _, _, hs, _, _ => by simp [shFs] at hs
  | d + 1, off, [], l, n, cs, hs, hc, h => by
    simp [shFs] at hs
    subst hs
    have : cs.drop off = [] := List.drop_eq_nil_of_le (by simp at hc; omega)
    rw [this]
    exact ⟨[], trivial, trivial⟩
  | d + 1, off, f :: fs, l, n, cs, hs, hc, h => by
    unfold shFs at hs
    split at hs
    case isFalse => cases hs
    rename_i ho
    split at hs
    case h_2 => cases hs
    rename_i l1 l2 h1 h2
    split at hs
    case isFalse => cases hs
    rename_i hlen
    cases hs
    obtain ⟨x, hx⟩ := h 0 f rfl
    rw [ho] at hx
    have hA := shT_found d h1 hx
    have hB := shFs_found d (n := n) (cs := cs) h2 (by rw [hc, List.length_append, hlen]; omega) (fun i f' hf => h (i + 1) f' (by simpa using hf))
    have := hA.append hB
    rwa [← List.drop_drop, List.take_append_drop] at this
end

/-- A parameter of one cell. -/
theorem open_one {d : Nat} {t : TypeId} {s : Sh} {v : Value} {dd : DataW H} {p : List MemPlace} {b0 : Nat} (hs : shT P d t = some [s]) (hna : isAggT P t = false) (hv : Value.okWide P W .any b0 t v)
    (h : DataW.Trod enc P W base spare held t v dd p) : ∃ x, fit s x ∧ RelV (rowEnv W) (.c x) v := by
  obtain ⟨fuel, h⟩ := h
  obtain ⟨xs, hf, hr⟩ := shT_found d hs h
  match xs, hf with
  | [x], hf =>
    have hc : v.cells.toList = [v] := by
      cases v <;> first | rfl | skip
      rename_i vs
      exfalso
      cases hu : P.underlying t with
      | none => cases d <;> simp [shT, hu] at hs
      | some u => cases u <;> simp [isAggT, hu] at hna <;> simp [Value.okWide, hu, Cell.okWide, Cell.ok] at hv
    rw [hc] at hr
    exact ⟨x, hf.1, hr.1⟩
/-- A parameter that is a struct or an array. -/
theorem open_agg {d : Nat} {t : TypeId} {l : List Sh} {v : Value} {dd : DataW H} {p : List MemPlace} {b0 : Nat} (hs : shT P d t = some l) (hna : isAggT P t = true) (hv : Value.okWide P W .any b0 t v)
    (h : DataW.Trod enc P W base spare held t v dd p) : ∃ xs, fits l xs ∧ RelV (rowEnv W) (.a xs) v := by
  obtain ⟨fuel, h⟩ := h
  obtain ⟨xs, hf, hr⟩ := shT_found d hs h
  have hc : ∃ vs : Array Value, v = .agg vs := by
    cases hu : P.underlying t with
    | none => simp [isAggT, hu] at hna
    | some u => cases u <;> simp [isAggT, hu] at hna <;> (simp only [Value.okWide, hu] at hv; obtain ⟨cs, h1, _⟩ := hv; exact ⟨cs, h1⟩)
  obtain ⟨vs, rfl⟩ := hc
  exact ⟨xs, hf, vs, rfl, hr⟩
end
end Go.Eng
