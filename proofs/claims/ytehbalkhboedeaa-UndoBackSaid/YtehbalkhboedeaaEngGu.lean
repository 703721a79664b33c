/- The engine, part Gu: maps from whole numbers to rows of their own. Nothing of any program is proved here. -/
import Derived.Test.YtehbalkhboedeaaEngGq
import Derived.Test.YtehbalkhboedeaaEngGo
import Derived.Test.YtehbalkhboedeaaEngGn
import Derived.Test.YtehbalkhboedeaaEngX
namespace Go.Eng
open Go Go.RowKit
set_option linter.unusedSimpArgs false
set_option linter.unusedVariables false
set_option maxRecDepth 10000

/-! ### an item cut in two, and two melted into one -/
def cutE (E : Env) (n m it : Nat) (sv : Nat → Value) (S1 : Nat → Prop) (T : Nat → Nat → Prop) : Env :=
  { E with n := n + m, sl := fun k => if k < n then E.sl k else sv (k - n), ext := fun k => if k = it then S1 else if k < n then E.ext k else T (k - n) }
theorem Heap.cutA {w0 : Org} {F : Nat → Prop} {E : Env} {h : List It} {w : World} (hp : Heap w0 F E h w) {it : Nat} {A A1 : Abs} {tl : List It} (hx : h[it]? = some (.abs A)) (sv : Nat → Value) (S1 : Nat → Prop) (T : Nat → Nat → Prop)
    (h1 : A1.is E.bs (E.sl it) S1 w) (o1 : ∀ b, S1 b → E.ext it b)
    (ht : ∀ j y, tl[j]? = some y → ItOk (cutE E h.length tl.length it sv S1 T) w (h.length + j) y ∧ ∀ b, Ow (cutE E h.length tl.length it sv S1 T) (h.length + j) y b → E.ext it b ∧ ¬ S1 b)
    (hs : ∀ i j x y b, tl[i]? = some x → tl[j]? = some y → Ow (cutE E h.length tl.length it sv S1 T) (h.length + i) x b → Ow (cutE E h.length tl.length it sv S1 T) (h.length + j) y b → i = j) :
    Heap w0 F (cutE E h.length tl.length it sv S1 T) (h.set it (.abs A1) ++ tl) w ∧ EnvC E (cutE E h.length tl.length it sv S1 T) := by
  have hit : it < h.length := (List.getElem?_eq_some_iff.1 hx).1
  have hn := hp.n
  have hc : EnvC E (cutE E h.length tl.length it sv S1 T) := ⟨by show E.n ≤ h.length + tl.length; omega, fun _ _ => rfl, fun k hk => by
    show (if k < h.length then E.sl k else _) = _
    rw [if_pos (by omega)], fun _ h => ⟨h, rfl⟩⟩
  refine ⟨hp.remix rfl (by simp [cutE]) (Gst.id hc) (fun k => k < h.length ∧ k ≠ it) (fun k y hy hk => ?_) (fun k y hy hk => ?_) (fun j k x y b hjx hky hj hk hb hb' => ?_), hc⟩
  · rcases at_append hy with ⟨_, hy⟩ | ⟨hk', _⟩
    · rcases at_set hy with ⟨e, _⟩ | ⟨_, hy⟩
      · exact absurd e hk.2
      · refine ⟨y, hy, (gIt_id y).symm, rfl, ?_, ?_⟩
        · show (if k < h.length then E.sl k else _) = _
          rw [if_pos hk.1]
        · show (if k = it then S1 else if k < h.length then E.ext k else _) = _
          rw [if_neg hk.2, if_pos hk.1]
    · rw [List.length_set] at hk'; omega
  · rcases at_append hy with ⟨hk', hy⟩ | ⟨hk', hy⟩
    · rcases at_set hy with ⟨e, rfl, _⟩ | ⟨e, _⟩
      · subst e
        have e1 : (cutE E h.length tl.length k sv S1 T).sl k = E.sl k := by simp [cutE, hit]
        have e2 : (cutE E h.length tl.length k sv S1 T).ext k = S1 := by simp [cutE]
        refine ⟨?_, fun b hb => ⟨k, _, fun h => h.2 rfl, hx, ?_⟩⟩
        · show A1.is E.bs ((cutE E h.length tl.length k sv S1 T).sl k) ((cutE E h.length tl.length k sv S1 T).ext k) w
          rw [e1, e2]; exact h1
        · have hb : (cutE E h.length tl.length k sv S1 T).ext k b := hb
          rw [e2] at hb
          exact o1 b hb
      · rw [List.length_set] at hk'; exact absurd ⟨hk', e⟩ hk
    · rw [List.length_set] at hk' hy
      obtain ⟨a1, a2⟩ := ht _ y hy
      rw [show h.length + (k - h.length) = k by omega] at a1 a2
      exact ⟨a1, fun b hb => ⟨it, _, fun h => h.2 rfl, hx, (a2 b hb).1⟩⟩
  · have st : ∀ {j : Nat} {x : It}, (h.set it (.abs A1) ++ tl)[j]? = some x → ¬ (j < h.length ∧ j ≠ it) → (j = it ∧ x = .abs A1) ∨ (h.length ≤ j ∧ tl[j - h.length]? = some x) := fun {j x} hy hk => by
      rcases at_append hy with ⟨hk', hy⟩ | ⟨hk', hy⟩
      · rcases at_set hy with ⟨e, e2, _⟩ | ⟨e, _⟩
        · exact .inl ⟨e, e2⟩
        · rw [List.length_set] at hk'; exact absurd ⟨hk', e⟩ hk
      · rw [List.length_set] at hk' hy; exact .inr ⟨hk', hy⟩
    have e2 : (cutE E h.length tl.length it sv S1 T).ext it = S1 := by simp [cutE]
    rcases st hjx hj with ⟨ej, exj⟩ | ⟨ej, exj⟩ <;> rcases st hky hk with ⟨ek, exk⟩ | ⟨ek, exk⟩
    · rw [ej, ek]
    · exfalso
      rw [ej, exj] at hb
      have hb : (cutE E h.length tl.length it sv S1 T).ext it b := hb
      rw [e2] at hb
      have := (ht _ y exk).2 b
      rw [show h.length + (k - h.length) = k by omega] at this
      exact (this hb').2 hb
    · exfalso
      rw [ek, exk] at hb'
      have hb' : (cutE E h.length tl.length it sv S1 T).ext it b := hb'
      rw [e2] at hb'
      have := (ht _ x exj).2 b
      rw [show h.length + (j - h.length) = j by omega] at this
      exact (this hb).2 hb'
    · have := hs (j - h.length) (k - h.length) x y b exj exk
      rw [show h.length + (j - h.length) = j by omega, show h.length + (k - h.length) = k by omega] at this
      have := this hb hb'
      omega

theorem Heap.meltA {w0 : Org} {F : Nat → Prop} {E : Env} {h : List It} {w : World} (hp : Heap w0 F E h w) {it : Nat} {A A1 : Abs} (js : List Nat) (hj : it ∉ js) (hx : h[it]? = some (.abs A1)) (S : Nat → Prop) (h1 : A.is E.bs (E.sl it) S w)
    (hS : ∀ b, S b → ∃ k x, (k = it ∨ k ∈ js) ∧ h[k]? = some x ∧ Ow E k x b) :
    ∃ E2, Heap w0 F E2 (killAt js (h.set it (.abs A))) w ∧ EnvC E E2 := by
  let E2 : Env := { E with ext := fun k => if k = it then S else E.ext k }
  have hc : EnvC E E2 := ⟨Nat.le_refl _, fun _ _ => rfl, fun _ _ => rfl, fun _ h => ⟨h, rfl⟩⟩
  have hxi : E2.ext it = S := by simp [E2]
  refine ⟨E2, hp.remix rfl (by rw [killAt_len]; simp [E2, hp.n]) (Gst.id hc) (fun k => k ≠ it ∧ k ∉ js) (fun k y hy hk => ?_) (fun k y hy hk => ?_) (fun j k x y b hjx hky hj hk hb hb' => ?_), hc⟩
  · rcases killAt_get hy with ⟨e, _⟩ | ⟨_, hy⟩
    · exact absurd e hk.2
    · rcases at_set hy with ⟨e, _⟩ | ⟨_, hy⟩
      · exact absurd e hk.1
      · exact ⟨y, hy, (gIt_id y).symm, rfl, rfl, by simp [E2, hk.1]⟩
  · rcases killAt_get hy with ⟨e, rfl⟩ | ⟨e, hy⟩
    · exact ⟨trivial, fun b hb => hb.elim⟩
    · rcases at_set hy with ⟨rfl, rfl, _⟩ | ⟨h2, _⟩
      · refine ⟨?_, fun b hb => ?_⟩
        · show A.is E.bs (E.sl k) (E2.ext k) w
          rw [hxi]; exact h1
        · have hb : E2.ext k b := hb
          rw [hxi] at hb
          obtain ⟨k', x, h3, h4, h5⟩ := hS b hb
          exact ⟨k', x, fun h => by rcases h3 with h3 | h3; exact h.1 h3; exact h.2 h3, h4, h5⟩
      · exact absurd ⟨h2, e⟩ hk
  · rcases killAt_get hjx with ⟨_, rfl⟩ | ⟨h1, hjx⟩
    · exact hb.elim
    · rcases killAt_get hky with ⟨_, rfl⟩ | ⟨h2, hky⟩
      · exact hb'.elim
      · have e1 : j = it := Classical.byContradiction fun e => hj ⟨e, h1⟩
        have e2 : k = it := Classical.byContradiction fun e => hk ⟨e, h2⟩
        rw [e1, e2]

/-! ### rows by their values -/
def envV (bs : Base) (v : Value) : Env := ⟨bs, 1, fun _ => 0, fun _ => v, fun _ _ => False⟩
/-- An own row, by its value. -/
def RowAt (bs : Base) (w : World) (e z : Nat) (v : Value) (xs : List (List XC)) : Prop := ItOk (envV bs v) w 0 (.row e z xs)
theorem RowAt.of {E : Env} {w : World} {k e z : Nat} {xs : List (List XC)} {v : Value} (h : ItOk E w k (.row e z xs)) (hv : E.sl k = v) : RowAt E.bs w e z v xs := by
  subst hv
  obtain ⟨ys, h1, h2, h3, h4⟩ := h
  exact ⟨ys, h1, RelL.ofSt (E := E) (E' := envV E.bs (E.sl k)) rfl h4 h2, h3, h4⟩
theorem RowAt.to {E : Env} {w : World} {k e z : Nat} {xs : List (List XC)} {bs : Base} {v : Value} (h : RowAt bs w e z v xs) (hb : E.bs = bs) (hv : E.sl k = v) : ItOk E w k (.row e z xs) := by
  subst hb; subst hv
  obtain ⟨ys, h1, h2, h3, h4⟩ := h
  exact ⟨ys, h1, RelL.ofSt (E := envV E.bs (E.sl k)) (E' := E) rfl h4 h2, h3, h4⟩
theorem RowAt.st {bs bs' : Base} {w w' : World} {e z : Nat} {v : Value} {xs : List (List XC)} (hb : ∀ b, bs.B b → bs'.B b ∧ bs'.wb.heap[b]? = bs.wb.heap[b]?) (hw : ∀ b, v.ownBlock = some b → w'.heap[b]? = w.heap[b]?) (h : RowAt bs w e z v xs) : RowAt bs' w' e z v xs :=
  ItOk.mono (E := envV bs v) (E' := envV bs' v) ⟨Nat.le_refl _, fun _ _ => rfl, fun _ _ => rfl, fun _ _ => rfl, hb⟩ Nat.one_pos (ItOk.of_block h fun b hb => hw b hb)
/-- A row's block is no map's. -/
theorem RowAt.cells {bs : Base} {w : World} {e z : Nat} {v : Value} {xs : List (List XC)} (h : RowAt bs w e z v xs) {b : Nat} (hb : v.ownBlock = some b) {es : Array MapEntry} {cl : Nat} : w.heap[b]? ≠ some (.map es cl) := by
  obtain ⟨ys, how, _⟩ := h
  rcases how.2 with ⟨h1, _⟩ | ⟨g, cap, cur, h1, _, h2, _⟩
  · have h1 : v = .slice none 0 0 := h1
    rw [h1] at hb; simp [Value.ownBlock] at hb
  · have h1 : v = _ := h1
    rw [h1] at hb
    have : g = b := by simpa [Value.ownBlock] using hb
    subst this
    rw [h2]; intro e; cases e
/-- Rows of their own, each at its key. -/
def RowsA (e z : Nat) (D : List (List Int)) (vv : List Int → Value) (R : List Int → List (List XC)) : Abs where
  is bs v S w := v.oneCell' = true ∧ (∀ q ∈ D, RowAt bs w e z (vv q) (R q) ∧ ∀ b, (vv q).ownBlock = some b → S b) ∧ ∀ q ∈ D, ∀ q' ∈ D, ∀ b, (vv q).ownBlock = some b → (vv q').ownBlock = some b → q = q'
  one h := h.1
  st hb hw h := ⟨h.1, fun q hq => ⟨(h.2.1 q hq).1.st hb fun b hb' => hw b ((h.2.1 q hq).2 b hb'), (h.2.1 q hq).2⟩, h.2.2⟩
/-- Which keys there are. -/
def DomOk {α : Type} (g : Int → List α) (dom : List (List Int)) : Prop := (∀ k, [k] ∈ dom ↔ g k ≠ []) ∧ (∀ q ∈ dom, q.length = 1) ∧ dom.Nodup
abbrev rowsG {α : Type} (enc : α → List XC) (g : Int → List α) : List Int → List (List XC) := fun q => (g (q.headD 0)).map enc
abbrev mapV (dom : List (List Int)) (vv : List Int → Value) : Abs := MapA false [.i64] false 1 dom fun q => [.v (vv q)]
/-- A map that has a row of its own at each key at which g has anything. -/
def LogG {α : Type} (e z : Nat) (enc : α → List XC) (g : Int → List α) : Abs where
  is bs v S w := ∃ dom vv, DomOk g dom ∧ (mapV dom vv).is bs v S w ∧ (RowsA e z dom vv (rowsG enc g)).is bs (.slice none 0 0) S w
  one h := by obtain ⟨dom, vv, _, h, _⟩ := h; exact (mapV dom vv).one h
  st hb hw h := by obtain ⟨dom, vv, h1, h2, h3⟩ := h; exact ⟨dom, vv, h1, (mapV dom vv).st hb hw h2, (RowsA ..).st hb hw h3⟩

/-- Items said anew: whatever comes of it, K holds. -/
def SplP (h : List It) (Pm : (List It → Prop) → Prop) : Prop := ∀ w0 F E w, Heap w0 F E h w → ∀ K, Pm K → ∃ h2 E2, K h2 ∧ Heap w0 F E2 h2 w ∧ EnvC E E2

theorem mapV_blk {bs : Base} {v : Value} {S : Nat → Prop} {w : World} {dom : List (List Int)} {vv : List Int → Value} (h : (mapV dom vv).is bs v S w) : ∃ b es cl, v = .map (some b) ∧ S b ∧ w.heap[b]? = some (.map es cl) ∧ (mapV dom vv).is bs v (fun c => c = b) w := by
  obtain ⟨b, es, cl, h1, h2, h3, h4⟩ := h
  exact ⟨b, es, cl, h1, h2, h3, b, es, cl, h1, rfl, h3, h4⟩
section
variable {α : Type} {h : List It} {it e z : Nat} {enc : α → List XC} {g : Int → List α}
theorem openOut (hx : itemAt h it = .abs (LogG e z enc g)) :
    SplP h fun K => ∀ dom vv, DomOk g dom → setH h it (.abs (mapV dom vv)) fun h => appH h [.abs (RowsA e z dom vv (rowsG enc g))] K := by
  intro w0 F E w hp K hK
  have hx := itemAt_eq _ _ hx (by simp)
  obtain ⟨dom, vv, hd, hm, hr⟩ := hp.ok it _ hx
  obtain ⟨b0, es, cl, hv, hS, hw, hm⟩ := mapV_blk hm
  have hK := hK dom vv hd
  rw [setH_eq, appH_eq] at hK
  have hit : it < h.length := (List.getElem?_eq_some_iff.1 hx).1
  refine (fun hc => ⟨_, _, hK, And.left hc, And.right hc⟩) (hp.cutA (A1 := mapV dom vv) (tl := [.abs (RowsA e z dom vv (rowsG enc g))]) hx (fun _ => .slice none 0 0) (fun c => c = b0) (fun _ b => ∃ q ∈ dom, (vv q).ownBlock = some b) hm (fun b hb => hb ▸ hS) (fun j y hy => ?_) (fun i j x y b hi hj _ _ => ?_))
  · match j, hy with
    | 0, hy =>
      obtain rfl : _ = y := by simpa using hy
      have e1 : (cutE E h.length 1 it (fun _ => .slice none 0 0) (fun c => c = b0) (fun _ b => ∃ q ∈ dom, (vv q).ownBlock = some b)).ext (h.length + 0) = fun b => ∃ q ∈ dom, (vv q).ownBlock = some b := by
        simp [cutE, show h.length ≠ it by omega]
      have e2 : (cutE E h.length 1 it (fun _ => .slice none 0 0) (fun c => c = b0) (fun _ b => ∃ q ∈ dom, (vv q).ownBlock = some b)).sl (h.length + 0) = .slice none 0 0 := by
        simp [cutE]
      refine ⟨?_, fun b hb => ?_⟩
      · show (RowsA e z dom vv (rowsG enc g)).is E.bs _ _ w
        rw [show [It.abs (RowsA e z dom vv (rowsG enc g))].length = 1 from rfl, e1, e2]
        exact ⟨rfl, fun q hq => ⟨(hr.2.1 q hq).1, fun b hb => ⟨q, hq, hb⟩⟩, hr.2.2⟩
      · have hb : (cutE E h.length 1 it (fun _ => .slice none 0 0) (fun c => c = b0) (fun _ b => ∃ q ∈ dom, (vv q).ownBlock = some b)).ext (h.length + 0) b := hb
        rw [e1] at hb
        obtain ⟨q, hq, hb⟩ := hb
        exact ⟨(hr.2.1 q hq).2 b hb, fun e => (hr.2.1 q hq).1.cells hb (by rw [e]; exact hw)⟩
    | j + 1, hy => simp at hy
  · have h1 := (List.getElem?_eq_some_iff.1 hi).1
    have h2 := (List.getElem?_eq_some_iff.1 hj).1
    simp at h1 h2; omega
theorem openIn (k : Int) (hx : itemAt h it = .abs (LogG e z enc g)) (hk : g k ≠ []) :
    SplP h fun K => ∀ dom vv, DomOk g dom → [k] ∈ dom → lenK h fun n => setH h it (.abs (mapV dom vv)) fun h => appH h [.abs (RowsA e z (dom.filter fun q => q != [k]) vv (rowsG enc g)), .row e z ((g k).map enc), .held [vv [k]] [.c (.ow (n + 1))]] K := by
  intro w0 F E w hp K hK
  have hx := itemAt_eq _ _ hx (by simp)
  obtain ⟨dom, vv, hd, hm, hr⟩ := hp.ok it _ hx
  obtain ⟨b0, es, cl, hv, hS, hw, hm⟩ := mapV_blk hm
  have hkd : [k] ∈ dom := (hd.1 k).2 hk
  have hK := hK dom vv hd hkd
  rw [lenK_eq, setH_eq, appH_eq] at hK
  have hit : it < h.length := (List.getElem?_eq_some_iff.1 hx).1
  let sv : Nat → Value := fun j => if j = 1 then vv [k] else .slice none 0 0
  let T : Nat → Nat → Prop := fun _ b => ∃ q ∈ dom, q ≠ [k] ∧ (vv q).ownBlock = some b
  let E2 := cutE E h.length 3 it sv (fun c => c = b0) T
  have x0 : E2.ext (h.length + 0) = fun b => ∃ q ∈ dom, q ≠ [k] ∧ (vv q).ownBlock = some b := by
    simp [E2, T, cutE, show h.length ≠ it by omega]
  have s0 : E2.sl (h.length + 0) = .slice none 0 0 := by simp [E2, sv, cutE]
  have s1 : E2.sl (h.length + 1) = vv [k] := by
    show (if h.length + 1 < h.length then _ else sv (h.length + 1 - h.length)) = _
    rw [if_neg (by omega), show h.length + 1 - h.length = 1 by omega]; rfl
  have far : ∀ q ∈ dom, ∀ b, (vv q).ownBlock = some b → E.ext it b ∧ ¬ b = b0 := fun q hq b hb => ⟨(hr.2.1 q hq).2 b hb, fun e => by subst e; exact (hr.2.1 q hq).1.cells hb hw⟩
  refine (fun hc => ⟨_, _, hK, And.left hc, And.right hc⟩) (hp.cutA (A1 := mapV dom vv) (tl := [.abs (RowsA e z (dom.filter fun q => q != [k]) vv (rowsG enc g)), .row e z ((g k).map enc), .held [vv [k]] [.c (.ow (h.length + 1))]]) hx sv (fun c => c = b0) T hm (fun b hb => hb ▸ hS) (fun j y hy => ?_) (fun i j x y b hi hj hib hjb => ?_))
  · match j, hy with
    | 0, hy =>
      obtain rfl : _ = y := by simpa using hy
      refine ⟨?_, fun b hb => ?_⟩
      · show (RowsA e z (dom.filter fun q => q != [k]) vv (rowsG enc g)).is E.bs (E2.sl (h.length + 0)) (E2.ext (h.length + 0)) w
        rw [x0, s0]
        exact ⟨rfl, fun q hq => ⟨(hr.2.1 q (List.mem_filter.1 hq).1).1, fun b hb => ⟨q, (List.mem_filter.1 hq).1, by simpa using (List.mem_filter.1 hq).2, hb⟩⟩, fun q hq q' hq' => hr.2.2 q (List.mem_filter.1 hq).1 q' (List.mem_filter.1 hq').1⟩
      · have hb : E2.ext (h.length + 0) b := hb
        rw [x0] at hb
        obtain ⟨q, hq, _, hb⟩ := hb
        exact far q hq b hb
    | 1, hy =>
      obtain rfl : _ = y := by simpa using hy
      refine ⟨(hr.2.1 [k] hkd).1.to (E := E2) (k := h.length + 1) rfl s1, fun b hb => ?_⟩
      have hb : (E2.sl (h.length + 1)).ownBlock = some b := hb
      rw [s1] at hb
      exact far _ hkd b hb
    | 2, hy =>
      obtain rfl : _ = y := by simpa using hy
      refine ⟨?_, fun b hb => hb.elim⟩
      show RelTs E2 [.c (.ow (h.length + 1))] [vv [k]]
      refine ⟨⟨?_, s1.symm, ?_⟩, trivial⟩
      · show h.length + 1 < h.length + 3; omega
      · exact RelC.one (E := E2) (x := .un) (by
          obtain ⟨ys, how, _⟩ := (hr.2.1 [k] hkd).1
          rcases how.2 with ⟨h1, _⟩ | ⟨g, cap, cur, h1, _⟩
          · have h1 : vv [k] = _ := h1
            rw [h1]; rfl
          · have h1 : vv [k] = _ := h1
            rw [h1]; rfl)
    | j + 3, hy => simp at hy
  · have none2 : ∀ {y : It} {b : Nat}, [It.abs (RowsA e z (dom.filter fun q => q != [k]) vv (rowsG enc g)), .row e z ((g k).map enc), .held [vv [k]] [.c (.ow (h.length + 1))]][2]? = some y → ¬ Ow E2 (h.length + 2) y b := fun {y b} hy hb => by
      obtain rfl : _ = y := by simpa using hy
      exact hb
    have zero : ∀ {y : It} {b : Nat}, [It.abs (RowsA e z (dom.filter fun q => q != [k]) vv (rowsG enc g)), .row e z ((g k).map enc), .held [vv [k]] [.c (.ow (h.length + 1))]][0]? = some y → Ow E2 (h.length + 0) y b → ∃ q ∈ dom, q ≠ [k] ∧ (vv q).ownBlock = some b := fun {y b} hy hb => by
      obtain rfl : _ = y := by simpa using hy
      have hb : E2.ext (h.length + 0) b := hb
      rwa [x0] at hb
    have one : ∀ {y : It} {b : Nat}, [It.abs (RowsA e z (dom.filter fun q => q != [k]) vv (rowsG enc g)), .row e z ((g k).map enc), .held [vv [k]] [.c (.ow (h.length + 1))]][1]? = some y → Ow E2 (h.length + 1) y b → (vv [k]).ownBlock = some b := fun {y b} hy hb => by
      obtain rfl : _ = y := by simpa using hy
      have hb : (E2.sl (h.length + 1)).ownBlock = some b := hb
      rwa [s1] at hb
    have apart : ∀ b, (∃ q ∈ dom, q ≠ [k] ∧ (vv q).ownBlock = some b) → (vv [k]).ownBlock = some b → False := fun b ⟨q, hq, hne, hb⟩ hb' => hne (hr.2.2 q hq [k] hkd b hb hb')
    have hl1 := (List.getElem?_eq_some_iff.1 hi).1
    have hl2 := (List.getElem?_eq_some_iff.1 hj).1
    simp only [List.length_cons, List.length_nil] at hl1 hl2
    match i, j, hi, hj, hib, hjb, hl1, hl2 with
    | 0, 0, _, _, _, _, _, _ => rfl
    | 1, 1, _, _, _, _, _, _ => rfl
    | 2, _, hi, _, hib, _, _, _ => exact (none2 hi hib).elim
    | _, 2, _, hj, _, hjb, _, _ => exact (none2 hj hjb).elim
    | 0, 1, hi, hj, hib, hjb, _, _ => exact (apart b (zero hi hib) (one hj hjb)).elim
    | 1, 0, hi, hj, hib, hjb, _, _ => exact (apart b (zero hj hjb) (one hi hib)).elim
    | i + 3, _, _, _, _, _, h, _ => omega
    | _, j + 3, _, _, _, _, _, h => omega
theorem closeRow {dom : List (List Int)} {val : List Int → List XC} {D : List (List Int)} {vv : List Int → Value} {xs : List (List XC)} {u : Value} (n r hd : Nat) (k : Int) (g' : Int → List α)
    (hit : itemAt h it = .abs (MapA false [.i64] false 1 dom val)) (hn : itemAt h n = .abs (RowsA e z D vv (rowsG enc g))) (hr : itemAt h r = .row e z xs) (hh : itemAt h hd = .held [u] [.c (.ow r)]) (hne : (n == it) = false)
    (hval : ∀ q ∈ dom, val q = [.v (if q = [k] then u else vv q)]) (hD : ∀ q ∈ dom, q ≠ [k] → q ∈ D) (hxs : xs = (g' k).map enc) (hg : ∀ j, j ≠ k → g' j = g j) (hd' : DomOk g' dom) :
    SplP h fun K => setH h it (.abs (LogG e z enc g')) fun h => killAtK [n, r, hd] h K := by
  intro w0 F E w hp K hK
  rw [setH_eq, killAtK_eq] at hK
  have hit := itemAt_eq _ _ hit (by simp)
  have hn := itemAt_eq _ _ hn (by simp)
  have hr := itemAt_eq _ _ hr (by simp)
  have hh := itemAt_eq _ _ hh (by simp)
  have hmap := hp.ok it _ hit
  have hrows := hp.ok n _ hn
  have hrow := hp.ok r _ hr
  have hheld : RelTs E [.c (.ow r)] [u] := hp.ok hd _ hh
  have hu : u = E.sl r := hheld.1.2.1
  have hnr : n ≠ r := fun e => by rw [e] at hn; rw [hn] at hr; simp at hr
  have hitr : it ≠ r := fun e => by rw [e] at hit; rw [hit] at hr; simp at hr
  have hith : it ≠ hd := fun e => by rw [e] at hit; rw [hit] at hh; simp at hh
  have hne : n ≠ it := by simpa using hne
  let S : Nat → Prop := fun b => E.ext it b ∨ E.ext n b ∨ (E.sl r).ownBlock = some b
  let vv' : List Int → Value := fun q => if q = [k] then u else vv q
  obtain ⟨b0, es, cl, e1, e2, e3, e4, e5⟩ := hmap
  have hq1 : ∀ q ∈ dom, q ≠ [k] → rowsG enc g' q = rowsG enc g q := fun q hq hne => by
    have h1 := hd'.2.1 q hq
    match q, h1 with
    | [j], _ =>
      have : j ≠ k := fun e => hne (by rw [e])
      show (g' j).map enc = (g j).map enc
      rw [hg j this]
  have key : (LogG e z enc g').is E.bs (E.sl it) S w := by
    refine ⟨dom, vv', hd', ⟨b0, es, cl, e1, .inl e2, e3, e4.mono fun q hq => (hval q hq).symm, e5⟩, rfl, fun q hq => ?_, fun q hq q' hq' b hb hb' => ?_⟩
    · by_cases hqk : q = [k]
      · subst hqk
        have : vv' [k] = E.sl r := by simp [vv', hu]
        rw [this]
        refine ⟨?_, fun b hb => .inr (.inr hb)⟩
        show RowAt E.bs w e z (E.sl r) ((g' k).map enc)
        rw [← hxs]; exact RowAt.of hrow rfl
      · have : vv' q = vv q := by simp [vv', hqk]
        rw [this, hq1 q hq hqk]
        have h1 := hrows.2.1 q (hD q hq hqk)
        exact ⟨h1.1, fun b hb => .inr (.inl (h1.2 b hb))⟩
    · by_cases hqk : q = [k] <;> by_cases hqk' : q' = [k]
      · rw [hqk, hqk']
      · exfalso
        have h1 : vv' q = E.sl r := by simp [vv', hqk, hu]
        have h2 : vv' q' = vv q' := by simp [vv', hqk']
        rw [h1] at hb; rw [h2] at hb'
        exact hnr (hp.sep n r _ _ b hn hr ((hrows.2.1 q' (hD q' hq' hqk')).2 b hb') hb)
      · exfalso
        have h1 : vv' q' = E.sl r := by simp [vv', hqk', hu]
        have h2 : vv' q = vv q := by simp [vv', hqk]
        rw [h1] at hb'; rw [h2] at hb
        exact hnr (hp.sep n r _ _ b hn hr ((hrows.2.1 q (hD q hq hqk)).2 b hb) hb')
      · have h1 : vv' q = vv q := by simp [vv', hqk]
        have h2 : vv' q' = vv q' := by simp [vv', hqk']
        rw [h1] at hb; rw [h2] at hb'
        exact hrows.2.2 q (hD q hq hqk) q' (hD q' hq' hqk') b hb hb'
  obtain ⟨E2, h1, h2⟩ := hp.meltA [n, r, hd] (by simp; exact ⟨fun e => hne e.symm, hitr, hith⟩) hit S key (fun b hb => by
    rcases hb with hb | hb | hb
    · exact ⟨it, _, .inl rfl, hit, hb⟩
    · exact ⟨n, _, .inr (by simp), hn, hb⟩
    · exact ⟨r, _, .inr (by simp), hr, hb⟩)
  exact ⟨_, E2, hK, h1, h2⟩
theorem closeNone {dom : List (List Int)} {val : List Int → List XC} {D : List (List Int)} {vv : List Int → Value} (n : Nat) (g' : Int → List α)
    (hit : itemAt h it = .abs (MapA false [.i64] false 1 dom val)) (hn : itemAt h n = .abs (RowsA e z D vv (rowsG enc g))) (hne : (n == it) = false)
    (hval : ∀ q ∈ dom, val q = [.v (vv q)]) (hD : ∀ q ∈ dom, q ∈ D) (hg : ∀ j, g' j ≠ [] → g' j = g j) (hd' : DomOk g' dom) :
    SplP h fun K => setH h it (.abs (LogG e z enc g')) fun h => killAtK [n] h K := by
  intro w0 F E w hp K hK
  rw [setH_eq, killAtK_eq] at hK
  have hit := itemAt_eq _ _ hit (by simp)
  have hn := itemAt_eq _ _ hn (by simp)
  have hmap := hp.ok it _ hit
  have hrows := hp.ok n _ hn
  have hne : n ≠ it := by simpa using hne
  let S : Nat → Prop := fun b => E.ext it b ∨ E.ext n b
  obtain ⟨b0, es, cl, e1, e2, e3, e4, e5⟩ := hmap
  have hq1 : ∀ q ∈ dom, rowsG enc g' q = rowsG enc g q := fun q hq => by
    have h1 := hd'.2.1 q hq
    match q, h1, hq with
    | [j], _, hq =>
      show (g' j).map enc = (g j).map enc
      rw [hg j ((hd'.1 j).1 hq)]
  have key : (LogG e z enc g').is E.bs (E.sl it) S w := by
    refine ⟨dom, vv, hd', ⟨b0, es, cl, e1, .inl e2, e3, e4.mono fun q hq => (hval q hq).symm, e5⟩, rfl, fun q hq => ?_, fun q hq q' hq' => hrows.2.2 q (hD q hq) q' (hD q' hq')⟩
    rw [hq1 q hq]
    have h1 := hrows.2.1 q (hD q hq)
    exact ⟨h1.1, fun b hb => .inr (h1.2 b hb)⟩
  obtain ⟨E2, h1, h2⟩ := hp.meltA [n] (by simp; exact fun e => hne e.symm) hit S key (fun b hb => by
    rcases hb with hb | hb
    · exact ⟨it, _, .inl rfl, hit, hb⟩
    · exact ⟨n, _, .inr (by simp), hn, hb⟩)
  exact ⟨_, E2, hK, h1, h2⟩
end

/-! ### wherever the walk stops -/
section
variable {C : Cx} {ts : List XV} {h : List It} {Pm : (List It → Prop) → Prop}
theorem gVs_id (ts : List XV) : ts.map (gV fun x => x) = ts := by rw [List.map_congr_left (fun x _ => gV_id x)]; exact List.map_id _
theorem cfg_spl {w0 : Org} {F : Nat → Prop} {a : Act} {w : World} {K : List It → Prop} (hs : SplP h Pm) (hK : Pm K) (hc : Cfg w0 F ts h a w) : ∃ h2, K h2 ∧ Cfg w0 F ts h2 a w := by
  obtain ⟨w1, F1, hsub, hd, E, hr, hp⟩ := hc
  obtain ⟨h2, E2, hk, hp2, hE⟩ := hs w1 F1 E w hp K hK
  have := (Gst.id hE).ts hr
  rw [gVs_id] at this
  exact ⟨h2, hk, w1, F1, hsub, hd, E2, this, hp2⟩
theorem loopx_spl {b : Code} {Q : KQ} (hs : SplP h Pm) (hh : Pm fun h2 => LoopX C b Q ts h2) : LoopX C b Q ts h := by
  unfold LoopX
  intro w0 F Q' a w hQ hc
  obtain ⟨h2, hk, hc2⟩ := cfg_spl hs hh hc
  have hk : LoopX C b Q ts h2 := hk
  unfold LoopX at hk
  exact hk w0 F Q' a w hQ hc2
theorem scopex_spl {b : Code} {Q : KQ} (hs : SplP h Pm) (hh : Pm fun h2 => ScopeX C b Q ts h2) : ScopeX C b Q ts h := by
  unfold ScopeX
  intro w0 F Q' a w hQ hc
  obtain ⟨h2, hk, hc2⟩ := cfg_spl hs hh hc
  have hk : ScopeX C b Q ts h2 := hk
  unfold ScopeX at hk
  exact hk w0 F Q' a w hQ hc2
theorem drawx_spl {id : Nat} {ops : List Oper} {Q : KS} (hs : SplP h Pm) (hh : Pm fun h2 => DrawX C id ops Q ts h2) : DrawX C id ops Q ts h := by
  unfold DrawX
  intro w0 F Q' a w hQ hc
  obtain ⟨h2, hk, hc2⟩ := cfg_spl hs hh hc
  have hk : DrawX C id ops Q ts h2 := hk
  unfold DrawX at hk
  exact hk w0 F Q' a w hQ hc2
theorem regx_spl {id : Nat} {ops : List Oper} {Q : KQ} (hs : SplP h Pm) (hh : Pm fun h2 => RegX C id ops Q ts h2) : RegX C id ops Q ts h := by
  unfold RegX
  intro w0 F Q' a w hQ hc
  obtain ⟨h2, hk, hc2⟩ := cfg_spl hs hh hc
  have hk : RegX C id ops Q ts h2 := hk
  unfold RegX at hk
  exact hk w0 F Q' a w hQ hc2
theorem labx_spl {Q : KS} (hs : SplP h Pm) (hh : Pm fun h2 => LabX Q ts h2) : LabX Q ts h := by
  unfold LabX
  intro w0 F a w hc
  obtain ⟨h2, hk, hc2⟩ := cfg_spl hs hh hc
  have hk : LabX Q ts h2 := hk
  unfold LabX at hk
  exact hk w0 F a w hc2
theorem opx_spl {o : Oper} {k : KE} (hnd : ∀ c, o.op ≠ .defer c) (hs : SplP h Pm) (hh : Pm fun h2 => OpX C o ts h2 k) : OpX C o ts h k := by
  unfold OpX
  refine ⟨hnd, fun w0 F E w a hr hp => ?_⟩
  obtain ⟨h2, E2, hk, hp2, hE⟩ := hs w0 F E w hp _ hh
  have hk : OpX C o ts h2 k := hk
  unfold OpX at hk
  have := (Gst.id hE).ts hr
  rw [gVs_id] at this
  exact hk.2 w0 F E2 w a this hp2
theorem callx_spl {f : FuncId} {args : List XV} {k : KE} (hok : FnOk C.P f) (hs : SplP h Pm) (hh : Pm fun h2 => CallX C f args ts h2 k) : CallX C f args ts h k := by
  unfold CallX
  refine ⟨hok, fun w0 F E w vs us hr hargs hp => ?_⟩
  obtain ⟨h2, E2, hk, hp2, hE⟩ := hs w0 F E w hp _ hh
  have hk : CallX C f args ts h2 k := hk
  unfold CallX at hk
  have h1 := (Gst.id hE).ts hr
  have h2 := (Gst.id hE).ts hargs
  rw [gVs_id] at h1 h2
  exact hk.2 w0 F E2 w vs us h1 h2 hp2
theorem mt_spl {v : XV} {hs' : List It} {fx : List XC} {vs : List Value} {x : XV} (hs : SplP h Pm) (hh : Pm fun h2 => MT v hs' fx vs x h2) : MT v hs' fx vs x h := by
  intro w0 F E w u hp hr
  obtain ⟨h2, E2, hk, hp2, hE⟩ := hs w0 F E w hp _ hh
  have h1 := (Gst.id hE).v hr
  rw [gV_id] at h1
  exact hk w0 F E2 w u hp2 h1
end

/-! ### operations -/
section
variable {C : Cx} (hT : TabOk C.P C.T) {ts : List XV} {h : List It} {k : KE}
/-- An operation that only tells. -/
def ValR (C : Cx) (o : Oper) (ts : List XV) (h : List It) (x : XV) : Prop :=
  ∀ (w0 : Org) (F : Nat → Prop) (E : Env) (w : World) (a : Act), RelTs E ts a.tmps.toList → Heap w0 F E h w → ∃ u, RelV E x u ∧ (execOp a.eval o).run C.P w = .ok (.value u) w
theorem opx_valr {o : Oper} {x : XV} (hnd : ∀ c, o.op ≠ .defer c) (hv : ValR C o ts h x) (hk : k x ts h) : OpX C o ts h k := by
  unfold OpX
  refine ⟨hnd, fun w0 F E w a hr hp => ?_⟩
  obtain ⟨u, h1, h2⟩ := hv w0 F E w a hr hp
  exact ⟨_, u, w, x, ts, h, E, .inl rfl, h2, hk, h1, hr, hp⟩
theorem opf_valr {o : Oper} {x : XV} {rd : Nat → Bool} (hv : ValR C o ts h x) (hk : k x ts h) : OpFX C o ts h rd k := by
  unfold OpFX
  intro w0 F E w a hr hp
  obtain ⟨u, h1, h2⟩ := hv w0 F E w a hr hp
  exact ⟨none, (fun _ e => by cases e), _, u, w, x, ts, h, E, .inl rfl, h2, hk, h1, hr, hp, ⟨Nat.le_refl _, fun _ _ _ => rfl⟩, ⟨rfl, Nat.le_refl _, fun k y b hy hb => .inl ⟨y, hy, hb⟩⟩⟩
include hT in
theorem valr_cut {dst : Option Tmp} {t ty : TypeId} {x : Operand} {lo hi : Option Operand} {pos : String} {after : Array Edge} {guard : Option (Nat × Bool)} {it e' z e : Nat} {xs : List (List XC)} {ti ei : TI} (l r : Nat)
    (hx : opv ts x = .c (.ow it)) (hit : itemAt h it = .row e' z xs) (ht : C.T t = some ti) (hkd : ti.kd = .sl e) (he : C.T e = some ei) (hz : ei.size = z)
    (hlo : (lo = none ∧ l = 0) ∨ ∃ b, bnd (lo.map (opv ts)) = some (some (b, (l : Int)))) (hhi : (hi = none ∧ r = xs.length) ∨ ∃ b, bnd (hi.map (opv ts)) = some (some (b, (r : Int))))
    (hlr : l ≤ r ∧ r ≤ xs.length) : ValR C ⟨dst, .slice t x lo hi none, ty, pos, after, guard⟩ ts h (.c (.sw it l (r - l) z)) := by
  intro w0 F E w a hr hp
  have ev := fun x => opv_rel (E := E) hr x
  have hxr := ev x
  rw [hx] at hxr
  obtain ⟨hn, hxv, _⟩ := hxr
  obtain ⟨ys, how, _, _⟩ := hp.ok it _ (itemAt_eq _ _ hit (by simp))
  have hu := mkKd_sl ((TIs.of (hT _ _ ht)).kd.symm.trans hkd)
  have hel := elem_sl hu
  have hu' : C.P.underlying t = some (.slice (C.P.elem t)) := by rw [hel]; exact hu
  have hs := TIs.of (hT _ _ he)
  have sz : ∀ W, (sizeOf (C.P.elem t)).run C.P W = .ok z W := fun W => by rw [hel, run_size hs, hz]
  obtain ⟨A, c, hsl, hmc⟩ : ∃ (A : Option Addr) (c : Nat), E.sl it = .slice A xs.length c ∧ xs.length ≤ c := by
    rcases how.2 with ⟨h1, h0⟩ | ⟨g, cap, cur, h1, _, _, hnc, _⟩
    · exact ⟨none, 0, by rw [h1, h0], by omega⟩
    · exact ⟨_, _, h1, hnc⟩
  have hres : RelV E (.c (.sw it l (r - l) z)) (sliced A l r c z) := ⟨hn, A, _, c, hsl, by omega, by rw [show l + (r - l) = r by omega]⟩
  have hrun : (Instr.sliceAt t (a.eval x) (lo.map a.eval) (hi.map a.eval) none).run C.P w = .ok (sliced A l r c z) w := by
    rw [hxv, hsl, run_sliceAt_slice w t _ _ _ _ hu']
    have bl : ∀ {o : Option Operand} {b : Bool} {n : Int}, bnd (o.map (opv ts)) = some (some (b, n)) → ∃ kd, o.map a.eval = some (.int kd n) := fun {o b n} hb =>
      bnd_some (E := E) hb (fun y hy => by cases o <;> simp at hy; subst hy; exact ⟨_, rfl, ev _⟩)
    rcases hlo with ⟨rfl, rfl⟩ | ⟨b, hlo⟩
    · rcases hhi with ⟨rfl, rfl⟩ | ⟨b', hhi⟩
      · simp only [Option.map_none]
        rw [run_slice_all w t A _ c hu', sz]; rfl
      · obtain ⟨kd, e2⟩ := bl hhi
        rw [e2]
        simp only [Option.map_none]
        rw [run_slice_h w t A _ c hu' kd r (by omega) (by omega), sz, Int.toNat_natCast]; rfl
    · obtain ⟨kd, e1⟩ := bl hlo
      rcases hhi with ⟨rfl, rfl⟩ | ⟨b', hhi⟩
      · rw [e1]
        simp only [Option.map_none]
        rw [run_slice_l w t A _ c hu' kd l (by omega) (by omega), sz, Int.toNat_natCast]; rfl
      · obtain ⟨kd', e2⟩ := bl hhi
        rw [e1, e2, run_slice_lh w t A _ c hu' kd kd' l r (by omega) (by omega) (by omega), sz, Int.toNat_natCast, Int.toNat_natCast]; rfl
  refine ⟨sliced A l r c z, hres, ?_⟩
  simp only [execOp, Option.map_none, Sem.run_bind, hrun, Result.andThen_ok, Sem.run_pure]

include hT in
theorem valr_look {dst : Option Tmp} {t : TypeId} {x y : Operand} {ty : TypeId} {pos : String} {after : Array Edge} {guard : Option (Nat × Bool)} {it hd r : Nat} {dom : List (List Int)} {val : List Int → List XC} {q : Int} {u : Value} {kt et : TypeId} {ei : TI}
    (hx : opv ts x = .c (.ow it)) (hit : itemAt h it = .abs (MapA false [.i64] false 1 dom val)) (hy : kx (opv ts y) = some ([.i64], [q])) (hya : isA (opv ts y) = false) (ht : fitMp C.T t 1 false = some (kt, et, ei))
    (hh : itemAt h hd = .held [u] [.c (.ow r)]) (hval : val [q] = [.v u]) (hin : [q] ∈ dom) : ValR C ⟨dst, .lookup t x y false, ty, pos, after, guard⟩ ts h (.c (.ow r)) := by
  intro w0 F E w a hr hp
  have hxr := opv_rel hr x
  have hyr := opv_rel hr y
  rw [hx] at hxr
  have hi := itemAt_eq _ _ hit (by simp)
  obtain ⟨b, es, clock, hv', hS, hw, hrel, hnd, hpw, hcl⟩ := hp.ok it _ hi
  obtain ⟨hkey, hlen⟩ := kx_rel hy hyr
  rw [hya] at hkey
  obtain ⟨hu, K, hei⟩ := fitMp_spec hT ht
  have hxv : a.eval x = .map (some b) := hxr.2.1.trans hv'
  have hobj : (getObj b).run C.P w = .ok (.map es clock) w := by simp [getObj, Sem.run, hw]
  have K : KeyT C.P kt false [IntKind.i64].length := K
  rcases find_key (w := w) K hlen hrel with ⟨h1, h2⟩ | ⟨j, e, h1, h2, h3⟩
  · exact absurd hin h1
  · obtain ⟨_, _, us, hul, hev, hur, hst⟩ := esrel_at j hrel h1 h2
    rw [hval] at hur
    match us, hur with
    | [v], ⟨hv1, _⟩ =>
      obtain ⟨rfl, _⟩ : v = u ∧ _ := hv1
      have hheld : RelTs E [.c (.ow r)] [v] := hp.ok hd _ (itemAt_eq _ _ hh (by simp))
      refine ⟨v, hheld.1, ?_⟩
      have hev : e.val = v := hev
      simp [execOp, Instr.lookup, run_underlying hu, hxv, hobj, hkey, check_key K hlen, h3, hev]
include hT in
theorem valr_look0 {dst : Option Tmp} {t : TypeId} {x y : Operand} {ty : TypeId} {pos : String} {after : Array Edge} {guard : Option (Nat × Bool)} {it : Nat} {dom : List (List Int)} {val : List Int → List XC} {q : Int} {kt et : TypeId} {ei : TI}
    (hx : opv ts x = .c (.ow it)) (hit : itemAt h it = .abs (MapA false [.i64] false 1 dom val)) (hy : kx (opv ts y) = some ([.i64], [q])) (hya : isA (opv ts y) = false) (ht : fitMp C.T t 1 false = some (kt, et, ei)) (hva : ei.agg = false) (hz : ei.zero = [.slice none 0 0])
    (hin : [q] ∉ dom) : ValR C ⟨dst, .lookup t x y false, ty, pos, after, guard⟩ ts h (.c (.v (.slice none 0 0))) := by
  intro w0 F E w a hr hp
  have hxr := opv_rel hr x
  have hyr := opv_rel hr y
  rw [hx] at hxr
  have hi := itemAt_eq _ _ hit (by simp)
  obtain ⟨b, es, clock, hv', hS, hw, hrel, hnd, hpw, hcl⟩ := hp.ok it _ hi
  obtain ⟨hkey, hlen⟩ := kx_rel hy hyr
  rw [hya] at hkey
  obtain ⟨hu, K, hei⟩ := fitMp_spec hT ht
  have hxv : a.eval x = .map (some b) := hxr.2.1.trans hv'
  have hobj : (getObj b).run C.P w = .ok (.map es clock) w := by simp [getObj, Sem.run, hw]
  have K : KeyT C.P kt false [IntKind.i64].length := K
  rcases find_key (w := w) K hlen hrel with ⟨h1, h2⟩ | ⟨j, e, h1, h2, h3⟩
  · have hz1 := zero_val hei w
    rw [hva, hz, show mkVal false [Value.slice none 0 0] = .slice none 0 0 from rfl] at hz1
    refine ⟨.slice none 0 0, ⟨rfl, rfl⟩, ?_⟩
    simp [execOp, Instr.lookup, run_underlying hu, hxv, hobj, hkey, check_key K hlen, h2, hz1]
  · exact absurd (List.mem_of_getElem? h2) hin
include hT in
theorem upd_run {dst : Option Tmp} {t : TypeId} {x y z : Operand} {ty : TypeId} {pos : String} {after : Array Edge} {guard : Option (Nat × Bool)} {it r : Nat} {dom : List (List Int)} {val : List Int → List XC} {q : Int} {kt et : TypeId} {ei : TI}
    (hx : opv ts x = .c (.ow it)) (hit : itemAt h it = .abs (MapA false [.i64] false 1 dom val)) (hy : kx (opv ts y) = some ([.i64], [q])) (hya : isA (opv ts y) = false) (ht : fitMp C.T t 1 false = some (kt, et, ei)) (hz : opv ts z = .c (.ow r))
    {w0 : Org} {F : Nat → Prop} {E : Env} {w : World} {a : Act} (hr : RelTs E ts a.tmps.toList) (hp : Heap w0 F E h w) :
    ∃ u w', (execOp a.eval ⟨dst, .mapUpdate t x y z, ty, pos, after, guard⟩).run C.P w = .ok .skip w' ∧ RelV E (.c (.ow r)) u ∧ Heap w0 F E (h.set it (.abs (MapA false [.i64] false 1 (insD dom [q]) (updV val [q] [.v u])))) w' ∧
      w'.heap.size = w.heap.size ∧ ∀ b, ¬ E.ext it b → w'.heap[b]? = w.heap[b]? := by
  have hxr := opv_rel hr x
  have hyr := opv_rel hr y
  have hzr := opv_rel hr z
  rw [hx] at hxr
  rw [hz] at hzr
  have hi := itemAt_eq _ _ hit (by simp)
  obtain ⟨b, es, clock, hv, hS, hw, hrel, hnd, hpw, hcl⟩ := hp.ok it _ hi
  obtain ⟨hkey, hlen⟩ := kx_rel hy hyr
  rw [hya] at hkey
  obtain ⟨hu, K, hei⟩ := fitMp_spec hT ht
  have K : KeyT C.P kt false [IntKind.i64].length := K
  have hxv : a.eval x = .map (some b) := hxr.2.1.trans hv
  have hobj : (getObj b).run C.P w = .ok (.map es clock) w := by simp [getObj, Sem.run, hw]
  have hset : ∀ o : Obj, (setObj b o).run C.P w = .ok () { w with heap := w.heap.setIfInBounds b o } := fun o => by simp [setObj, Sem.run, hw]
  have hblt : b < w.heap.size := (Array.getElem?_eq_some_iff.1 hw).1
  have hone : (a.eval z).oneCell' = true := RelC.one (E := E) hzr
  have hentry : [q].length = [IntKind.i64].length ∧ (mkVal false (keyCells [.i64] [q])) = mkVal false (keyCells [.i64] [q]) ∧ ∃ us, us.length = 1 ∧ a.eval z = mkVal false us ∧ RelL ⟨E.bs, 0, fun _ => 0, fun _ => undef, fun _ _ => False⟩ (updV val [q] [.v (a.eval z)] [q]) us ∧ ∀ x ∈ updV val [q] [.v (a.eval z)] [q], St x := by
    refine ⟨hlen, rfl, [a.eval z], rfl, rfl, ?_, ?_⟩
    · simp only [updV, if_pos]; exact ⟨⟨rfl, hone⟩, trivial⟩
    · simp only [updV, if_pos]; intro x hx; simp at hx; subst hx; trivial
  have finish : ∀ (es' : Array MapEntry) (clock' : Nat), EsRel E.bs false [.i64] false 1 (updV val [q] [.v (a.eval z)]) es'.toList (insD dom [q]) → (insD dom [q]).Nodup → es'.toList.Pairwise (fun x y => x.born < y.born) → (∀ e ∈ es'.toList, e.born < clock') →
      Heap w0 F E (h.set it (.abs (MapA false [.i64] false 1 (insD dom [q]) (updV val [q] [.v (a.eval z)])))) { w with heap := w.heap.setIfInBounds b (.map es' clock') } := fun es' clock' h1 h2 h3 h4 =>
    hp.putAbs hi ⟨b, es', clock', hv, hS, by simp [hblt], h1, h2, h3, h4⟩ (by simp) rfl rfl rfl (fun k hk => by
      have : b ≠ k := fun e => hk (e ▸ hS)
      simp [this])
  have sz : ∀ o : Obj, ({ w with heap := w.heap.setIfInBounds b o } : World).heap.size = w.heap.size := fun o => by simp
  have keep : ∀ (o : Obj) (c : Nat), ¬ E.ext it c → ({ w with heap := w.heap.setIfInBounds b o } : World).heap[c]? = w.heap[c]? := fun o c hc => by
    have : b ≠ c := fun e => hc (e ▸ hS)
    simp [this]
  rcases find_key (w := w) K hlen hrel with ⟨h1, h2⟩ | ⟨j, e, h1, h2, h3⟩
  · have hins : insD dom [q] = dom ++ [[q]] := by simp [insD, h1]
    refine ⟨a.eval z, _, ?_, hzr, finish (es.push { key := mkVal false (keyCells [.i64] [q]), val := a.eval z, born := clock }) (clock + 1) ?_ ?_ ?_ ?_, sz _, keep _⟩
    · simp [execOp, Instr.mapUpdate, run_underlying hu, hxv, hobj, hkey, check_key K hlen, h2, hset]
    · rw [hins, Array.toList_push]
      exact esrel_push (hrel.mono fun k hk => by simp only [updV]; rw [if_neg (fun (e : k = [q]) => h1 (e ▸ hk))]) hentry
    · rw [hins]; exact nodup_snoc hnd h1
    · rw [Array.toList_push, List.pairwise_append]
      exact ⟨hpw, by simp, fun x hx y hy => by simp at hy; subst hy; exact hcl x hx⟩
    · intro e he
      rw [Array.toList_push] at he
      rcases List.mem_append.1 he with he | he
      · exact Nat.lt_succ_of_lt (hcl e he)
      · simp at he; subst he; exact Nat.lt_succ_self _
  · have hmem : [q] ∈ dom := List.mem_of_getElem? h2
    have hins : insD dom [q] = dom := by simp [insD, hmem]
    obtain ⟨_, hekey, _⟩ := esrel_at j hrel h1 h2
    have hej : es[j]? = some e := by simpa using h1
    have hjlt : j < es.size := (Array.getElem?_eq_some_iff.1 hej).1
    have hmod : es.modify j (fun e' => { e' with key := mkVal false (keyCells [.i64] [q]), val := a.eval z }) = es.setIfInBounds j { e with key := mkVal false (keyCells [.i64] [q]), val := a.eval z } := by
      apply Array.ext_getElem?
      intro i
      rw [Array.getElem?_modify, Array.getElem?_setIfInBounds]
      split
      · rename_i e1; subst e1; have hget := (Array.getElem?_eq_some_iff.1 hej).2; simp [hej, hjlt, hget]
      · rfl
    refine ⟨a.eval z, _, ?_, hzr, finish (es.setIfInBounds j { e with key := mkVal false (keyCells [.i64] [q]), val := a.eval z }) clock ?_ ?_ ?_ ?_, sz _, keep _⟩
    · simp [execOp, Instr.mapUpdate, run_underlying hu, hxv, hobj, hkey, check_key K hlen, h3, hset, hej, hekey, stays_key hlen (fun _ => rfl), hmod]
    · rw [hins, Array.toList_setIfInBounds]
      exact esrel_upd j hrel hnd h2 hentry
    · rw [hins]; exact hnd
    · rw [Array.toList_setIfInBounds]
      have := born_set (e' := { e with key := mkVal false (keyCells [.i64] [q]), val := a.eval z }) h1 rfl
      rw [← List.pairwise_map (f := MapEntry.born) (R := (· < ·)), this, List.pairwise_map]; exact hpw
    · intro e' he
      rw [Array.toList_setIfInBounds] at he
      have := born_set (e' := { e with key := mkVal false (keyCells [.i64] [q]), val := a.eval z }) h1 rfl
      have hm : e'.born ∈ (es.toList.set j { e with key := mkVal false (keyCells [.i64] [q]), val := a.eval z }).map MapEntry.born := List.mem_map_of_mem he
      rw [this] at hm
      obtain ⟨e2, h4, h5⟩ := List.mem_map.1 hm
      rw [← h5]; exact hcl e2 h4

include hT in
theorem opf_update {dst : Option Tmp} {t : TypeId} {x y z : Operand} {ty : TypeId} {pos : String} {after : Array Edge} {guard : Option (Nat × Bool)} {it r : Nat} {dom : List (List Int)} {val : List Int → List XC} {q : Int} {kt et : TypeId} {ei : TI} {rd : Nat → Bool}
    (hx : opv ts x = .c (.ow it)) (hit : itemAt h it = .abs (MapA false [.i64] false 1 dom val)) (hy : kx (opv ts y) = some ([.i64], [q])) (hya : isA (opv ts y) = false) (ht : fitMp C.T t 1 false = some (kt, et, ei)) (hz : opv ts z = .c (.ow r)) (hrd : rd it = false)
    (hk : ∀ u, setH h it (.abs (MapA false [.i64] false 1 (insD dom [q]) (updV val [q] [.v u]))) fun h => snocH h (.held [u] [.c (.ow r)]) fun h => k .un ts h) : OpFX C ⟨dst, .mapUpdate t x y z, ty, pos, after, guard⟩ ts h rd k := by
  unfold OpFX
  intro w0 F E w a hr hp
  obtain ⟨u, w', hrun, hzr, hp2, hsz, hkeep⟩ := upd_run hT (dst := dst) (pos := pos) (after := after) (guard := guard) (ty := ty) hx hit hy hya ht hz hr hp
  have hk := hk u
  rw [setH_eq, snocH_eq] at hk
  have hi := itemAt_eq _ _ hit (by simp)
  have hle := Env.push_le E 0 undef
  have hn := hp.n
  have hp3 := hp2.push (x := .held [u] [.c (.ow r)]) (w' := w') (b := 0) (v := undef) (S := fun _ => False) (Fr.refl _ _) ⟨RelC.monoC hle.c _ _ hzr, trivial⟩ (fun c hc => hc.elim)
  refine ⟨some it, fun j e => by cases e; exact hrd, .skip, undef, w', .un, ts, _, _, .inr ⟨rfl, rfl⟩, hrun, hk, trivial, hr.mono hle, hp3, ⟨by omega, fun b hb hno => hkeep b (fun e => hno it _ rfl hi e)⟩, rfl, by simp, fun j y b hy hb => ?_⟩
  rcases at_append hy with ⟨hj, hy⟩ | ⟨hj, hy⟩
  · rw [List.length_set] at hj
    rw [Ow_mono hle (by omega)] at hb
    rcases at_set hy with ⟨e, rfl, _⟩ | ⟨_, hy⟩
    · subst e; exact .inl ⟨_, hi, hb⟩
    · exact .inl ⟨y, hy, hb⟩
  · have h1 := (List.getElem?_eq_some_iff.1 hy).1
    have h2 : j - (h.set it (.abs (MapA false [.i64] false 1 (insD dom [q]) (updV val [q] [.v u])))).length = 0 := by simp at h1 ⊢; omega
    rw [h2] at hy
    obtain rfl : _ = y := by simpa using hy
    exact hb.elim
end
end Go.Eng
