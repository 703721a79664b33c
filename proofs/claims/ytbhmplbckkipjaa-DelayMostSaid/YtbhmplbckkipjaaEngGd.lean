/- The engine, part Gd: such steps, wherever the walk stops. Nothing of any program is proved here. -/
import Derived.Test.YtbhmplbckkipjaaEngGc
namespace Go.Eng
open Go Go.RowKit
set_option linter.unusedSimpArgs false
set_option linter.unusedVariables false

/-! ### one pack, for what it lies behind -/
/-- A pointer to a root becomes the pack's value. -/
def packG1 (it : Nat) (c : XC) : XC :=
  match c with
  | .p k 0 => (match Nat.beq k it with | true => .ow it | false => .p k 0)
  | .ow k => (match Nat.beq k it with | true => .un | false => .ow k)
  | .q k a b o => (match Nat.beq k it with | true => .un | false => .q k a b o)
  | .fn _ _ _ => .un
  | c => c
def packG (it : Nat) (c : XC) : XC :=
  match c with
  | .fn f n caps => .fn f n fun j => packG1 it (caps j)
  | c => packG1 it c
/-- The pack's value becomes what it is. -/
def unpackG1 (it : Nat) (r : XC) (c : XC) : XC :=
  match c with
  | .ow k => (match Nat.beq k it with | true => r | false => .ow k)
  | .p k o => (match Nat.beq k it with | true => .un | false => .p k o)
  | .q k a b o => (match Nat.beq k it with | true => .un | false => .q k a b o)
  | .sp k a b o => (match Nat.beq k it with | true => .un | false => .sp k a b o)
  | .mp k => (match Nat.beq k it with | true => .un | false => .mp k)
  | .fn _ _ _ => .un
  | c => c
def unpackG (it : Nat) (r : XC) (c : XC) : XC :=
  match c with
  | .fn f n caps => .fn f n fun j => unpackG1 it r (caps j)
  | c => unpackG1 it r c

theorem RelC.fnMap {E E2 : Env} {g1 : XC → XC} (hg : ∀ x v, RelC E x v → RelC E2 (g1 x) v) {f n : Nat} {caps : Nat → XC} {v : Value} (h : RelC E (.fn f n caps) v) : RelC E2 (.fn f n fun j => g1 (caps j)) v := by
  obtain ⟨vs, rfl, hn, hc⟩ := h
  refine ⟨vs, rfl, hn, fun j hj => ?_⟩
  obtain ⟨u, hu, hr⟩ := hc j hj
  exact ⟨u, hu, hg _ _ hr⟩

theorem packG_gst {E E2 : Env} {it : Nat} (hn : E.n ≤ E2.n) (hb : E2.blk = E.blk) (hs : ∀ k, k ≠ it → E2.sl k = E.sl k) (hbs : E2.bs = E.bs) (hv : E2.sl it = .pointer (some ⟨E.blk it, 0, none⟩)) : Gst E E2 (packG it) := by
  have st : ∀ {x : XC} {v : Value}, St x → RelC E x v → RelC E2 x v := fun h hr => RelC.stable (E := E) (by rw [hbs]; exact fun _ h => ⟨h, rfl⟩) _ _ h hr
  have h1 : ∀ x v, RelC E x v → RelC E2 (packG1 it x) v := fun x v h => by
    cases x with
    | p k o =>
      cases o with
      | zero =>
        simp only [packG1]
        split
        · rename_i e
          have e := Nat.eq_of_beq_eq_true e
          subst e
          exact ⟨Nat.lt_of_lt_of_le h.1 hn, by rw [hv]; exact h.2, by rw [h.2]; rfl⟩
        · exact ⟨Nat.lt_of_lt_of_le h.1 hn, by rw [hb]; exact h.2⟩
      | succ o => exact ⟨Nat.lt_of_lt_of_le h.1 hn, by rw [hb]; exact h.2⟩
    | ow k =>
      simp only [packG1]
      split
      · exact h.one
      · rename_i e; exact ⟨Nat.lt_of_lt_of_le h.1 hn, by rw [hs k (beq_ne e)]; exact h.2⟩
    | q k a b o =>
      simp only [packG1]
      split
      · exact h.one
      · rename_i e; exact ⟨Nat.lt_of_lt_of_le h.1 hn, by rw [hs k (beq_ne e)]; exact h.2⟩
    | sp k a b o => exact ⟨Nat.lt_of_lt_of_le h.1 hn, by rw [hb]; exact h.2⟩
    | mp k => exact ⟨Nat.lt_of_lt_of_le h.1 hn, by rw [hb]; exact h.2⟩
    | fn => exact h.one
    | un => exact h
    | il => exact h
    | i => exact h
    | bt => exact h
    | bf => exact h
    | b => exact h
    | v => exact h
    | ep => exact st (show St (.ep _ _) from trivial) h
    | rs => exact st (show St (.rs _ _ _) from trivial) h
  intro x v h
  unfold packG
  split
  · exact RelC.fnMap h1 h
  · exact h1 x v h

theorem unpackG_gst {E E2 : Env} {it : Nat} {r : XC} (hn : E.n ≤ E2.n) (hb : ∀ k, k < E.n → k ≠ it → E2.blk k = E.blk k) (hs : ∀ k, k < E.n → k ≠ it → E2.sl k = E.sl k) (hbs : E2.bs = E.bs) (hv : RelC E2 r (E.sl it)) : Gst E E2 (unpackG it r) := by
  have st : ∀ {x : XC} {v : Value}, St x → RelC E x v → RelC E2 x v := fun h hr => RelC.stable (E := E) (by rw [hbs]; exact fun _ h => ⟨h, rfl⟩) _ _ h hr
  have h1 : ∀ x v, RelC E x v → RelC E2 (unpackG1 it r x) v := fun x v h => by
    cases x with
    | ow k =>
      simp only [unpackG1]
      split
      · rename_i e
        have e := Nat.eq_of_beq_eq_true e
        subst e
        rw [h.2.1]; exact hv
      · rename_i e; exact ⟨Nat.lt_of_lt_of_le h.1 hn, by rw [hs k h.1 (beq_ne e)]; exact h.2⟩
    | p k o =>
      simp only [unpackG1]
      split
      · exact h.one
      · rename_i e; exact ⟨Nat.lt_of_lt_of_le h.1 hn, by rw [hb k h.1 (beq_ne e)]; exact h.2⟩
    | q k a b o =>
      simp only [unpackG1]
      split
      · exact h.one
      · rename_i e; exact ⟨Nat.lt_of_lt_of_le h.1 hn, by rw [hs k h.1 (beq_ne e)]; exact h.2⟩
    | sp k a b o =>
      simp only [unpackG1]
      split
      · exact h.one
      · rename_i e; exact ⟨Nat.lt_of_lt_of_le h.1 hn, by rw [hb k h.1 (beq_ne e)]; exact h.2⟩
    | mp k =>
      simp only [unpackG1]
      split
      · exact h.one
      · rename_i e; exact ⟨Nat.lt_of_lt_of_le h.1 hn, by rw [hb k h.1 (beq_ne e)]; exact h.2⟩
    | fn => exact h.one
    | un => exact h
    | il => exact h
    | i => exact h
    | bt => exact h
    | bf => exact h
    | b => exact h
    | v => exact h
    | ep => exact st (show St (.ep _ _) from trivial) h
    | rs => exact st (show St (.rs _ _ _) from trivial) h
  intro x v h
  unfold unpackG
  split
  · exact RelC.fnMap h1 h
  · exact h1 x v h

theorem pack_sound {h : List It} {it : Nat} {js : List Nat} {hs : List It} {y0 : It} (hx : h[it]? = some y0) (hnd : (it :: js).Nodup) (hpre : preAt h (it :: js) (hs.map (renIt (nthN (it :: js))))) (hwh : wfH hs.length hs = true) (hne : 0 < hs.length) :
    GhS h (packG it) (killAt js ((h.map (gIt (packG it))).set it (.abs (Pk (.p 0 0) hs)))) := by
  intro w0 F E w hp
  have hit : it < h.length := (List.getElem?_eq_some_iff.1 hx).1
  have hitn : it < E.n := by rw [hp.n]; exact hit
  let v0 : Value := .pointer (some ⟨E.blk it, 0, none⟩)
  have hwx : wfL hs.length [XC.p 0 0] = true := by
    have : Nat.blt 0 hs.length = true := by simp [Nat.blt, Nat.ble_eq]; omega
    simp [wfL, wfC, this]
  have hr0 : RelL E ([XC.p 0 0].map (renC (nthN (it :: js)))) [v0] := ⟨⟨hitn, rfl⟩, trivial⟩
  obtain ⟨hpk, hown⟩ := PkOk.shut hp hnd hpre (xs := [.p 0 0]) (vs := [v0]) hwx hwh hr0
  let S : Nat → Prop := fun b => ∃ m y, hs[m]? = some y ∧ Ow E (nthN (it :: js) m) (renIt (nthN (it :: js)) y) b
  have hSo : ∀ b, S b → ∃ k x, (k = it ∨ k ∈ js) ∧ h[k]? = some x ∧ Ow E k x b := fun b ⟨m, y, hy, hb⟩ => by
    obtain ⟨x, h1, h2, h3⟩ := hown m y b hy hb; exact ⟨_, x, by simpa using h3, h1, h2⟩
  let E2 : Env := { E with sl := fun k => if k = it then v0 else E.sl k, ext := fun k => if k = it then S else E.ext k }
  have hs1 : ∀ k, k ≠ it → E2.sl k = E.sl k := fun k hk => by simp [E2, hk]
  have hx1 : ∀ k, k ≠ it → E2.ext k = E.ext k := fun k hk => by simp [E2, hk]
  have hsi : E2.sl it = v0 := by simp [E2]
  have hxi : E2.ext it = S := by simp [E2]
  have hg : Gst E E2 (packG it) := packG_gst (Nat.le_refl _) rfl hs1 rfl hsi
  refine ⟨E2, hp.remix rfl (by rw [killAt_len]; simp [E2, hp.n]) hg (fun k => k ≠ it ∧ k ∉ js) (fun k y hy hk => ?_) (fun k y hy hk => ?_) (fun j k x y b hjx hky hj hk hb hb' => ?_), hg⟩
  · rcases killAt_get hy with ⟨h1, _⟩ | ⟨_, hy⟩
    · exact absurd h1 hk.2
    · rcases at_set hy with ⟨h1, _⟩ | ⟨_, hy⟩
      · exact absurd h1 hk.1
      · rw [List.getElem?_map, Option.map_eq_some_iff] at hy
        obtain ⟨x, hx', rfl⟩ := hy
        exact ⟨x, hx', rfl, rfl, hs1 k hk.1, hx1 k hk.1⟩
  · rcases killAt_get hy with ⟨h1, rfl⟩ | ⟨h1, hy⟩
    · exact ⟨trivial, fun b hb => hb.elim⟩
    · rcases at_set hy with ⟨rfl, rfl, _⟩ | ⟨h2, _⟩
      · refine ⟨?_, fun b hb => ?_⟩
        · show (PackL [.p 0 0] hs).is E.bs [E2.sl k] (E2.ext k) w
          rw [hsi, hxi]; exact ⟨E.sub _ _, rfl, hpk⟩
        · have hb : E2.ext k b := hb
          rw [hxi] at hb
          obtain ⟨k', x, h3, h4, h5⟩ := hSo b hb
          exact ⟨k', x, fun h => by rcases h3 with h3 | h3; exact h.1 h3; exact h.2 h3, h4, h5⟩
      · exact absurd ⟨h2, h1⟩ hk
  · rcases killAt_get hjx with ⟨_, rfl⟩ | ⟨h1, hjx⟩
    · exact hb.elim
    · rcases killAt_get hky with ⟨_, rfl⟩ | ⟨h2, hky⟩
      · exact hb'.elim
      · have e1 : j = it := Classical.byContradiction fun e => hj ⟨e, h1⟩
        have e2 : k = it := Classical.byContradiction fun e => hk ⟨e, h2⟩
        rw [e1, e2]

/-- The numbers of a pack's items, the first in the pack's place. -/
def sigU (it n : Nat) : Nat → Nat
  | 0 => it
  | j + 1 => n + j
theorem unpack_sound {h : List It} {it : Nat} {x : XC} {y0 : It} {tl : List It} (hx : h[it]? = some (.abs (Pk x (y0 :: tl)))) :
    GhS h (unpackG it (renC (sigU it h.length) x)) ((h.map (gIt (unpackG it (renC (sigU it h.length) x)))).set it (renIt (sigU it h.length) y0) ++ tl.map (renIt (sigU it h.length))) := by
  intro w0 F E w hp
  have hit : it < h.length := (List.getElem?_eq_some_iff.1 hx).1
  obtain ⟨Ep, hbs, hpk⟩ := hp.ok it _ hx
  have hn := hp.n
  let n := h.length
  let σ := sigU it n
  let E2 : Env := { E with n := n + tl.length, blk := fun k => if k = it then Ep.blk 0 else if k < n then E.blk k else Ep.blk (k - n + 1), sl := fun k => if k = it then Ep.sl 0 else if k < n then E.sl k else Ep.sl (k - n + 1), ext := fun k => if k = it then Ep.ext 0 else if k < n then E.ext k else Ep.ext (k - n + 1) }
  have hEn : Ep.n = tl.length + 1 := by rw [hpk.n]; simp
  have hb1 : ∀ k, k < n → k ≠ it → E2.blk k = E.blk k := fun k hk hne => by simp [E2, hk, hne]
  have hs1 : ∀ k, k < n → k ≠ it → E2.sl k = E.sl k := fun k hk hne => by simp [E2, hk, hne]
  have hx1 : ∀ k, k < n → k ≠ it → E2.ext k = E.ext k := fun k hk hne => by simp [E2, hk, hne]
  have far : ∀ j, n + j ≠ it ∧ ¬ n + j < n := fun j => ⟨by omega, by omega⟩
  have hR : EnvR σ Ep E2 := by
    refine ⟨fun j hj => ?_, fun j hj => ?_, fun j hj => ?_, fun b hb => by rw [hbs] at hb ⊢; exact ⟨hb, rfl⟩⟩
    · cases j with
      | zero => show it < n + tl.length; omega
      | succ j => show n + j < n + tl.length; omega
    · cases j with
      | zero => simp [E2, σ, sigU]
      | succ j => simp [E2, σ, sigU, far j]
    · cases j with
      | zero => simp [E2, σ, sigU]
      | succ j => simp [E2, σ, sigU, far j]
  have hxe : ∀ j, E2.ext (σ j) = Ep.ext j := fun j => by
    cases j with
    | zero => simp [E2, σ, sigU]
    | succ j => simp [E2, σ, sigU, far j]
  have hg : Gst E E2 (unpackG it (renC σ x)) := unpackG_gst (by show E.n ≤ n + tl.length; omega) (fun k hk hne => hb1 k (by omega) hne) (fun k hk hne => hs1 k (by omega) hne) rfl (renC_rel hR _ _ hpk.rel.1)
  have own2 : ∀ {j : Nat} {y : It} {b : Nat}, (y0 :: tl)[j]? = some y → Ow E2 (σ j) (renIt σ y) b → Ow Ep j y b := fun {j y b} hy hb => by
    have hj : j < Ep.n := by rw [hpk.n]; exact (List.getElem?_eq_some_iff.1 hy).1
    rw [Ow_ren (E0 := Ep) (E := E2) (σ := σ) (k := j) y (hR.blk j hj) (hR.sl j hj) (hxe j)] at hb
    exact hb
  have hlen : ((h.map (gIt (unpackG it (renC σ x)))).set it (renIt σ y0)).length = n := by simp [n]
  have new : ∀ {k : Nat} {y : It}, ((h.map (gIt (unpackG it (renC σ x)))).set it (renIt σ y0) ++ tl.map (renIt σ))[k]? = some y → ¬ (k < n ∧ k ≠ it) →
      ∃ j y1, k = σ j ∧ (y0 :: tl)[j]? = some y1 ∧ y = renIt σ y1 := fun {k y} hy hk => by
    rcases at_append hy with ⟨hk', hy⟩ | ⟨hk', hy⟩
    · rcases at_set hy with ⟨h1, h2, _⟩ | ⟨h1, _⟩
      · exact ⟨0, y0, h1, rfl, h2⟩
      · rw [hlen] at hk'; exact absurd ⟨hk', h1⟩ hk
    · rw [hlen] at hk' hy
      rw [List.getElem?_map, Option.map_eq_some_iff] at hy
      obtain ⟨y1, h0, rfl⟩ := hy
      exact ⟨k - n + 1, y1, by show k = n + (k - n); omega, by simpa using h0, rfl⟩
  refine ⟨E2, hp.remix rfl (by show n + tl.length = _; simp [n]) hg (fun k => k < n ∧ k ≠ it) (fun k y hy hk => ?_) (fun k y hy hk => ?_) (fun j k x' y b hjx hky hj hk hb hb' => ?_), hg⟩
  · rcases at_append hy with ⟨_, hy⟩ | ⟨hk', _⟩
    · rcases at_set hy with ⟨h1, _⟩ | ⟨_, hy⟩
      · exact absurd h1 hk.2
      · rw [List.getElem?_map, Option.map_eq_some_iff] at hy
        obtain ⟨x', hx', rfl⟩ := hy
        exact ⟨x', hx', rfl, hb1 k hk.1 hk.2, hs1 k hk.1 hk.2, hx1 k hk.1 hk.2⟩
    · rw [hlen] at hk'; omega
  · obtain ⟨j, y1, rfl, hy1, rfl⟩ := new hy hk
    have hj : j < Ep.n := by rw [hpk.n]; exact (List.getElem?_eq_some_iff.1 hy1).1
    exact ⟨renIt_ok hR hj (hxe j) (hpk.ok j y1 hy1), fun b hb => ⟨it, _, fun h => h.2 rfl, hx, hpk.own j y1 b hy1 (own2 hy1 hb)⟩⟩
  · obtain ⟨a, x1, rfl, hx1', rfl⟩ := new hjx hj
    obtain ⟨c, y1, rfl, hy1, rfl⟩ := new hky hk
    rw [hpk.sep a c x1 y1 b hx1' hy1 (own2 hx1' hb) (own2 hy1 hb')]

/-! ### nil slices in cells -/
def putH : List It → Nat → It → (List It → Prop) → Prop
  | [], _, x, k => k [x]
  | _ :: l, 0, x, k => k (x :: l)
  | a :: l, n + 1, x, k => putH l n x fun l => k (a :: l)
theorem putH_eq : ∀ (l : List It) (n : Nat) (x : It) (k : List It → Prop), putH l n x k = k (if n < l.length then l.set n x else l ++ [x])
  | [], n, x, k => by simp [putH]
  | a :: l, 0, x, k => by simp [putH]
  | a :: l, n + 1, x, k => by
    simp only [putH, putH_eq l n, List.length_cons, Nat.add_lt_add_iff_right, List.set_cons_succ]
    split <;> rfl
/-- Nothing stands there, or it is the next place. -/
def deadB : List It → Nat → Bool
  | [], 0 => true
  | [], _ => false
  | .dead :: _, 0 => true
  | _ :: _, 0 => false
  | _ :: l, n + 1 => deadB l n
theorem deadB_spec : ∀ {l : List It} {n : Nat}, deadB l n = true → l[n]? = some .dead ∨ n = l.length
  | [], 0, _ => .inr rfl
  | [], n + 1, h => by simp [deadB] at h
  | a :: l, 0, h => by
    cases a <;> simp [deadB] at h ⊢
  | a :: l, n + 1, h => by
    have : deadB l n = true := by cases a <;> simpa [deadB] using h
    rcases deadB_spec this with h1 | h1
    · exact .inl (by simpa using h1)
    · exact .inr (by simp [h1])
def nilRow (pr : Bool) (e z : Nat) : It := match pr with | true => .prow e z [] none | false => .row e z []
theorem killC_gst {E E2 : Env} {j : Nat} (hn : E.n ≤ E2.n) (hb : ∀ k, k < E.n → E2.blk k = E.blk k) (hs : ∀ k, k < E.n → k ≠ j → E2.sl k = E.sl k) (hbs : E2.bs = E.bs) : Gst E E2 (killC j) := by
  intro x v h
  let E1 : Env := { E with sl := E2.sl }
  by_cases hE : True
  · have st : ∀ {x : XC} {v : Value}, St x → RelC E x v → RelC E2 x v := fun h hr => RelC.stable (E := E) (by rw [hbs]; exact fun _ h => ⟨h, rfl⟩) _ _ h hr
    have fix : ∀ (x : XC) (v : Value), isFix x = true → RelC E x v → RelC E2 x v := fun x v hf h => by
      cases x with
      | ow => cases hf
      | q => cases hf
      | fn => cases hf
      | p k o => exact ⟨Nat.lt_of_lt_of_le h.1 hn, by rw [hb k h.1]; exact h.2⟩
      | sp k a b o => exact ⟨Nat.lt_of_lt_of_le h.1 hn, by rw [hb k h.1]; exact h.2⟩
      | mp k => exact ⟨Nat.lt_of_lt_of_le h.1 hn, by rw [hb k h.1]; exact h.2⟩
      | un => exact h
      | il => exact h
      | i => exact h
      | bt => exact h
      | bf => exact h
      | b => exact h
      | v => exact h
      | ep => exact st (show St (.ep _ _) from trivial) h
      | rs => exact st (show St (.rs _ _ _) from trivial) h
    cases x with
    | ow k =>
      simp only [killC]
      split
      · exact h.one
      · rename_i e; exact ⟨Nat.lt_of_lt_of_le h.1 hn, by rw [hs k h.1 (beq_ne e)]; exact h.2⟩
    | q k a b c =>
      simp only [killC]
      split
      · exact h.one
      · rename_i e; exact ⟨Nat.lt_of_lt_of_le h.1 hn, by rw [hs k h.1 (beq_ne e)]; exact h.2⟩
    | fn f n caps =>
      simp only [killC]
      split
      · rename_i ha
        obtain ⟨vs, rfl, hm, hc⟩ := h
        refine ⟨vs, rfl, hm, fun j hj => ?_⟩
        obtain ⟨u, hu, hr⟩ := hc j hj
        exact ⟨u, hu, fix _ _ (allFix_spec n caps ha j hj) hr⟩
      · exact h.one
    | un => exact fix _ _ rfl h
    | il => exact fix _ _ rfl h
    | i => exact fix _ _ rfl h
    | bt => exact fix _ _ rfl h
    | bf => exact fix _ _ rfl h
    | b => exact fix _ _ rfl h
    | p => exact fix _ _ rfl h
    | ep => exact fix _ _ rfl h
    | rs => exact fix _ _ rfl h
    | sp => exact fix _ _ rfl h
    | mp => exact fix _ _ rfl h
    | v => exact fix _ _ rfl h
  · exact absurd trivial hE

theorem nil_sound {h : List It} {it off j e z : Nat} {pr : Bool} {ty : TypeId} {cs : List XC} (hx : h[it]? = some (.cells ty cs)) (hc : cs[off]? = some (.v (.slice none 0 0))) (hd : deadB h j = true) :
    GhS h (killC j) (if j < (h.set it (.cells ty ((cs.map (killC j)).set off (.ow j)))).length then ((h.map (gIt (killC j))).set it (.cells ty ((cs.map (killC j)).set off (.ow j)))).set j (nilRow pr e z) else (h.map (gIt (killC j))).set it (.cells ty ((cs.map (killC j)).set off (.ow j))) ++ [nilRow pr e z]) := by
  intro w0 F E w hp
  have hn := hp.n
  have hit : it < h.length := (List.getElem?_eq_some_iff.1 hx).1
  have hjd := deadB_spec hd
  have hji : j ≠ it := fun e => by
    subst e
    rcases hjd with h1 | h1
    · rw [hx] at h1; cases h1
    · omega
  let v0 : Value := .slice none 0 0
  let m := max E.n (j + 1)
  let E2 : Env := { E with n := m, sl := fun k => if k = j then v0 else E.sl k, ext := fun k => if k = j then (fun _ => False) else E.ext k }
  have hs1 : ∀ k, k ≠ j → E2.sl k = E.sl k := fun k hk => by simp [E2, hk]
  have hx1 : ∀ k, k ≠ j → E2.ext k = E.ext k := fun k hk => by simp [E2, hk]
  have hsj : E2.sl j = v0 := by simp [E2]
  have hxj : E2.ext j = fun _ => False := by simp [E2]
  have hg : Gst E E2 (killC j) := killC_gst (Nat.le_max_left _ _) (fun _ _ => rfl) (fun k _ hk => hs1 k hk) rfl
  have hlenH : ∀ {L : List It}, L.length = h.length → (if j < h.length then L.set j (nilRow pr e z) else L ++ [nilRow pr e z]).length = m := fun {L} hL => by
    have : m = max h.length (j + 1) := by show max E.n (j + 1) = _; rw [hn]
    rw [this]
    split
    · rw [List.length_set, hL]; omega
    · rcases hjd with h1 | h1
      · have := (List.getElem?_eq_some_iff.1 h1).1; omega
      · rw [List.length_append, hL]; simp; omega
  have getH : ∀ {L : List It} {k : Nat} {y : It}, L.length = h.length → (if j < h.length then L.set j (nilRow pr e z) else L ++ [nilRow pr e z])[k]? = some y → (k = j ∧ y = nilRow pr e z) ∨ (k ≠ j ∧ L[k]? = some y) := fun {L k y} hL hy => by
    split at hy
    · rcases at_set hy with ⟨h1, h2, _⟩ | h1
      · exact .inl ⟨h1, h2⟩
      · exact .inr h1
    · rename_i hjl
      have hjl : j = h.length := by
        rcases hjd with h1 | h1
        · have := (List.getElem?_eq_some_iff.1 h1).1; omega
        · exact h1
      rcases at_append hy with ⟨h1, h2⟩ | ⟨h1, h2⟩
      · exact .inr ⟨by omega, h2⟩
      · have h3 : k - L.length < 1 := by simpa using (List.getElem?_eq_some_iff.1 h2).1
        have h4 : k = j := by omega
        subst h4
        rw [show k - L.length = 0 by omega] at h2
        simp at h2
        exact .inl ⟨rfl, h2.symm⟩
  have hnilOk : ItOk E2 w j (nilRow pr e z) ∧ ∀ b, ¬ Ow E2 j (nilRow pr e z) b := by
    cases pr with
    | false => exact ⟨⟨[], by rw [hsj]; exact World.ownsRow_nil w 0 e z, trivial, by simp, by simp⟩, fun b hb => by simp [nilRow, Ow, hsj, v0, Value.ownBlock] at hb⟩
    | true =>
      refine ⟨⟨[], fun _ _ => False, by rw [hsj]; exact World.ownsRow_nil w 0 e z, fun i a ha => (by simp at ha), fun i cs e => (by cases e), fun _ _ _ h => h.elim, fun _ _ h => h.elim, fun b hb => ?_⟩, fun b hb => ?_⟩
      · rw [hsj] at hb; simp [v0, Value.ownBlock] at hb
      · have hb : E2.ext j b := hb
        rw [hxj] at hb; exact hb
  obtain ⟨vs, hvs, hrel⟩ := hp.ok it _ hx
  rw [List.length_set]
  refine ⟨E2, hp.remix (P := fun k => k ≠ j ∧ k ≠ it) rfl (by rw [hlenH (by simp)]) hg (fun k y hy hk => ?_) (fun k y hy hk => ?_) (fun a k x y b hjx hky hj hk hb hb' => ?_), hg⟩
  · rcases getH (by simp) hy with ⟨h1, _⟩ | ⟨_, hy⟩
    · exact absurd h1 hk.1
    · rcases at_set hy with ⟨h1, _⟩ | ⟨_, hy⟩
      · exact absurd h1 hk.2
      · rw [List.getElem?_map, Option.map_eq_some_iff] at hy
        obtain ⟨x, hx', rfl⟩ := hy
        exact ⟨x, hx', rfl, rfl, hs1 k hk.1, hx1 k hk.1⟩
  · rcases getH (by simp) hy with ⟨rfl, rfl⟩ | ⟨hkj, hy⟩
    · exact ⟨hnilOk.1, fun b hb => (hnilOk.2 b hb).elim⟩
    · rcases at_set hy with ⟨rfl, rfl, _⟩ | ⟨h1, _⟩
      · refine ⟨⟨vs, hvs, ?_⟩, fun b hb => ⟨k, _, fun h => h.2 rfl, hx, hb⟩⟩
        have hl := hg.l hrel
        refine RelL.mk (by rw [List.length_set, hl.len]) fun i x v hx' hv => ?_
        by_cases e : off = i
        · subst e
          rw [List.getElem?_set_self (by rw [List.length_map]; exact (List.getElem?_eq_some_iff.1 hc).1)] at hx'
          cases hx'
          obtain ⟨u, hu, hru⟩ := hrel.get _ hc
          rw [hv] at hu; cases hu
          have hv0 : v = .slice none 0 0 := hru.1
          subst hv0
          exact ⟨by show j < m; exact Nat.lt_of_lt_of_le (Nat.lt_succ_self j) (Nat.le_max_right _ _), hsj.symm, rfl⟩
        · rw [List.getElem?_set_ne e] at hx'
          obtain ⟨u, hu, hru⟩ := hl.get _ hx'
          rw [hv] at hu; cases hu
          exact hru
      · exact absurd ⟨hkj, h1⟩ hk
  · rcases getH (by simp) hjx with ⟨rfl, rfl⟩ | ⟨h1, hjx⟩
    · exact (hnilOk.2 b hb).elim
    · rcases getH (by simp) hky with ⟨rfl, rfl⟩ | ⟨h2, hky⟩
      · exact (hnilOk.2 b hb').elim
      · have e1 : a = it := Classical.byContradiction fun e => hj ⟨h1, e⟩
        have e2 : k = it := Classical.byContradiction fun e => hk ⟨h2, e⟩
        rw [e1, e2]
end Go.Eng
