/- The engine, part Gf: calls by contracts that turn what the caller owns. Nothing of any program is proved here. -/
import Derived.Test.YtbhmplbckkipjaaEngGe
namespace Go.Eng
open Go Go.RowKit
set_option linter.unusedSimpArgs false
set_option linter.unusedVariables false

/-- The callee's numbers among the caller's: what was handed over, and new ones. -/
def sigM : List Nat → Nat → Nat → Nat
  | [], n, i => n + i
  | a :: _, _, 0 => a
  | _ :: js, n, i + 1 => sigM js n i
theorem sigM_lt : ∀ {js : List Nat} {n i : Nat}, i < js.length → sigM js n i = nthN js i
  | a :: _, n, 0, _ => rfl
  | a :: js, n, i + 1, h => by simpa [sigM, nthN] using sigM_lt (js := js) (n := n) (i := i) (by simpa using h)
  | [], _, _, h => by simp at h
theorem sigM_ge : ∀ {js : List Nat} {n i : Nat}, js.length ≤ i → sigM js n i = n + (i - js.length)
  | [], n, i, _ => by simp [sigM]
  | a :: js, n, 0, h => by simp at h
  | a :: js, n, i + 1, h => by
    have := sigM_ge (js := js) (n := n) (i := i) (by simpa using h)
    simp only [sigM, this, List.length_cons]; omega
theorem sigM_inj {js : List Nat} {n i j : Nat} (hnd : js.Nodup) (hlt : ∀ k ∈ js, k < n) (h : sigM js n i = sigM js n j) : i = j := by
  by_cases hi : i < js.length <;> by_cases hj : j < js.length
  · rw [sigM_lt hi, sigM_lt hj] at h; exact nthN_inj hnd hi hj h
  · rw [sigM_lt hi, sigM_ge (by omega)] at h
    have := hlt _ (nthN_mem hi); omega
  · rw [sigM_lt hj, sigM_ge (by omega)] at h
    have := hlt _ (nthN_mem hj); omega
  · rw [sigM_ge (by omega), sigM_ge (by omega)] at h; omega

def setAll : List Nat → List It → List It → List It
  | [], ys, h => h ++ ys
  | j :: js, y :: ys, h => setAll js ys (h.set j y)
  | _ :: _, [], h => h
def setAllK : List Nat → List It → List It → (List It → Prop) → Prop
  | [], ys, h, k => appH h ys k
  | j :: js, y :: ys, h, k => setH h j y fun h => setAllK js ys h k
  | _ :: _, [], h, k => k h
theorem setAllK_eq : ∀ (js : List Nat) (ys h : List It) (k : List It → Prop), setAllK js ys h k = k (setAll js ys h)
  | [], ys, h, k => by simp only [setAllK, appH_eq, setAll]
  | j :: js, y :: ys, h, k => by simp only [setAllK, setH_eq, setAll, setAllK_eq js ys]
  | _ :: _, [], h, k => rfl
theorem setAll_len : ∀ {js : List Nat} {ys h : List It}, js.length ≤ ys.length → (setAll js ys h).length = h.length + (ys.length - js.length)
  | [], ys, h, _ => by simp [setAll]
  | j :: js, y :: ys, h, hl => by simp only [setAll, setAll_len (js := js) (ys := ys) (by simpa using hl), List.length_set, List.length_cons]; omega
  | _ :: _, [], h, hl => by simp at hl
theorem setAll_get : ∀ {js : List Nat} {ys h : List It} {k : Nat} {y : It}, js.Nodup → (∀ j ∈ js, j < h.length) → js.length ≤ ys.length → (setAll js ys h)[k]? = some y →
    (∃ m, k = sigM js h.length m ∧ ys[m]? = some y) ∨ (k < h.length ∧ k ∉ js ∧ h[k]? = some y)
  | [], ys, h, k, y, _, _, _, hy => by
    rcases at_append hy with ⟨h1, h2⟩ | ⟨h1, h2⟩
    · exact .inr ⟨h1, by simp, h2⟩
    · exact .inl ⟨k - h.length, by simp [sigM]; omega, h2⟩
  | j :: js, y0 :: ys, h, k, y, hnd, hlt, hl, hy => by
    obtain ⟨hj, hnd⟩ := List.nodup_cons.1 hnd
    rcases setAll_get (js := js) (ys := ys) (h := h.set j y0) hnd (fun i hi => by rw [List.length_set]; exact hlt i (by simp [hi])) (by simpa using hl) hy with ⟨m, h1, h2⟩ | ⟨h1, h2, h3⟩
    · exact .inl ⟨m + 1, by rw [h1, List.length_set]; rfl, by simpa using h2⟩
    · rw [List.length_set] at h1
      rcases at_set h3 with ⟨rfl, rfl, _⟩ | ⟨hne, h3⟩
      · exact .inl ⟨0, rfl, rfl⟩
      · exact .inr ⟨h1, by simp [hne, h2], h3⟩
  | _ :: _, [], _, _, _, _, _, hl, _ => by simp at hl

/-- What a caller knows still of what it handed over: the pointers (P), the values (S) that stay. -/
def keepG1 (js okP okS : List Nat) (c : XC) : XC :=
  match c with
  | .p k o => (match memJ k js, memJ k okP with | true, false => .un | _, _ => .p k o)
  | .sp k o n z => (match memJ k js, memJ k okP with | true, false => .un | _, _ => .sp k o n z)
  | .mp k => (match memJ k js, memJ k okP with | true, false => .un | _, _ => .mp k)
  | .ow k => (match memJ k js, memJ k okS with | true, false => .un | _, _ => .ow k)
  | .q k a b o => (match memJ k js, memJ k okS with | true, false => .un | _, _ => .q k a b o)
  | .fn _ _ _ => .un
  | c => c
def keepG (js okP okS : List Nat) (c : XC) : XC :=
  match c with
  | .fn f n caps => .fn f n fun j => keepG1 js okP okS (caps j)
  | c => keepG1 js okP okS c
def fxP : List XC → List Nat
  | [] => []
  | .p m 0 :: l => m :: fxP l
  | _ :: l => fxP l
def fxS : List XC → List Nat
  | [] => []
  | .ow m :: l => m :: fxS l
  | _ :: l => fxS l
theorem fxP_spec : ∀ {fx : List XC} {vs : List Value} {E E' : Env} {m : Nat}, RelL E fx vs → RelL E' fx vs → m ∈ fxP fx → m < E.n ∧ m < E'.n ∧ E'.blk m = E.blk m
  | [], _, _, _, _, _, _, h => by simp [fxP] at h
  | x :: l, [], _, _, _, h1, _, _ => h1.elim
  | x :: l, v :: vs, E, E', m, h1, h2, hm => by
    have ih : m ∈ fxP l → _ := fun h => fxP_spec h1.2 h2.2 h
    cases x with
    | p k o =>
      cases o with
      | zero =>
        simp only [fxP, List.mem_cons] at hm
        rcases hm with rfl | hm
        · have e := h1.1.2.symm.trans h2.1.2
          simp only [Value.pointer.injEq, Option.some.injEq, Addr.mk.injEq, and_true] at e
          exact ⟨h1.1.1, h2.1.1, e.symm⟩
        · exact ih hm
      | succ o => exact ih (by simpa [fxP] using hm)
    | _ => exact ih (by simpa [fxP] using hm)
theorem fxS_spec : ∀ {fx : List XC} {vs : List Value} {E E' : Env} {m : Nat}, RelL E fx vs → RelL E' fx vs → m ∈ fxS fx → m < E.n ∧ m < E'.n ∧ E'.sl m = E.sl m
  | [], _, _, _, _, _, _, h => by simp [fxS] at h
  | x :: l, [], _, _, _, h1, _, _ => h1.elim
  | x :: l, v :: vs, E, E', m, h1, h2, hm => by
    have ih : m ∈ fxS l → _ := fun h => fxS_spec h1.2 h2.2 h
    cases x with
    | ow k =>
      simp only [fxS, List.mem_cons] at hm
      rcases hm with rfl | hm
      · exact ⟨h1.1.1, h2.1.1, h2.1.2.1.symm.trans h1.1.2.1⟩
      · exact ih hm
    | _ => exact ih (by simpa [fxS] using hm)

/-- Of these there is something to tell. -/
def fxB (hs : List It) : List XC → Bool
  | [] => true
  | .ow m :: l => (match itemAt hs m with | .abs _ => fxB hs l | .row _ _ _ => fxB hs l | .prow _ _ _ _ => fxB hs l | _ => false)
  | .p m 0 :: l => (match Nat.blt m hs.length with | true => fxB hs l | false => false)
  | _ => false
theorem row_one {w : World} {e z n : Nat} {v : Value} {ys : List Value} (h : w.ownsRow 0 e z v n ys) : v.oneCell' = true := by
  rcases h.2 with ⟨rfl, _⟩ | ⟨g, cap, cur, rfl, _⟩ <;> rfl
theorem fxB_spec {w0 : Org} {F : Nat → Prop} {E : Env} {hs : List It} {w : World} (hp : Heap w0 F E hs w) : ∀ {fx : List XC}, fxB hs fx = true → ∃ vs, RelL E fx vs
  | [], _ => ⟨[], trivial⟩
  | x :: l, h => by
    unfold fxB at h
    split at h
    · rename_i e; cases e
    · rename_i m l' e
      cases e
      have key : ∀ {y : It}, itemAt hs m = y → y ≠ .dead → fxB hs l = true → (E.sl m).oneCell' = true → ∃ vs, RelL E (.ow m :: l) vs := fun e hnd hl ho => by
        obtain ⟨vs, hvs⟩ := fxB_spec hp hl
        exact ⟨E.sl m :: vs, ⟨hp.blkLt (itemAt_eq _ _ e hnd), rfl, ho⟩, hvs⟩
      split at h
      · rename_i A e; exact key e (by simp) h (A.one (hp.ok _ _ (itemAt_eq _ _ e (by simp))))
      · rename_i e' z xs e
        obtain ⟨ys, ho, _⟩ := hp.ok _ _ (itemAt_eq _ _ e (by simp))
        exact key e (by simp) h (row_one ho)
      · rename_i e' z as o e
        obtain ⟨ys, Ss, hpr⟩ := hp.ok _ _ (itemAt_eq _ _ e (by simp))
        exact key e (by simp) h (row_one hpr.row)
      · cases h
    · rename_i m l' e
      cases e
      split at h
      · rename_i hm
        obtain ⟨vs, hvs⟩ := fxB_spec hp h
        exact ⟨.pointer (some ⟨E.blk m, 0, none⟩) :: vs, ⟨by rw [hp.n]; exact blt_lt hm, rfl⟩, hvs⟩
      · cases h
    · cases h

theorem Heap.origin {w0 : Org} {F : Nat → Prop} {E : Env} {h : List It} {w : World} (hp : Heap w0 F E h w) : Heap ⟨w, E.bs⟩ (fun b => ∃ k x, h[k]? = some x ∧ Ow E k x b) E h w :=
  ⟨hp.bs, BsLe.refl _, fun _ h => .inl h, hp.n, hp.ok, fun k x b hx hb => ⟨(hp.own k x b hx hb).1, (hp.own k x b hx hb).2.1, .inr ⟨k, x, hx, hb⟩⟩, hp.sep, Fr.refl _ _⟩

theorem keepG_gst {E E2 : Env} {js okP okS : List Nat} (hn : E.n ≤ E2.n) (hb : ∀ k, k < E.n → (k ∉ js ∨ k ∈ okP) → E2.blk k = E.blk k) (hs : ∀ k, k < E.n → (k ∉ js ∨ k ∈ okS) → E2.sl k = E.sl k) (hbs : ∀ b, E.bs.B b → E2.bs.B b ∧ E2.bs.wb.heap[b]? = E.bs.wb.heap[b]?) : Gst E E2 (keepG js okP okS) := by
  have st : ∀ {x : XC} {v : Value}, St x → RelC E x v → RelC E2 x v := fun h hr => RelC.stable hbs _ _ h hr
  have kp : ∀ {k : Nat} {l : List Nat}, ¬ (memJ k js = true ∧ memJ k l = false) → k ∉ js ∨ k ∈ l := fun {k l} h => by
    by_cases h1 : k ∈ js
    · refine .inr (memJ_iff.1 ?_)
      cases h2 : memJ k l with
      | true => rfl
      | false => exact absurd ⟨memJ_iff.2 h1, h2⟩ h
    · exact .inl h1
  have h1 : ∀ x v, RelC E x v → RelC E2 (keepG1 js okP okS x) v := fun x v h => by
    cases x with
    | p k o =>
      simp only [keepG1]
      split
      · exact h.one
      · rename_i hno; exact ⟨Nat.lt_of_lt_of_le h.1 hn, by rw [hb k h.1 (kp fun hh => hno hh.1 hh.2)]; exact h.2⟩
    | sp k o n z =>
      simp only [keepG1]
      split
      · exact h.one
      · rename_i hno; exact ⟨Nat.lt_of_lt_of_le h.1 hn, by rw [hb k h.1 (kp fun hh => hno hh.1 hh.2)]; exact h.2⟩
    | mp k =>
      simp only [keepG1]
      split
      · exact h.one
      · rename_i hno; exact ⟨Nat.lt_of_lt_of_le h.1 hn, by rw [hb k h.1 (kp fun hh => hno hh.1 hh.2)]; exact h.2⟩
    | ow k =>
      simp only [keepG1]
      split
      · exact h.one
      · rename_i hno; exact ⟨Nat.lt_of_lt_of_le h.1 hn, by rw [hs k h.1 (kp fun hh => hno hh.1 hh.2)]; exact h.2⟩
    | q k a b o =>
      simp only [keepG1]
      split
      · exact h.one
      · rename_i hno; exact ⟨Nat.lt_of_lt_of_le h.1 hn, by rw [hs k h.1 (kp fun hh => hno hh.1 hh.2)]; exact h.2⟩
    | fn => exact h.one
    | un => exact h
    | il => exact h
    | i => exact h
    | bt => exact h
    | bf => exact h
    | b => exact h
    | v => exact h
    | ep => exact st (show St (.ep _ _) from trivial) h
    | rs => exact st (show St (.rs _ _ _) from trivial) h
  intro x v h
  unfold keepG
  split
  · exact RelC.fnMap h1 h
  · exact h1 x v h

/-- Memory behind a call that turned what was handed over. -/
theorem Heap.behindM {w0 : Org} {F : Nat → Prop} {E E' : Env} {h hs hs' : List It} {w w' : World} {js : List Nat} {fx : List XC} {vs : List Value} (hp : Heap w0 F E h w) (hnd : js.Nodup) (hlt : ∀ k ∈ js, k < h.length) (hpre : preAt h js (hs.map (renIt (nthN js)))) (hwh : wfH hs.length hs = true)
    (hfx : RelL (E.sub js hs.length) fx vs) (hfx' : RelL E' fx vs) (hle : hs.length ≤ hs'.length) (hp' : Heap ⟨w, E.bs⟩ (fun b => ∃ k x, hs[k]? = some x ∧ Ow (E.sub js hs.length) k x b) E' hs' w') :
    ∃ E2, Heap w0 F E2 (setAll js (hs'.map (renIt (sigM js h.length))) (h.map (gIt (keepG js ((fxP fx).map (nthN js)) ((fxS fx).map (nthN js)))))) w' ∧ EnvR (sigM js h.length) E' E2 ∧ Gst E E2 (keepG js ((fxP fx).map (nthN js)) ((fxS fx).map (nthN js))) := by
  have hlen : js.length = hs.length := by rw [preAt_len hpre, List.length_map]
  have hn' : E'.n = hs'.length := hp'.n
  let n := h.length
  let σ := sigM js n
  let okP := (fxP fx).map (nthN js)
  let okS := (fxS fx).map (nthN js)
  have inj : ∀ {i j : Nat}, σ i = σ j → i = j := fun h => sigM_inj hnd hlt h
  let ix : Nat → Option Nat := fun k => if hk : ∃ m, m < hs'.length ∧ σ m = k then some (Classical.choose hk) else none
  have ix1 : ∀ {m : Nat}, m < hs'.length → ix (σ m) = some m := fun {m} hm => by
    have hk : ∃ m', m' < hs'.length ∧ σ m' = σ m := ⟨m, hm, rfl⟩
    simp only [ix, dif_pos hk]
    exact congrArg some (inj (Classical.choose_spec hk).2)
  have ix0 : ∀ {k : Nat}, k < n → k ∉ js → ix k = none := fun {k} hk hkj => by
    refine dif_neg fun ⟨m, hm, e⟩ => ?_
    by_cases hmj : m < js.length
    · exact hkj (by rw [← e]; show sigM js n m ∈ js; rw [sigM_lt hmj]; exact nthN_mem hmj)
    · have : σ m = n + (m - js.length) := sigM_ge (by omega)
      omega
  let E2 : Env := { bs := E'.bs, n := n + (hs'.length - js.length), blk := fun k => match ix k with | some m => E'.blk m | none => E.blk k, sl := fun k => match ix k with | some m => E'.sl m | none => E.sl k, ext := fun k => match ix k with | some m => E'.ext m | none => E.ext k }
  have hb1 : ∀ {k : Nat}, k < n → k ∉ js → E2.blk k = E.blk k := fun h1 h2 => by simp only [E2, ix0 h1 h2]
  have hs1 : ∀ {k : Nat}, k < n → k ∉ js → E2.sl k = E.sl k := fun h1 h2 => by simp only [E2, ix0 h1 h2]
  have hx1 : ∀ {k : Nat}, k < n → k ∉ js → E2.ext k = E.ext k := fun h1 h2 => by simp only [E2, ix0 h1 h2]
  have hb2 : ∀ {m : Nat}, m < hs'.length → E2.blk (σ m) = E'.blk m := fun h1 => by simp only [E2, ix1 h1]
  have hs2 : ∀ {m : Nat}, m < hs'.length → E2.sl (σ m) = E'.sl m := fun h1 => by simp only [E2, ix1 h1]
  have hx2 : ∀ {m : Nat}, m < hs'.length → E2.ext (σ m) = E'.ext m := fun h1 => by simp only [E2, ix1 h1]
  have hσn : ∀ {m : Nat}, m < hs'.length → σ m < n + (hs'.length - js.length) := fun {m} hm => by
    by_cases hmj : m < js.length
    · have := hlt _ (nthN_mem hmj)
      show sigM js n m < _
      rw [sigM_lt hmj]; omega
    · have : σ m = n + (m - js.length) := sigM_ge (by omega)
      omega
  have hR : EnvR σ E' E2 := ⟨fun i hi => hσn (by omega), fun i hi => hb2 (by omega), fun i hi => hs2 (by omega), fun b hb => ⟨hb, rfl⟩⟩
  have hEn : E.n = n := hp.n
  have hg : Gst E E2 (keepG js okP okS) := by
    refine keepG_gst (by show E.n ≤ n + _; omega) (fun k hk hor => ?_) (fun k hk hor => ?_) hp'.le
    · by_cases hkj : k ∈ js
      · rcases hor with h1 | h1
        · exact absurd hkj h1
        · obtain ⟨m, hm, rfl⟩ := List.mem_map.1 h1
          obtain ⟨g1, g2, g3⟩ := fxP_spec hfx hfx' hm
          have g1 : m < hs.length := g1
          have := hb2 (m := m) (by omega)
          have e : σ m = nthN js m := sigM_lt (by omega)
          rw [e] at this
          rw [this, g3]; rfl
      · exact hb1 (by omega) hkj
    · by_cases hkj : k ∈ js
      · rcases hor with h1 | h1
        · exact absurd hkj h1
        · obtain ⟨m, hm, rfl⟩ := List.mem_map.1 h1
          obtain ⟨g1, g2, g3⟩ := fxS_spec hfx hfx' hm
          have g1 : m < hs.length := g1
          have := hs2 (m := m) (by omega)
          have e : σ m = nthN js m := sigM_lt (by omega)
          rw [e] at this
          rw [this, g3]; rfl
      · exact hs1 (by omega) hkj
  -- what was handed over was the caller's
  obtain ⟨hpk, hown0⟩ := PkOk.shut hp hnd (xs := []) (vs := []) hpre rfl hwh trivial
  have hown : ∀ b, (∃ k x, hs[k]? = some x ∧ Ow (E.sub js hs.length) k x b) → ∃ k x, k ∈ js ∧ h[k]? = some x ∧ Ow E k x b := fun b ⟨k, x, hx, hb⟩ => by
    obtain ⟨m, y, hy, hb'⟩ := hpk.own k x b hx hb
    obtain ⟨x', h1, h2, h3⟩ := hown0 m y b hy hb'
    exact ⟨_, x', h3, h1, h2⟩
  have notF : ∀ {k : Nat} {x : It} {b : Nat}, k ∉ js → h[k]? = some x → Ow E k x b → ¬ ∃ k x, hs[k]? = some x ∧ Ow (E.sub js hs.length) k x b := fun hkj hx hb hF => by
    obtain ⟨k', x', hk', hx', hb'⟩ := hown _ hF
    exact hkj (hp.sep _ _ _ _ _ hx hx' hb hb' ▸ hk')
  have hml : (h.map (gIt (keepG js okP okS))).length = n := by simp [n]
  have at_ : ∀ {k : Nat} {y : It}, (setAll js (hs'.map (renIt σ)) (h.map (gIt (keepG js okP okS))))[k]? = some y → (∃ m y0, k = σ m ∧ hs'[m]? = some y0 ∧ y = renIt σ y0) ∨ (k < n ∧ k ∉ js ∧ ∃ x, h[k]? = some x ∧ y = gIt (keepG js okP okS) x) := fun {k y} hy => by
    rcases setAll_get hnd (by rw [hml]; exact hlt) (by rw [List.length_map]; omega) hy with ⟨m, h1, h2⟩ | ⟨h1, h2, h3⟩
    · rw [hml] at h1
      rw [List.getElem?_map, Option.map_eq_some_iff] at h2
      obtain ⟨y0, h3, rfl⟩ := h2
      exact .inl ⟨m, y0, h1, h3, rfl⟩
    · rw [hml] at h1
      rw [List.getElem?_map, Option.map_eq_some_iff] at h3
      obtain ⟨x, h4, rfl⟩ := h3
      exact .inr ⟨h1, h2, x, h4, rfl⟩
  have mlt : ∀ {m : Nat} {y : It}, hs'[m]? = some y → m < hs'.length := fun hy => (List.getElem?_eq_some_iff.1 hy).1
  have owN : ∀ {m : Nat} {y : It}, hs'[m]? = some y → Ow E2 (σ m) (renIt σ y) = Ow E' m y := fun {m y} hy => Ow_ren y (hb2 (mlt hy)) (hs2 (mlt hy)) (hx2 (mlt hy))
  have owO : ∀ {k : Nat} {x : It}, k < n → k ∉ js → Ow E2 k (gIt (keepG js okP okS) x) = Ow E k x := fun {k x} h1 h2 => Ow_g x (hb1 h1 h2) (hs1 h1 h2) (hx1 h1 h2)
  have keep : ∀ {k : Nat} {x : It} {b : Nat}, k ∉ js → h[k]? = some x → Ow E k x b → w'.heap[b]? = w.heap[b]? := fun hkj hx hb => hp'.fr.block _ (hp.own _ _ _ hx hb).1 (notF hkj hx hb)
  refine ⟨E2, ⟨hp'.bs, hp.le.trans hp'.le, ?_, ?_, ?_, ?_, ?_, ?_⟩, hR, hg⟩
  · intro b hb
    rcases hp'.nb b hb with h1 | h1 | h1
    · exact hp.nb b h1
    · exact .inr (.inl (Nat.le_trans hp.fr.size h1))
    · obtain ⟨k, x, _, hx, hb'⟩ := hown b h1
      exact .inr (hp.own k x b hx hb').2.2
  · rw [setAll_len (by rw [List.length_map]; omega), hml, List.length_map]
  · intro k y hy
    rcases at_ hy with ⟨m, y0, rfl, hy0, rfl⟩ | ⟨h1, h2, x, hx, rfl⟩
    · exact renIt_ok hR (by rw [hn']; exact mlt hy0) (hx2 (mlt hy0)) (hp'.ok m y0 hy0)
    · exact hg.it (hb1 h1 h2) (hs1 h1 h2) (hx1 h1 h2) hp'.le ((hp.ok k x hx).of_block fun b hb => keep h2 hx hb)
  · intro k y b hy hb
    rcases at_ hy with ⟨m, y0, rfl, hy0, rfl⟩ | ⟨h1, h2, x, hx, rfl⟩
    · rw [owN hy0] at hb
      have h3 := hp'.own m y0 b hy0 hb
      refine ⟨h3.1, h3.2.1, ?_⟩
      rcases h3.2.2 with h4 | h4
      · exact .inl (Nat.le_trans hp.fr.size h4)
      · obtain ⟨k', x', _, hx', hb'⟩ := hown b h4
        exact (hp.own k' x' b hx' hb').2.2
    · rw [owO h1 h2] at hb
      have h3 := hp.own k x b hx hb
      refine ⟨Nat.lt_of_lt_of_le h3.1 hp'.fr.size, fun hB => ?_, h3.2.2⟩
      rcases hp'.nb b hB with h4 | h4 | h4
      · exact h3.2.1 h4
      · have : w.heap.size ≤ b := h4
        omega
      · exact notF h2 hx hb h4
  · intro j k x y b hjx hky hb hb'
    rcases at_ hjx with ⟨m1, y1, rfl, hy1, rfl⟩ | ⟨h1, h2, x1, hx1', rfl⟩ <;> rcases at_ hky with ⟨m2, y2, rfl, hy2, rfl⟩ | ⟨h3, h4, x2, hx2', rfl⟩
    · rw [owN hy1] at hb
      rw [owN hy2] at hb'
      rw [hp'.sep m1 m2 y1 y2 b hy1 hy2 hb hb']
    · exfalso
      rw [owN hy1] at hb
      rw [owO h3 h4] at hb'
      rcases (hp'.own m1 y1 b hy1 hb).2.2 with h5 | h5
      · have := (hp.own k x2 b hx2' hb').1
        have : w.heap.size ≤ b := h5
        omega
      · exact notF h4 hx2' hb' h5
    · exfalso
      rw [owN hy2] at hb'
      rw [owO h1 h2] at hb
      rcases (hp'.own m2 y2 b hy2 hb').2.2 with h5 | h5
      · have := (hp.own j x1 b hx1' hb).1
        have : w.heap.size ≤ b := h5
        omega
      · exact notF h2 hx1' hb h5
    · rw [owO h1 h2] at hb
      rw [owO h3 h4] at hb'
      exact hp.sep j k x1 x2 b hx1' hx2' hb hb'
  · refine ⟨hp'.fr.os.trans hp.fr.os, hp'.fr.tape.trans hp.fr.tape, hp'.fr.output.trans hp.fr.output, Nat.le_trans hp.fr.size hp'.fr.size, fun k hk hF => ?_⟩
    refine (hp'.fr.block k (Nat.lt_of_lt_of_le hk hp.fr.size) fun hF' => ?_).trans (hp.fr.block k hk hF)
    obtain ⟨k', x, _, hx, hb⟩ := hown k hF'
    rcases (hp.own k' x k hx hb).2.2 with h1 | h1
    · omega
    · exact hF h1

/-- What a caller has behind such a call. -/
def callM (js : List Nat) (fx : List XC) (v : XV) (hs' : List It) (ts : List XV) (h : List It) (k : KE) : Prop :=
  lenK h fun n => renVK (sigM js n) v fun v' => gTsK (keepG js ((fxP fx).map (nthN js)) ((fxS fx).map (nthN js))) ts fun ts' => gHK (keepG js ((fxP fx).map (nthN js)) ((fxS fx).map (nthN js))) h fun h1 =>
    renHK (sigM js n) hs' fun hs2 => setAllK js hs2 h1 fun h2 => k v' ts' h2
def ltB (n : Nat) : List Nat → Bool
  | [] => true
  | a :: l => (match Nat.blt a n with | true => ltB n l | false => false)
theorem ltB_spec {n : Nat} : ∀ {l : List Nat}, ltB n l = true → ∀ k ∈ l, k < n
  | [], _, _, hk => by simp at hk
  | a :: l, h, k, hk => by
    unfold ltB at h
    split at h
    · rename_i h1
      rcases List.mem_cons.1 hk with rfl | hk
      · exact blt_lt h1
      · exact ltB_spec h k hk
    · cases h

/-- A call by such a contract; the items stand at the places js. -/
theorem callx_m {C : Cx} {f : FuncId} {args ts : List XV} {h : List It} {k : KE} {xs : List XV} {hs : List It} {fx : List XC} {v : XV} {hs' : List It} (hf : FnM C.P f xs hs fx v hs') (js : List Nat)
    (hb : (nodupB js && ltB h.length js && wfVs hs.length xs && wfL hs.length fx && wfH hs.length hs && fxB hs fx && Nat.ble hs.length hs'.length) = true)
    (hargs : entVs args (xs.map (renV (nthN js)))) (hpre : preAt h js (hs.map (renIt (nthN js)))) (hk : callM js fx v hs' ts h k) : CallX C f args ts h k := by
  simp only [Bool.and_eq_true] at hb
  obtain ⟨⟨⟨⟨⟨⟨hnd, hlt⟩, hwx⟩, hwf⟩, hwh⟩, hfb⟩, hle⟩ := hb
  have hnd := nodupB_iff hnd
  have hlt := ltB_spec hlt
  have hle := Nat.le_of_ble_eq_true hle
  unfold callM at hk
  rw [lenK_eq, renVK_eq, gTsK_eq, gHK_eq, renHK_eq, setAllK_eq] at hk
  unfold CallX
  refine ⟨hf.ok, fun w0 F E w vs us hr hax hp => ?_⟩
  have hsub := hp.sub hnd hpre hwh
  have hax' : RelTs (E.sub js hs.length) xs us := unrenTs (E.sub_u js _) hwx (entVs_rel hargs hax)
  obtain ⟨vf, hvf⟩ := fxB_spec hsub hfb
  refine (hf.run _ _ _ w us vf hsub.origin hax' hvf).mono fun e w' ⟨u, E', he, hp', hu, hvf'⟩ => ?_
  obtain ⟨E2, h1, h2, h3⟩ := hp.behindM hnd hlt hpre hwh hvf hvf' hle hp'
  exact ⟨u, _, _, _, E2, he, hk, renV_rel h2 hu, h3.ts hr, h1⟩
end Go.Eng
