/- The engine, part Gc: more steps that no operation takes. Nothing of any program is proved here. -/
import Derived.Test.YtbhmplbckkipjaaEngGb
namespace Go.Eng
open Go Go.RowKit
set_option linter.unusedSimpArgs false
set_option linter.unusedVariables false

def nthN : List Nat → Nat → Nat
  | [], _ => 0
  | a :: _, 0 => a
  | _ :: l, n + 1 => nthN l n
theorem nthN_get : ∀ {l : List Nat} {i : Nat}, i < l.length → l[i]? = some (nthN l i)
  | a :: l, 0, _ => rfl
  | a :: l, i + 1, h => by simpa [nthN] using nthN_get (l := l) (i := i) (by simpa using h)
  | [], _, h => by simp at h
theorem nthN_mem {l : List Nat} {i : Nat} (h : i < l.length) : nthN l i ∈ l := List.mem_of_getElem? (nthN_get h)
theorem nthN_inj {l : List Nat} (hl : l.Nodup) {i j : Nat} (hi : i < l.length) (hj : j < l.length) (h : nthN l i = nthN l j) : i = j := by
  have h1 := nthN_get hi
  have h2 := nthN_get hj
  rw [h] at h1
  exact (List.getElem?_inj hi hl).1 (h1.trans h2.symm)
def nodupB : List Nat → Bool
  | [] => true
  | a :: l => (match memJ a l with | true => false | false => nodupB l)
theorem memJ_iff {n : Nat} : ∀ {l : List Nat}, memJ n l = true ↔ n ∈ l
  | [] => by simp [memJ]
  | a :: l => by
    unfold memJ
    split
    · rename_i h; have := Nat.eq_of_beq_eq_true h; simp [this]
    · rename_i h; have := beq_ne h; rw [memJ_iff (l := l)]; simp [this]
theorem nodupB_iff : ∀ {l : List Nat}, nodupB l = true → l.Nodup
  | [], _ => List.nodup_nil
  | a :: l, h => by
    unfold nodupB at h
    split at h
    · cases h
    · rename_i hm
      exact List.nodup_cons.2 ⟨fun hmem => (by rw [memJ_iff.2 hmem] at hm; cases hm), nodupB_iff h⟩

/-- At these places stand these items, or such as say more. -/
def preAt (h : List It) : List Nat → List It → Prop
  | [], [] => True
  | j :: js, y :: ys => ItLe (itemAt h j) y ∧ preAt h js ys
  | _, _ => False
theorem preAt_len {h : List It} : ∀ {js : List Nat} {ys : List It}, preAt h js ys → js.length = ys.length
  | [], [], _ => rfl
  | _ :: _, _ :: _, hp => by simp [preAt_len hp.2]
  | [], _ :: _, hp => hp.elim
  | _ :: _, [], hp => hp.elim
theorem preAt_get {h : List It} : ∀ {js : List Nat} {ys : List It}, preAt h js ys → ∀ {m : Nat} {y : It}, ys[m]? = some y → ItLe (itemAt h (nthN js m)) y
  | _ :: _, _ :: _, hp, 0, y, hy => by simp at hy; subst hy; exact hp.1
  | _ :: _, _ :: _, hp, m + 1, y, hy => preAt_get hp.2 (by simpa using hy)
  | [], [], _, _, _, hy => by simp at hy
  | [], _ :: _, hp, _, _, _ => hp.elim
  | _ :: _, [], hp, _, _, _ => hp.elim

theorem ItLe.ok' {E : Env} {x y : It} (h : ItLe x y) {w : World} {k : Nat} (hi : ItOk E w k x) : ItOk E w k y := by
  cases y with
  | dead => trivial
  | cells ty cs =>
    cases x with
    | cells ty' cs' => obtain ⟨rfl, he⟩ := h; obtain ⟨vs, hv, hrel⟩ := hi; exact ⟨vs, hv, entL_rel he hrel⟩
    | _ => exact h.elim
  | row e z xs =>
    cases x with
    | row e' z' ys =>
      obtain ⟨⟨rfl, rfl⟩, he⟩ := h
      obtain ⟨vs, ho, hrel, hl, hst⟩ := hi
      rw [entLL_len he] at ho
      exact ⟨vs, ho, entL_rel (entLL_flat he) hrel, entLL_lens he hl, entL_st (entLL_flat he) hst⟩
    | _ => exact h.elim
  | obj Φ => have h : x = .obj Φ := h; subst h; exact hi
  | abs A' =>
    cases x with
    | abs A => exact h _ _ _ _ hi
    | _ => exact h.elim
  | held us ys =>
    cases x with
    | held us' xs => obtain ⟨rfl, h⟩ := h; exact entTs_rel h hi
    | _ => exact h.elim
  | prow e z as o =>
    cases x with
    | prow e' z' bs o' =>
      obtain ⟨⟨rfl, rfl⟩, hA, hO⟩ := h
      obtain ⟨ys, Ss, h1⟩ := hi
      have hlen := leA_len hA
      refine ⟨ys, Ss, by rw [← hlen]; exact h1.row, fun i b hb hno => ?_, fun i cs e => ?_, h1.sep, h1.own, h1.blk⟩
      · obtain ⟨a, ha, hle⟩ := leA_get hA hb
        refine hle _ _ _ _ (h1.el i a ha fun cs e => ?_)
        subst e
        cases o with
        | none => exact hO.elim
        | some p => obtain ⟨rfl, _⟩ := hO; exact hno p.2 rfl
      · subst e
        cases o' with
        | none => exact hO.elim
        | some p =>
          obtain ⟨e1, e2⟩ := hO
          obtain ⟨g1, g2, g3⟩ := h1.op p.1 p.2 rfl
          rw [e1] at g1 g3
          exact ⟨by rw [← hlen]; exact g1, by rw [← entL_len e2]; exact g2, entL_rel e2 g3⟩
    | _ => exact h.elim
theorem ItLe.ow' {E : Env} {x y : It} (h : ItLe x y) {k b : Nat} (hy : Ow E k y b) : Ow E k x b := ItLe.ow (n := E.n) h hy
theorem ItLe.live {x y : It} (h : ItLe x y) (hy : y ≠ .dead) : x ≠ .dead := fun e => by
  subst e
  cases y with
  | dead => exact hy rfl
  | obj Φ => cases (show It.dead = .obj Φ from h)
  | _ => exact h.elim

/-- So many items, those of these places. -/
def Env.sub (E : Env) (js : List Nat) (n : Nat) : Env := { bs := E.bs, n := n, blk := fun m => E.blk (nthN js m), sl := fun m => E.sl (nthN js m), ext := fun m => E.ext (nthN js m) }
theorem Env.sub_u (E : Env) (js : List Nat) (n : Nat) : EnvU (nthN js) (E.sub js n) E := ⟨fun _ _ => rfl, fun _ _ => rfl, rfl⟩
/-- What these places hold makes a pack. -/
theorem PkOk.shut {w0 : Org} {F : Nat → Prop} {E : Env} {h : List It} {w : World} (hp : Heap w0 F E h w) {js : List Nat} (hnd : js.Nodup) {xs : List XC} {hs : List It} {vs : List Value} (hpre : preAt h js (hs.map (renIt (nthN js))))
    (hwx : wfL hs.length xs = true) (hwh : wfH hs.length hs = true) (hr : RelL E (xs.map (renC (nthN js))) vs) :
    PkOk xs hs (E.sub js hs.length) vs (fun b => ∃ m y, hs[m]? = some y ∧ Ow E (nthN js m) (renIt (nthN js) y) b) w ∧
      ∀ m y b, hs[m]? = some y → Ow E (nthN js m) (renIt (nthN js) y) b → ∃ x, h[nthN js m]? = some x ∧ Ow E (nthN js m) x b ∧ nthN js m ∈ js := by
  have hlen : js.length = hs.length := by rw [preAt_len hpre, List.length_map]
  let E0 : Env := E.sub js hs.length
  have hU : EnvU (nthN js) E0 E := E.sub_u js _
  have hlt : ∀ {m : Nat} {y : It}, hs[m]? = some y → m < hs.length := fun hy => (List.getElem?_eq_some_iff.1 hy).1
  have hle : ∀ {m : Nat} {y : It}, hs[m]? = some y → ItLe (itemAt h (nthN js m)) (renIt (nthN js) y) := fun hy => preAt_get hpre (by rw [List.getElem?_map, hy]; rfl)
  have hown : ∀ m y b, hs[m]? = some y → Ow E (nthN js m) (renIt (nthN js) y) b → ∃ x, h[nthN js m]? = some x ∧ Ow E (nthN js m) x b ∧ nthN js m ∈ js := fun m y b hy hb => by
    have h1 := hle hy
    have hnd : renIt (nthN js) y ≠ .dead := fun e => by rw [e] at hb; exact hb
    exact ⟨_, itemAt_eq _ _ rfl (h1.live hnd), h1.ow' hb, nthN_mem (by rw [hlen]; exact hlt hy)⟩
  refine ⟨⟨rfl, unrenL hU hwx hr, fun m y hy => ?_, fun m y b hy hb => ?_, fun a c x y b hx hy hxb hyb => ?_⟩, hown⟩
  · have h1 := hle hy
    have hok : ItOk E w (nthN js m) (renIt (nthN js) y) := by
      by_cases hd : renIt (nthN js) y = .dead
      · rw [hd]; trivial
      · exact h1.ok' (hp.ok _ _ (itemAt_eq _ _ rfl (h1.live hd)))
    exact unrenIt_ok hU (hlt hy) rfl (wfH_get hwh hy) hok
  · refine ⟨m, y, hy, ?_⟩
    rw [Ow_ren (E0 := E0) (E := E) (σ := nthN js) (k := m) y rfl rfl rfl]; exact hb
  · rw [← Ow_ren (E0 := E0) (E := E) (σ := nthN js) (k := a) x rfl rfl rfl] at hxb
    rw [← Ow_ren (E0 := E0) (E := E) (σ := nthN js) (k := c) y rfl rfl rfl] at hyb
    obtain ⟨x', hx', hxb', _⟩ := hown a x b hx hxb
    obtain ⟨y', hy', hyb', _⟩ := hown c y b hy hyb
    exact nthN_inj hnd (by rw [hlen]; exact hlt hx) (by rw [hlen]; exact hlt hy) (hp.sep _ _ _ _ b hx' hy' hxb' hyb')

/-- These places are empty from here on. -/
def killAt : List Nat → List It → List It
  | [], h => h
  | j :: js, h => killAt js (h.set j .dead)
def killAtK : List Nat → List It → (List It → Prop) → Prop
  | [], h, k => k h
  | j :: js, h, k => setH h j .dead fun h => killAtK js h k
theorem killAtK_eq : ∀ (js : List Nat) (h : List It) (k : List It → Prop), killAtK js h k = k (killAt js h)
  | [], _, _ => rfl
  | j :: js, h, k => by simp only [killAtK, setH_eq, killAt, killAtK_eq js]
theorem killAt_len : ∀ (js : List Nat) (h : List It), (killAt js h).length = h.length
  | [], _ => rfl
  | j :: js, h => by rw [killAt, killAt_len js]; simp
theorem killAt_get : ∀ {js : List Nat} {h : List It} {k : Nat} {y : It}, (killAt js h)[k]? = some y → (k ∈ js ∧ y = .dead) ∨ (k ∉ js ∧ h[k]? = some y)
  | [], h, k, y, hy => .inr ⟨by simp, hy⟩
  | j :: js, h, k, y, hy => by
    rcases killAt_get (js := js) hy with ⟨h1, h2⟩ | ⟨h1, h2⟩
    · exact .inl ⟨by simp [h1], h2⟩
    · rcases at_set h2 with ⟨rfl, rfl, _⟩ | ⟨hne, h2⟩
      · exact .inl ⟨by simp, rfl⟩
      · exact .inr ⟨by simp [hne, h1], h2⟩

/-! ### shutting an element -/
theorem close_sound {h : List It} {it i e z : Nat} {as : List AbsL} {cs : List XC} {js : List Nat} {xs : List XC} {hs : List It} (hx : h[it]? = some (.prow e z as (some (i, cs)))) (hnd : js.Nodup) (hnit : it ∉ js)
    (hcs : entL cs (xs.map (renC (nthN js)))) (hpre : preAt h js (hs.map (renIt (nthN js)))) (hwx : wfL hs.length xs = true) (hwh : wfH hs.length hs = true) :
    GhS h (fun x => x) (killAt js (h.set it (.prow e z (as.set i (PackL xs hs)) none))) := by
  intro w0 F E w hp
  obtain ⟨ys, Ss, hpr⟩ := hp.ok it _ hx
  obtain ⟨g1, g2, g3⟩ := hpr.op i cs rfl
  obtain ⟨hpk, hown⟩ := PkOk.shut hp hnd hpre hwx hwh (entL_rel hcs g3)
  let S : Nat → Prop := fun b => ∃ m y, hs[m]? = some y ∧ Ow E (nthN js m) (renIt (nthN js) y) b
  have hSo : ∀ b, S b → ∃ k x, k ∈ js ∧ h[k]? = some x ∧ Ow E k x b := fun b ⟨m, y, hy, hb⟩ => by
    obtain ⟨x, h1, h2, h3⟩ := hown m y b hy hb; exact ⟨_, x, h3, h1, h2⟩
  have hSx : ∀ b, S b → ¬ E.ext it b := fun b hb hx' => by
    obtain ⟨k, x, hk, hkx, hkb⟩ := hSo b hb
    have := hp.sep it k _ x b hx hkx hx' hkb
    exact hnit (this ▸ hk)
  let E2 : Env := { E with ext := fun k => if k = it then (fun b => E.ext it b ∨ S b) else E.ext k }
  have hx1 : ∀ k, k ≠ it → E2.ext k = E.ext k := fun k hk => by simp [E2, hk]
  have hxi : ∀ b, E2.ext it b ↔ E.ext it b ∨ S b := fun b => by simp [E2]
  have hc : EnvC E E2 := ⟨Nat.le_refl _, fun _ _ => rfl, fun _ _ => rfl, fun _ h => ⟨h, rfl⟩⟩
  refine ⟨E2, hp.remix rfl (by rw [killAt_len]; simp [E2, hp.n]) (Gst.id hc) (fun k => k ≠ it ∧ k ∉ js) (fun k y hy hk => ?_) (fun k y hy hk => ?_) (fun j k x y b hjx hky hj hk hb hb' => ?_), Gst.id hc⟩
  · rcases killAt_get hy with ⟨h1, _⟩ | ⟨_, hy⟩
    · exact absurd h1 hk.2
    · rcases at_set hy with ⟨h1, _⟩ | ⟨_, hy⟩
      · exact absurd h1 hk.1
      · exact ⟨y, hy, (gIt_id y).symm, rfl, rfl, hx1 k hk.1⟩
  · rcases killAt_get hy with ⟨h1, rfl⟩ | ⟨h1, hy⟩
    · exact ⟨trivial, fun b hb => hb.elim⟩
    · rcases at_set hy with ⟨rfl, rfl, _⟩ | ⟨h2, _⟩
      · have hil : i < (as.set i (PackL xs hs)).length := by simpa using g1
        refine ⟨⟨ys, fun j b => (j ≠ i ∧ Ss j b) ∨ (j = i ∧ S b), by rw [List.length_set]; exact hpr.row, fun j a ha _ => ?_, fun j cs' e => (by cases e), fun j j' b h3 h4 => ?_, fun j b h3 => ?_, fun b h3 => (hxi b).2 (.inl (hpr.blk b h3))⟩, fun b hb => ?_⟩
        · by_cases hj : j = i
          · subst hj
            rw [List.getElem?_set_self g1] at ha
            cases ha
            have hSe : (fun b => (j ≠ j ∧ Ss j b) ∨ (j = j ∧ S b)) = S := by funext b; exact propext ⟨fun h => h.elim (fun h => absurd rfl h.1) (fun h => h.2), fun h => .inr ⟨rfl, h⟩⟩
            rw [hSe]
            exact ⟨E.sub _ _, rfl, hpk⟩
          · rw [List.getElem?_set_ne (fun e => hj e.symm)] at ha
            have hSe : (fun b => (j ≠ i ∧ Ss j b) ∨ (j = i ∧ S b)) = Ss j := by funext b; exact propext ⟨fun h => h.elim (fun h => h.2) (fun h => absurd h.1 hj), fun h => .inl ⟨hj, h⟩⟩
            rw [hSe]
            exact hpr.el j a ha fun cs' e => by cases e; exact hj rfl
        · rcases h3 with ⟨h3, h5⟩ | ⟨h3, h5⟩ <;> rcases h4 with ⟨h4, h6⟩ | ⟨h4, h6⟩
          · exact hpr.sep j j' b h5 h6
          · exact absurd (hpr.own j b h5).1 (hSx b h6)
          · exact absurd (hpr.own j' b h6).1 (hSx b h5)
          · omega
        · rcases h3 with ⟨_, h5⟩ | ⟨_, h5⟩
          · exact ⟨(hxi b).2 (.inl (hpr.own j b h5).1), (hpr.own j b h5).2⟩
          · exact ⟨(hxi b).2 (.inr h5), fun h => hSx b h5 (hpr.blk b h)⟩
        · rcases (hxi b).1 hb with h3 | h3
          · exact ⟨k, _, fun h => h.1 rfl, hx, h3⟩
          · obtain ⟨k', x, hk', hkx, hkb⟩ := hSo b h3
            exact ⟨k', x, fun h => h.2 hk', hkx, hkb⟩
      · exact absurd ⟨h2, h1⟩ hk
  · rcases killAt_get hjx with ⟨_, rfl⟩ | ⟨h1, hjx⟩
    · exact hb.elim
    · rcases killAt_get hky with ⟨_, rfl⟩ | ⟨h2, hky⟩
      · exact hb'.elim
      · have e1 : j = it := Classical.byContradiction fun e => hj ⟨e, h1⟩
        have e2 : k = it := Classical.byContradiction fun e => hk ⟨e, h2⟩
        rw [e1, e2]
end Go.Eng
