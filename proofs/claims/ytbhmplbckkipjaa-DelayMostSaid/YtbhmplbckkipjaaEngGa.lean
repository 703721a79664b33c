/- The engine, part Ga: items named anew; packs: what is owned, said by items of its own. Nothing of any program is proved here. -/
import Derived.Test.YtbhmplbckkipjaaEngZ
namespace Go.Eng
open Go Go.RowKit
set_option linter.unusedSimpArgs false
set_option linter.unusedVariables false

/-! ### other numbers for items -/
def renC (σ : Nat → Nat) : XC → XC
  | .p it o => .p (σ it) o
  | .ow it => .ow (σ it)
  | .q it i z o => .q (σ it) i z o
  | .sp it o n z => .sp (σ it) o n z
  | .mp it => .mp (σ it)
  | .fn f n caps => .fn f n fun j => renC σ (caps j)
  | x => x
def renV (σ : Nat → Nat) : XV → XV
  | .c x => .c (renC σ x)
  | .a l => .a (l.map (renC σ))
  | .t [] => .t []
  | .t l => .t (l.map fun | .c x => .c (renC σ x) | .a l => .a (l.map (renC σ)))
  | .un => .un
def renIt (σ : Nat → Nat) : It → It
  | .cells ty cs => .cells ty (cs.map (renC σ))
  | .held vs xs => .held vs (xs.map (renV σ))
  | .prow e z as (some (i, cs)) => .prow e z as (some (i, cs.map (renC σ)))
  | x => x

theorem renC_st {σ : Nat → Nat} {x : XC} (h : St x) : renC σ x = x := by cases x <;> first | rfl | exact h.elim

/-- What E0 says of its items E says of these under their new numbers. -/
structure EnvR (σ : Nat → Nat) (E0 E : Env) : Prop where
  n : ∀ i, i < E0.n → σ i < E.n
  blk : ∀ i, i < E0.n → E.blk (σ i) = E0.blk i
  sl : ∀ i, i < E0.n → E.sl (σ i) = E0.sl i
  bs : ∀ b, E0.bs.B b → E.bs.B b ∧ E.bs.wb.heap[b]? = E0.bs.wb.heap[b]?

theorem renC_rel {σ : Nat → Nat} {E0 E : Env} (hE : EnvR σ E0 E) : ∀ (x : XC) (v : Value), RelC E0 x v → RelC E (renC σ x) v
  | .p it off, v, h => ⟨hE.n it h.1, by rw [hE.blk it h.1]; exact h.2⟩
  | .ow it, v, h => ⟨hE.n it h.1, by rw [hE.sl it h.1]; exact h.2⟩
  | .q it i z off, v, h => ⟨hE.n it h.1, by rw [hE.sl it h.1]; exact h.2⟩
  | .sp it off n z, v, h => ⟨hE.n it h.1, by rw [hE.blk it h.1]; exact h.2⟩
  | .mp it, v, h => ⟨hE.n it h.1, by rw [hE.blk it h.1]; exact h.2⟩
  | .fn f n caps, v, h => by
    obtain ⟨vs, rfl, hn, hc⟩ := h
    refine ⟨vs, rfl, hn, fun j hj => ?_⟩
    obtain ⟨u, hu, hr⟩ := hc j hj
    exact ⟨u, hu, renC_rel hE (caps j) u hr⟩
  | .un, _, h => h
  | .il _ _, _, h => h
  | .i _ _, _, h => h
  | .bt, _, h => h
  | .bf, _, h => h
  | .b _, _, h => h
  | .v _, _, h => h
  | .ep m f, v, h => RelC.stable (E := E0) hE.bs (.ep m f) v trivial h
  | .rs n z f, v, h => RelC.stable (E := E0) hE.bs (.rs n z f) v trivial h
theorem renL_rel {σ : Nat → Nat} {E0 E : Env} (hE : EnvR σ E0 E) : ∀ {l : List XC} {vs : List Value}, RelL E0 l vs → RelL E (l.map (renC σ)) vs
  | [], [], _ => trivial
  | _ :: _, _ :: _, h => ⟨renC_rel hE _ _ h.1, renL_rel hE h.2⟩
  | [], _ :: _, h => h.elim
  | _ :: _, [], h => h.elim
theorem renWs_rel {σ : Nat → Nat} {E0 E : Env} (hE : EnvR σ E0 E) : ∀ {l : List XW} {vs : List Value}, RelWs E0 l vs → RelWs E (l.map fun | .c x => .c (renC σ x) | .a l => .a (l.map (renC σ))) vs
  | [], [], _ => trivial
  | .c _ :: _, _ :: _, h => ⟨renC_rel hE _ _ h.1, renWs_rel hE h.2⟩
  | .a _ :: _, _ :: _, h => ⟨by obtain ⟨us, e, hl⟩ := h.1; exact ⟨us, e, renL_rel hE hl⟩, renWs_rel hE h.2⟩
  | [], _ :: _, h => h.elim
  | _ :: _, [], h => h.elim
theorem renV_rel {σ : Nat → Nat} {E0 E : Env} (hE : EnvR σ E0 E) {x : XV} {v : Value} (h : RelV E0 x v) : RelV E (renV σ x) v := by
  cases x with
  | un => trivial
  | c x => exact renC_rel hE x v h
  | a l => obtain ⟨us, e, hl⟩ := h; exact ⟨us, e, renL_rel hE hl⟩
  | t l =>
    obtain ⟨us, e, hl⟩ := h
    cases l with
    | nil => exact ⟨us, e, by cases hu : us.toList with | nil => trivial | cons a l => rw [hu] at hl; exact hl.elim⟩
    | cons a l => exact ⟨us, e, renWs_rel hE hl⟩
theorem renTs_rel {σ : Nat → Nat} {E0 E : Env} (hE : EnvR σ E0 E) : ∀ {l : List XV} {vs : List Value}, RelTs E0 l vs → RelTs E (l.map (renV σ)) vs
  | [], [], _ => trivial
  | _ :: _, _ :: _, h => ⟨renV_rel hE h.1, renTs_rel hE h.2⟩
  | [], _ :: _, h => h.elim
  | _ :: _, [], h => h.elim

/-- .. and what they own. -/
theorem renIt_ok {σ : Nat → Nat} {E0 E : Env} (hE : EnvR σ E0 E) {w : World} {k : Nat} (hk : k < E0.n) (hx : E.ext (σ k) = E0.ext k) {x : It} (h : ItOk E0 w k x) : ItOk E w (σ k) (renIt σ x) := by
  cases x with
  | dead => trivial
  | cells ty cs => obtain ⟨vs, hv, hr⟩ := h; exact ⟨vs, by rw [hE.blk k hk]; exact hv, renL_rel hE hr⟩
  | row e z xs => obtain ⟨ys, ho, hr, hl, hs⟩ := h; exact ⟨ys, by rw [hE.sl k hk]; exact ho, RelL.stable (E := E0) hE.bs hs hr, hl, hs⟩
  | obj Φ => obtain ⟨o, ho, hr⟩ := h; exact ⟨o, by rw [hE.blk k hk]; exact ho, hr⟩
  | abs A =>
    show A.is E.bs (E.sl (σ k)) (E.ext (σ k)) w
    rw [hE.sl k hk, hx]
    exact A.st hE.bs (fun _ _ => rfl) h
  | held vs xs => exact renTs_rel hE h
  | prow e z as o =>
    obtain ⟨ys, Ss, h1⟩ := h
    have hrow : w.ownsRow 0 e z (E.sl (σ k)) as.length ys := by rw [hE.sl k hk]; exact h1.row
    have hown : ∀ i b, Ss i b → E.ext (σ k) b ∧ (E.sl (σ k)).ownBlock ≠ some b := by rw [hE.sl k hk, hx]; exact h1.own
    have hblk : ∀ b, (E.sl (σ k)).ownBlock = some b → E.ext (σ k) b := by rw [hE.sl k hk, hx]; exact h1.blk
    cases o with
    | none => exact ⟨ys, Ss, hrow, fun i a ha hno => a.st hE.bs (fun _ _ => rfl) (h1.el i a ha hno), fun i cs e => (by cases e), h1.sep, hown, hblk⟩
    | some p =>
      refine ⟨ys, Ss, hrow, fun i a ha hno => a.st hE.bs (fun _ _ => rfl) (h1.el i a ha fun cs e => hno (cs.map (renC σ)) (by cases e; rfl)), fun i cs e => ?_, h1.sep, hown, hblk⟩
      cases e
      obtain ⟨g1, g2, g3⟩ := h1.op p.1 p.2 rfl
      exact ⟨g1, by simpa using g2, renL_rel hE g3⟩
theorem Ow_ren {σ : Nat → Nat} {E0 E : Env} {k : Nat} (x : It) (hb : E.blk (σ k) = E0.blk k) (hs : E.sl (σ k) = E0.sl k) (hx : E.ext (σ k) = E0.ext k) : Ow E (σ k) (renIt σ x) = Ow E0 k x := by
  funext b
  cases x with
  | prow e z as o => cases o <;> simp [Ow, renIt, hx]
  | _ => simp [Ow, renIt, hb, hs, hx]

/-! ### the way back -/
theorem unren_caps {m : Nat} : ∀ (n : Nat) {c : Nat → XC}, wfCaps m n c = true → ∀ j, j < n → (∃ it off, c j = .p it off ∧ it < m) ∨ St (c j)
  | 0, _, _, j, hj => by omega
  | n + 1, c, h, j, hj => by
    unfold wfCaps at h
    by_cases e : j = n
    · subst e
      cases hc : c j <;> rw [hc] at h <;> simp only at h
      case p it off =>
        split at h
        · rename_i h1; exact .inl ⟨it, off, rfl, blt_lt h1⟩
        · cases h
      all_goals first | exact .inr trivial | cases h
    · refine unren_caps n ?_ j (by omega)
      cases hc : c n <;> rw [hc] at h <;> simp only at h
      case p it off => split at h; exact h; cases h
      all_goals first | exact h | cases h

/-- The other way round: E0's items are these of E. -/
structure EnvU (σ : Nat → Nat) (E0 E : Env) : Prop where
  blk : ∀ i, i < E0.n → E0.blk i = E.blk (σ i)
  sl : ∀ i, i < E0.n → E0.sl i = E.sl (σ i)
  bs : E0.bs = E.bs

theorem unrenC {σ : Nat → Nat} {E0 E : Env} (hE : EnvU σ E0 E) {x : XC} {v : Value} (hw : wfC E0.n x = true) (h : RelC E (renC σ x) v) : RelC E0 x v := by
  have st : ∀ {y : XC} {u : Value}, St y → RelC E y u → RelC E0 y u := fun hs hr => RelC.stable (E := E) (by rw [hE.bs]; exact fun _ h => ⟨h, rfl⟩) _ _ hs hr
  cases x with
  | p it off => have hk := blt_lt hw; exact ⟨hk, by rw [hE.blk it hk]; exact h.2⟩
  | ow it => have hk := blt_lt hw; exact ⟨hk, by rw [hE.sl it hk]; exact h.2⟩
  | q it => have hk := blt_lt hw; exact ⟨hk, by rw [hE.sl it hk]; exact h.2⟩
  | sp it => have hk := blt_lt hw; exact ⟨hk, by rw [hE.blk it hk]; exact h.2⟩
  | mp it => have hk := blt_lt hw; exact ⟨hk, by rw [hE.blk it hk]; exact h.2⟩
  | fn f n caps =>
    obtain ⟨vs, rfl, hn, hc⟩ := h
    refine ⟨vs, rfl, hn, fun j hj => ?_⟩
    obtain ⟨u, hu, hr⟩ := hc j hj
    have hr : RelC E (renC σ (caps j)) u := hr
    refine ⟨u, hu, ?_⟩
    rcases unren_caps n hw j hj with ⟨it, off, e, hk⟩ | hs
    · rw [e] at hr ⊢
      exact ⟨hk, by rw [hE.blk it hk]; exact hr.2⟩
    · rw [renC_st hs] at hr
      exact st hs hr
  | ep => exact st (show St (.ep _ _) from trivial) h
  | rs => exact st (show St (.rs _ _ _) from trivial) h
  | un => exact h
  | il => exact h
  | i => exact h
  | bt => exact h
  | bf => exact h
  | b => exact h
  | v => exact h
theorem unrenL {σ : Nat → Nat} {E0 E : Env} (hE : EnvU σ E0 E) : ∀ {l : List XC} {vs : List Value}, wfL E0.n l = true → RelL E (l.map (renC σ)) vs → RelL E0 l vs
  | [], [], _, _ => trivial
  | x :: l, v :: vs, hw, h => by
    unfold wfL at hw
    split at hw
    · rename_i h1; exact ⟨unrenC hE h1 h.1, unrenL hE hw h.2⟩
    · cases hw
  | [], _ :: _, _, h => h.elim
  | _ :: _, [], _, h => h.elim
theorem unrenV {σ : Nat → Nat} {E0 E : Env} (hE : EnvU σ E0 E) {x : XV} {v : Value} (hw : wfV E0.n x = true) (h : RelV E (renV σ x) v) : RelV E0 x v := by
  cases x with
  | un => trivial
  | c x => exact unrenC hE hw h
  | a l => obtain ⟨us, e, hl⟩ := h; exact ⟨us, e, unrenL hE hw hl⟩
  | t l =>
    cases l with
    | nil => obtain ⟨us, e, hl⟩ := h; exact ⟨us, e, by cases hu : us.toList with | nil => trivial | cons a l => rw [hu] at hl; exact hl.elim⟩
    | cons a l => cases hw
theorem unrenTs {σ : Nat → Nat} {E0 E : Env} (hE : EnvU σ E0 E) : ∀ {l : List XV} {vs : List Value}, wfVs E0.n l = true → RelTs E (l.map (renV σ)) vs → RelTs E0 l vs
  | [], [], _, _ => trivial
  | x :: l, v :: vs, hw, h => by
    unfold wfVs at hw
    split at hw
    · rename_i h1; exact ⟨unrenV hE h1 h.1, unrenTs hE hw h.2⟩
    · cases hw
  | [], _ :: _, _, h => h.elim
  | _ :: _, [], _, h => h.elim
theorem unrenIt_ok {σ : Nat → Nat} {E0 E : Env} (hE : EnvU σ E0 E) {w : World} {k : Nat} (hk : k < E0.n) (hx : E0.ext k = E.ext (σ k)) {x : It} (hw : wfIt E0.n x = true) (h : ItOk E w (σ k) (renIt σ x)) : ItOk E0 w k x := by
  have hbs : ∀ b, E.bs.B b → E0.bs.B b ∧ E0.bs.wb.heap[b]? = E.bs.wb.heap[b]? := by rw [hE.bs]; exact fun _ h => ⟨h, rfl⟩
  cases x with
  | dead => trivial
  | cells ty cs => obtain ⟨vs, hv, hr⟩ := h; exact ⟨vs, by rw [hE.blk k hk]; exact hv, unrenL hE hw hr⟩
  | row e z xs => obtain ⟨ys, ho, hr, hl, hs⟩ := h; exact ⟨ys, by rw [hE.sl k hk]; exact ho, RelL.stable (E := E) hbs hs hr, hl, hs⟩
  | obj Φ => obtain ⟨o, ho, hr⟩ := h; exact ⟨o, by rw [hE.blk k hk]; exact ho, hr⟩
  | abs A =>
    show A.is E0.bs (E0.sl k) (E0.ext k) w
    rw [hE.sl k hk, hx]
    exact A.st hbs (fun _ _ => rfl) h
  | held vs xs => exact unrenTs hE hw h
  | prow e z as o =>
    cases o with
    | none =>
      obtain ⟨ys, Ss, h1⟩ := h
      exact ⟨ys, Ss, by rw [hE.sl k hk]; exact h1.row, fun i a ha hno => a.st hbs (fun _ _ => rfl) (h1.el i a ha fun cs e => (by cases e)), fun i cs e => (by cases e), h1.sep, by rw [hE.sl k hk, hx]; exact h1.own, by rw [hE.sl k hk, hx]; exact h1.blk⟩
    | some p =>
      obtain ⟨i0, cs0⟩ := p
      obtain ⟨ys, Ss, h1⟩ := h
      refine ⟨ys, Ss, by rw [hE.sl k hk]; exact h1.row, fun i a ha hno => a.st hbs (fun _ _ => rfl) (h1.el i a ha fun cs e => hno cs0 (by cases e; rfl)), fun i cs e => ?_, h1.sep, by rw [hE.sl k hk, hx]; exact h1.own, by rw [hE.sl k hk, hx]; exact h1.blk⟩
      cases e
      obtain ⟨g1, g2, g3⟩ := h1.op i0 (cs0.map (renC σ)) rfl
      exact ⟨g1, by simpa using g2, unrenL hE hw g3⟩

/-! ### memory said anew -/
theorem Heap.re {w0 : Org} {F : Nat → Prop} {E E2 : Env} {h h2 : List It} {w : World} (hp : Heap w0 F E h w) (hb : E2.bs = E.bs) (hn : E2.n = h2.length) (hok : ∀ k y, h2[k]? = some y → ItOk E2 w k y)
    (how : ∀ k y b, h2[k]? = some y → Ow E2 k y b → ∃ k' x, h[k']? = some x ∧ Ow E k' x b) (hsep : ∀ j k x y b, h2[j]? = some x → h2[k]? = some y → Ow E2 j x b → Ow E2 k y b → j = k) : Heap w0 F E2 h2 w :=
  ⟨by rw [hb]; exact hp.bs, by rw [hb]; exact hp.le, by rw [hb]; exact hp.nb, hn, hok, fun k y b hy hyb => by
    obtain ⟨k', x, hx, hxb⟩ := how k y b hy hyb
    rw [hb]; exact hp.own k' x b hx hxb, hsep, hp.fr⟩

/-! ### laid aside, without a run -/
theorem lendC_rel2 {E E2 : Env} {h : List It} {w : World} (hok : ∀ k x, h[k]? = some x → ItOk E w k x) (hc : EnvC E E2) (hB : ∀ k x b, h[k]? = some x → Ow E k x b → E2.bs.B b ∧ E2.bs.wb.heap[b]? = w.heap[b]?)
    {x : XC} {v : Value} (hr : RelC E x v) : RelC E2 (lendC h x) v := by
  have cell : ∀ {g o : Nat} {u : Value}, E2.bs.wb.heap[g]? = w.heap[g]? → w.cell? ⟨g, o, none⟩ = some u → E2.bs.wb.cell? ⟨g, o, none⟩ = some u := fun e h => by rw [World.cell?_of_block (w := w) e]; exact h
  unfold lendC
  split
  · rename_i it
    split
    · rename_i e z xs hit
      have hx := itemAt_eq _ _ hit (by simp)
      rw [hr.2.1]
      obtain ⟨ys, how, hrel, hl, hst⟩ := hok it _ hx
      rcases how.2 with ⟨hsl, h0⟩ | ⟨g, cap, cur, hsl, _, _, hnc, hm, _, _⟩
      · refine ⟨none, 0, by rw [hsl, h0], by omega, by simp [maxLen], fun i hi => by omega⟩
      · have hg := hB it _ g hx (by simp [Ow, hsl, Value.ownBlock])
        refine ⟨_, _, hsl, hnc, hm, fun i hi => ⟨_, rfl, fun j hj => ?_⟩⟩
        have hf := flat_at hl i j hi hj
        obtain ⟨u, hu, hru⟩ := hrel.get _ hf
        have h1 := how.cells (g := g) (by simp [hsl, Value.ownBlock]) _ _ hu
        rw [add_lit] at h1 ⊢
        exact ⟨hg.1, u, cell hg.2 h1, hst _ (List.mem_of_getElem? hf), RelC.monoC hc _ _ hru⟩
    · rename_i e z as hit
      have hx := itemAt_eq _ _ hit (by simp)
      rw [hr.2.1]
      obtain ⟨ys, Ss, hpr⟩ := hok it _ hx
      rcases hpr.row.2 with ⟨hsl, h0⟩ | ⟨g, cap, cur, hsl, _, _, hnc, hm, _, _⟩
      · refine ⟨none, 0, by rw [hsl, h0], by omega, by simp [maxLen], fun i hi => by omega⟩
      · have hg := hB it _ g hx (hpr.blk g (by simp [hsl, Value.ownBlock]))
        refine ⟨_, _, hsl, hnc, hm, fun i hi => ⟨_, rfl, fun j hj => ?_⟩⟩
        have ha := List.getElem?_eq_getElem hi
        have h1 := hpr.el i _ ha (fun cs e => by cases e)
        have h2 := AbsL.fzOk _ h1 E2 hc.bs (fun b hb' => hB it _ b hx (hpr.own i b hb').1)
        have hlen : ((ys.drop (i * z)).take z).length = z := by
          have := hpr.row.1
          have hle : i * z + z ≤ as.length * z := by rw [← Nat.succ_mul]; exact Nat.mul_le_mul_right z hi
          rw [List.length_take, List.length_drop]; omega
        have hjl : j < (as[i]).fz.length := by rw [h2.len, hlen]; exact hj
        have hf : (as[i]).fz[j]? = some (nthC (as[i]).fz j) := by rw [nthC_getD, List.getElem?_eq_getElem hjl]; rfl
        obtain ⟨u, hu, hru⟩ := h2.get _ hf
        rw [List.getElem?_take, if_pos hj, List.getElem?_drop] at hu
        have h3 := hpr.row.cells (g := g) (by simp [hsl, Value.ownBlock]) _ _ hu
        rw [add_lit] at h3 ⊢
        refine ⟨hg.1, u, cell hg.2 h3, ?_, ?_⟩
        · show St (nthC (fzAt as i) j)
          rw [fzAt_eq ha]
          exact (as[i]).fzSt _ (List.mem_of_getElem? hf)
        · show RelC _ (nthC (fzAt as i) j) u
          rw [fzAt_eq ha]; exact hru
    · exact RelC.monoC hc _ _ hr
  · rename_i it off
    split
    · rename_i ty cs hit
      split
      · rename_i hst
        have hx := itemAt_eq _ _ hit (by simp)
        obtain ⟨vs, hv, hrel⟩ := hok it _ hx
        obtain ⟨hn, rfl⟩ := hr
        have hg := hB it _ (E.blk it) hx rfl
        refine ⟨_, rfl, fun j hj => ?_⟩
        have hxj : cs[off + j]? = some (cs[off + j]'(by omega)) := List.getElem?_eq_getElem (by omega)
        obtain ⟨u, hu, hru⟩ := hrel.get _ hxj
        refine ⟨hg.1, u, ?_, ?_, ?_⟩
        · rw [add_lit]
          refine cell hg.2 ?_
          simp only [World.cell?, hv]
          simpa using hu
        · show St (nthC cs (off + j))
          rw [nthC_eq _ _ _ hxj]; exact allSt_iff hst _ (List.mem_of_getElem? hxj)
        · show RelC _ (nthC cs (off + j)) u
          rw [nthC_eq _ _ _ hxj]; exact RelC.monoC hc _ _ hru
      · exact RelC.monoC hc _ _ hr
    · exact RelC.monoC hc _ _ hr
  · exact RelC.monoC hc _ _ hr

/-! ### packs -/
/-- Of a pack, in its own numbers. -/
structure PkOk (xs : List XC) (hs : List It) (E : Env) (vs : List Value) (S : Nat → Prop) (w : World) : Prop where
  n : E.n = hs.length
  rel : RelL E xs vs
  ok : ∀ k y, hs[k]? = some y → ItOk E w k y
  own : ∀ k y b, hs[k]? = some y → Ow E k y b → S b
  sep : ∀ j k x y b, hs[j]? = some x → hs[k]? = some y → Ow E j x b → Ow E k y b → j = k

theorem PkOk.st {xs : List XC} {hs : List It} {E : Env} {vs : List Value} {S : Nat → Prop} {w w' : World} {bs' : Base} (h : PkOk xs hs E vs S w) (hb : ∀ b, E.bs.B b → bs'.B b ∧ bs'.wb.heap[b]? = E.bs.wb.heap[b]?) (hw : ∀ b, S b → w'.heap[b]? = w.heap[b]?) :
    PkOk xs hs { E with bs := bs' } vs S w' := by
  have hle : EnvLe E { E with bs := bs' } := ⟨Nat.le_refl _, fun _ _ => rfl, fun _ _ => rfl, fun _ _ => rfl, hb⟩
  have hk : ∀ {k : Nat} {y : It}, hs[k]? = some y → k < E.n := fun hy => by rw [h.n]; exact (List.getElem?_eq_some_iff.1 hy).1
  refine ⟨h.n, h.rel.mono hle, fun k y hy => ?_, fun k y b hy hyb => h.own k y b hy (by rw [Ow_mono hle (hk hy)] at hyb; exact hyb), fun j k x y b hx hy hxb hyb => h.sep j k x y b hx hy (by rw [Ow_mono hle (hk hx)] at hxb; exact hxb) (by rw [Ow_mono hle (hk hy)] at hyb; exact hyb)⟩
  exact ItOk.mono hle (hk hy) ((h.ok k y hy).of_block fun b hb' => hw b (h.own k y b hy hb'))

/-- Cells, and the items that lie behind them: numbered from 0 on. -/
def PackL (xs : List XC) (hs : List It) : AbsL where
  is bs vs S w := ∃ E : Env, E.bs = bs ∧ PkOk xs hs E vs S w
  one h := by obtain ⟨E, _, h⟩ := h; exact h.rel.all
  st hb hw h := by obtain ⟨E, rfl, h⟩ := h; exact ⟨_, rfl, h.st hb hw⟩
  pk := xs.map stOr
  pkSt := stOr_sts xs
  pkOk h E hb := by obtain ⟨E0, rfl, h⟩ := h; exact stOr_rels (E := E0) hb h.rel
  fz := xs.map fun x => stOr (lendC hs x)
  fzSt := fun x hx => by obtain ⟨y, _, rfl⟩ := List.mem_map.1 hx; exact stOr_st _
  fzOk h E hb hw := by
    obtain ⟨E0, rfl, h⟩ := h
    have hc : EnvC E0 { E0 with bs := E.bs } := ⟨Nat.le_refl _, fun _ _ => rfl, fun _ _ => rfl, hb⟩
    have hB : ∀ k x b, hs[k]? = some x → Ow E0 k x b → E.bs.B b ∧ E.bs.wb.heap[b]? = _ := fun k x b hx hxb => hw b (h.own k x b hx hxb)
    have key : ∀ {l : List XC} {us : List Value}, RelL E0 l us → RelL E (l.map fun x => stOr (lendC hs x)) us := by
      intro l
      induction l with
      | nil => intro us hr; cases us with | nil => trivial | cons _ _ => exact hr.elim
      | cons x l ih =>
        intro us hr
        cases us with
        | nil => exact hr.elim
        | cons u us => exact ⟨stOr_rel (E := { E0 with bs := E.bs }) (E' := E) (fun _ h => ⟨h, rfl⟩) (lendC_rel2 (E2 := { E0 with bs := E.bs }) h.ok hc hB hr.1), ih hr.2⟩
    exact key h.rel
/-- .. of one cell. -/
def Pk (x : XC) (hs : List It) : Abs where
  is bs v S w := (PackL [x] hs).is bs [v] S w
  one h := (PackL [x] hs).one h _ (by simp)
  st hb hw h := (PackL [x] hs).st hb hw h
end Go.Eng
