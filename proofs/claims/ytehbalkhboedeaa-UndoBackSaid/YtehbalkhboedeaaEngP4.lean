/- The engine, part Ga: items named anew; packs: what is owned, said by items of its own. Nothing of any program is proved here. -/
import Derived.Test.YtehbalkhboedeaaEngZ
namespace Go.Eng
open Go Go.RowKit
set_option linter.unusedSimpArgs false
set_option linter.unusedVariables false

/-! ### other numbers for items -/
def renC (σ : Nat → Nat) : XC → XC
  | .p it o => .p (σ it) o
  | .ow it => .ow (σ it)
  | .q it i z o => .q (σ it) i z o
  | .sw it i z o => .sw (σ it) i z o
  | .sp it o n z => .sp (σ it) o n z
  | .mp it => .mp (σ it)
  | .fn f n caps => .fn f n fun j => renC σ (caps j)
  | x => x
def renV (σ : Nat → Nat) : XV → XV
  | .c x => .c (renC σ x)
  | .a l => .a (l.map (renC σ))
  | .t [] => .t []
  | .t l => .t (l.map fun | .c x => .c (renC σ x) | .a l => .a (l.map (renC σ)))
  | .un => .un
def renIt (σ : Nat → Nat) : It → It
  | .cells ty cs => .cells ty (cs.map (renC σ))
  | .held vs xs => .held vs (xs.map (renV σ))
  | .prow e z as (some (i, cs)) => .prow e z as (some (i, cs.map (renC σ)))
  | x => x

theorem renC_st {σ : Nat → Nat} {x : XC} (h : St x) : renC σ x = x := by cases x <;> first | rfl | exact h.elim

/-- What E0 says of its items E says of these under their new numbers. -/
structure EnvR (σ : Nat → Nat) (E0 E : Env) : Prop where
  n : ∀ i, i < E0.n → σ i < E.n
  blk : ∀ i, i < E0.n → E.blk (σ i) = E0.blk i
  sl : ∀ i, i < E0.n → E.sl (σ i) = E0.sl i
  bs : ∀ b, E0.bs.B b → E.bs.B b ∧ E.bs.wb.heap[b]? = E0.bs.wb.heap[b]?

theorem renC_rel {σ : Nat → Nat} {E0 E : Env} (hE : EnvR σ E0 E) : ∀ (x : XC) (v : Value), RelC E0 x v → RelC E (renC σ x) v
  | .p it off, v, h => ⟨hE.n it h.1, by rw [hE.blk it h.1]; exact h.2⟩
  | .ow it, v, h => ⟨hE.n it h.1, by rw [hE.sl it h.1]; exact h.2⟩
  | .q it i z off, v, h => ⟨hE.n it h.1, by rw [hE.sl it h.1]; exact h.2⟩
  | .sw it i z off, v, h => ⟨hE.n it h.1, by rw [hE.sl it h.1]; exact h.2⟩
  | .sp it off n z, v, h => ⟨hE.n it h.1, by rw [hE.blk it h.1]; exact h.2⟩
  | .mp it, v, h => ⟨hE.n it h.1, by rw [hE.blk it h.1]; exact h.2⟩
  | .fn f n caps, v, h => by
    obtain ⟨vs, rfl, hn, hc⟩ := h
    refine ⟨vs, rfl, hn, fun j hj => ?_⟩
    obtain ⟨u, hu, hr⟩ := hc j hj
    exact ⟨u, hu, renC_rel hE (caps j) u hr⟩
  | .un, _, h => h
  | .il _ _, _, h => h
  | .i _ _, _, h => h
  | .bt, _, h => h
  | .bf, _, h => h
  | .b _, _, h => h
  | .v _, _, h => h
  | .ep m f, v, h => RelC.stable (E := E0) hE.bs (.ep m f) v trivial h
  | .rs n z f, v, h => RelC.stable (E := E0) hE.bs (.rs n z f) v trivial h
  | .ts n z f, v, h => RelC.stable (E := E0) hE.bs (.ts n z f) v trivial h
theorem renL_rel {σ : Nat → Nat} {E0 E : Env} (hE : EnvR σ E0 E) : ∀ {l : List XC} {vs : List Value}, RelL E0 l vs → RelL E (l.map (renC σ)) vs
  | [], [], _ => trivial
  | _ :: _, _ :: _, h => ⟨renC_rel hE _ _ h.1, renL_rel hE h.2⟩
  | [], _ :: _, h => h.elim
  | _ :: _, [], h => h.elim
theorem renWs_rel {σ : Nat → Nat} {E0 E : Env} (hE : EnvR σ E0 E) : ∀ {l : List XW} {vs : List Value}, RelWs E0 l vs → RelWs E (l.map fun | .c x => .c (renC σ x) | .a l => .a (l.map (renC σ))) vs
  | [], [], _ => trivial
  | .c _ :: _, _ :: _, h => ⟨renC_rel hE _ _ h.1, renWs_rel hE h.2⟩
  | .a _ :: _, _ :: _, h => ⟨by obtain ⟨us, e, hl⟩ := h.1; exact ⟨us, e, renL_rel hE hl⟩, renWs_rel hE h.2⟩
  | [], _ :: _, h => h.elim
  | _ :: _, [], h => h.elim
theorem renV_rel {σ : Nat → Nat} {E0 E : Env} (hE : EnvR σ E0 E) {x : XV} {v : Value} (h : RelV E0 x v) : RelV E (renV σ x) v := by
  cases x with
  | un => trivial
  | c x => exact renC_rel hE x v h
  | a l => obtain ⟨us, e, hl⟩ := h; exact ⟨us, e, renL_rel hE hl⟩
  | t l =>
    obtain ⟨us, e, hl⟩ := h
    cases l with
    | nil => exact ⟨us, e, by cases hu : us.toList with | nil => trivial | cons a l => rw [hu] at hl; exact hl.elim⟩
    | cons a l => exact ⟨us, e, renWs_rel hE hl⟩
theorem renTs_rel {σ : Nat → Nat} {E0 E : Env} (hE : EnvR σ E0 E) : ∀ {l : List XV} {vs : List Value}, RelTs E0 l vs → RelTs E (l.map (renV σ)) vs
  | [], [], _ => trivial
  | _ :: _, _ :: _, h => ⟨renV_rel hE h.1, renTs_rel hE h.2⟩
  | [], _ :: _, h => h.elim
  | _ :: _, [], h => h.elim

/-- .. and what they own. -/
theorem renIt_ok {σ : Nat → Nat} {E0 E : Env} (hE : EnvR σ E0 E) {w : World} {k : Nat} (hk : k < E0.n) (hx : E.ext (σ k) = E0.ext k) {x : It} (h : ItOk E0 w k x) : ItOk E w (σ k) (renIt σ x) := by
  cases x with
  | dead => trivial
  | cells ty cs => obtain ⟨vs, hv, hr⟩ := h; exact ⟨vs, by rw [hE.blk k hk]; exact hv, renL_rel hE hr⟩
  | row e z xs => obtain ⟨ys, ho, hr, hl, hs⟩ := h; exact ⟨ys, by rw [hE.sl k hk]; exact ho, RelL.stable (E := E0) hE.bs hs hr, hl, hs⟩
  | obj Φ => obtain ⟨o, ho, hr⟩ := h; exact ⟨o, by rw [hE.blk k hk]; exact ho, hr⟩
  | abs A =>
    show A.is E.bs (E.sl (σ k)) (E.ext (σ k)) w
    rw [hE.sl k hk, hx]
    exact A.st hE.bs (fun _ _ => rfl) h
  | held vs xs => exact renTs_rel hE h
  | prow e z as o =>
    obtain ⟨ys, Ss, h1⟩ := h
    have hrow : w.ownsRow 0 e z (E.sl (σ k)) as.length ys := by rw [hE.sl k hk]; exact h1.row
    have hown : ∀ i b, Ss i b → E.ext (σ k) b ∧ (E.sl (σ k)).ownBlock ≠ some b := by rw [hE.sl k hk, hx]; exact h1.own
    have hblk : ∀ b, (E.sl (σ k)).ownBlock = some b → E.ext (σ k) b := by rw [hE.sl k hk, hx]; exact h1.blk
    cases o with
    | none => exact ⟨ys, Ss, hrow, fun i a ha hno => a.st hE.bs (fun _ _ => rfl) (h1.el i a ha hno), fun i cs e => (by cases e), h1.sep, hown, hblk⟩
    | some p =>
      refine ⟨ys, Ss, hrow, fun i a ha hno => a.st hE.bs (fun _ _ => rfl) (h1.el i a ha fun cs e => hno (cs.map (renC σ)) (by cases e; rfl)), fun i cs e => ?_, h1.sep, hown, hblk⟩
      cases e
      obtain ⟨g1, g2, g3⟩ := h1.op p.1 p.2 rfl
      exact ⟨g1, by simpa using g2, renL_rel hE g3⟩
theorem Ow_ren {σ : Nat → Nat} {E0 E : Env} {k : Nat} (x : It) (hb : E.blk (σ k) = E0.blk k) (hs : E.sl (σ k) = E0.sl k) (hx : E.ext (σ k) = E0.ext k) : Ow E (σ k) (renIt σ x) = Ow E0 k x := by
  funext b
  cases x with
  | prow e z as o => cases o <;> simp [Ow, renIt, hx]
  | _ => simp [Ow, renIt, hb, hs, hx]

/-! ### the way back -/
theorem unren_caps {m : Nat} : ∀ (n : Nat) {c : Nat → XC}, wfCaps m n c = true → ∀ j, j < n → (∃ it off, c j = .p it off ∧ it < m) ∨ St (c j)
  | 0, _, _, j, hj => by omega
  | n + 1, c, h, j, hj => by
    unfold wfCaps at h
    by_cases e : j = n
    · subst e
      cases hc : c j <;> rw [hc] at h <;> simp only at h
      case p it off =>
        split at h
        · rename_i h1; exact .inl ⟨it, off, rfl, blt_lt h1⟩
        · cases h
      all_goals first | exact .inr trivial | cases h
    · refine unren_caps n ?_ j (by omega)
      cases hc : c n <;> rw [hc] at h <;> simp only at h
      case p it off => split at h; exact h; cases h
      all_goals first | exact h | cases h

/-- The other way round: E0's items are these of E. -/
structure EnvU (σ : Nat → Nat) (E0 E : Env) : Prop where
  blk : ∀ i, i < E0.n → E0.blk i = E.blk (σ i)
  sl : ∀ i, i < E0.n → E0.sl i = E.sl (σ i)
  bs : E0.bs = E.bs

theorem unrenC {σ : Nat → Nat} {E0 E : Env} (hE : EnvU σ E0 E) {x : XC} {v : Value} (hw : wfC E0.n x = true) (h : RelC E (renC σ x) v) : RelC E0 x v := by
  have st : ∀ {y : XC} {u : Value}, St y → RelC E y u → RelC E0 y u := fun hs hr => RelC.stable (E := E) (by rw [hE.bs]; exact fun _ h => ⟨h, rfl⟩) _ _ hs hr
  cases x with
  | p it off => have hk := blt_lt hw; exact ⟨hk, by rw [hE.blk it hk]; exact h.2⟩
  | ow it => have hk := blt_lt hw; exact ⟨hk, by rw [hE.sl it hk]; exact h.2⟩
  | q it => have hk := blt_lt hw; exact ⟨hk, by rw [hE.sl it hk]; exact h.2⟩
  | sw it => have hk := blt_lt hw; exact ⟨hk, by rw [hE.sl it hk]; exact h.2⟩
  | sp it => have hk := blt_lt hw; exact ⟨hk, by rw [hE.blk it hk]; exact h.2⟩
  | mp it => have hk := blt_lt hw; exact ⟨hk, by rw [hE.blk it hk]; exact h.2⟩
  | fn f n caps =>
    obtain ⟨vs, rfl, hn, hc⟩ := h
    refine ⟨vs, rfl, hn, fun j hj => ?_⟩
    obtain ⟨u, hu, hr⟩ := hc j hj
    have hr : RelC E (renC σ (caps j)) u := hr
    refine ⟨u, hu, ?_⟩
    rcases unren_caps n hw j hj with ⟨it, off, e, hk⟩ | hs
    · rw [e] at hr ⊢
      exact ⟨hk, by rw [hE.blk it hk]; exact hr.2⟩
    · rw [renC_st hs] at hr
      exact st hs hr
  | ep => exact st (show St (.ep _ _) from trivial) h
  | rs => exact st (show St (.rs _ _ _) from trivial) h
  | ts => exact st (show St (.ts _ _ _) from trivial) h
  | un => exact h
  | il => exact h
  | i => exact h
  | bt => exact h
  | bf => exact h
  | b => exact h
  | v => exact h
theorem unrenL {σ : Nat → Nat} {E0 E : Env} (hE : EnvU σ E0 E) : ∀ {l : List XC} {vs : List Value}, wfL E0.n l = true → RelL E (l.map (renC σ)) vs → RelL E0 l vs
  | [], [], _, _ => trivial
  | x :: l, v :: vs, hw, h => by
    unfold wfL at hw
    split at hw
    · rename_i h1; exact ⟨unrenC hE h1 h.1, unrenL hE hw h.2⟩
    · cases hw
  | [], _ :: _, _, h => h.elim
  | _ :: _, [], _, h => h.elim
theorem unrenV {σ : Nat → Nat} {E0 E : Env} (hE : EnvU σ E0 E) {x : XV} {v : Value} (hw : wfV E0.n x = true) (h : RelV E (renV σ x) v) : RelV E0 x v := by
  cases x with
  | un => trivial
  | c x => exact unrenC hE hw h
  | a l => obtain ⟨us, e, hl⟩ := h; exact ⟨us, e, unrenL hE hw hl⟩
  | t l =>
    cases l with
    | nil => obtain ⟨us, e, hl⟩ := h; exact ⟨us, e, by cases hu : us.toList with | nil => trivial | cons a l => rw [hu] at hl; exact hl.elim⟩
    | cons a l => cases hw
theorem unrenTs {σ : Nat → Nat} {E0 E : Env} (hE : EnvU σ E0 E) : ∀ {l : List XV} {vs : List Value}, wfVs E0.n l = true → RelTs E (l.map (renV σ)) vs → RelTs E0 l vs
  | [], [], _, _ => trivial
  | x :: l, v :: vs, hw, h => by
    unfold wfVs at hw
    split at hw
    · rename_i h1; exact ⟨unrenV hE h1 h.1, unrenTs hE hw h.2⟩
    · cases hw
  | [], _ :: _, _, h => h.elim
  | _ :: _, [], _, h => h.elim
theorem unrenIt_ok {σ : Nat → Nat} {E0 E : Env} (hE : EnvU σ E0 E) {w : World} {k : Nat} (hk : k < E0.n) (hx : E0.ext k = E.ext (σ k)) {x : It} (hw : wfIt E0.n x = true) (h : ItOk E w (σ k) (renIt σ x)) : ItOk E0 w k x := by
  have hbs : ∀ b, E.bs.B b → E0.bs.B b ∧ E0.bs.wb.heap[b]? = E.bs.wb.heap[b]? := by rw [hE.bs]; exact fun _ h => ⟨h, rfl⟩
  cases x with
  | dead => trivial
  | cells ty cs => obtain ⟨vs, hv, hr⟩ := h; exact ⟨vs, by rw [hE.blk k hk]; exact hv, unrenL hE hw hr⟩
  | row e z xs => obtain ⟨ys, ho, hr, hl, hs⟩ := h; exact ⟨ys, by rw [hE.sl k hk]; exact ho, RelL.stable (E := E) hbs hs hr, hl, hs⟩
  | obj Φ => obtain ⟨o, ho, hr⟩ := h; exact ⟨o, by rw [hE.blk k hk]; exact ho, hr⟩
  | abs A =>
    show A.is E0.bs (E0.sl k) (E0.ext k) w
    rw [hE.sl k hk, hx]
    exact A.st hbs (fun _ _ => rfl) h
  | held vs xs => exact unrenTs hE hw h
  | prow e z as o =>
    cases o with
    | none =>
      obtain ⟨ys, Ss, h1⟩ := h
      exact ⟨ys, Ss, by rw [hE.sl k hk]; exact h1.row, fun i a ha hno => a.st hbs (fun _ _ => rfl) (h1.el i a ha fun cs e => (by cases e)), fun i cs e => (by cases e), h1.sep, by rw [hE.sl k hk, hx]; exact h1.own, by rw [hE.sl k hk, hx]; exact h1.blk⟩
    | some p =>
      obtain ⟨i0, cs0⟩ := p
      obtain ⟨ys, Ss, h1⟩ := h
      refine ⟨ys, Ss, by rw [hE.sl k hk]; exact h1.row, fun i a ha hno => a.st hbs (fun _ _ => rfl) (h1.el i a ha fun cs e => hno cs0 (by cases e; rfl)), fun i cs e => ?_, h1.sep, by rw [hE.sl k hk, hx]; exact h1.own, by rw [hE.sl k hk, hx]; exact h1.blk⟩
      cases e
      obtain ⟨g1, g2, g3⟩ := h1.op i0 (cs0.map (renC σ)) rfl
      exact ⟨g1, by simpa using g2, unrenL hE hw g3⟩

/-! ### memory said anew -/
theorem Heap.re {w0 : Org} {F : Nat → Prop} {E E2 : Env} {h h2 : List It} {w : World} (hp : Heap w0 F E h w) (hb : E2.bs = E.bs) (hn : E2.n = h2.length) (hok : ∀ k y, h2[k]? = some y → ItOk E2 w k y)
    (how : ∀ k y b, h2[k]? = some y → Ow E2 k y b → ∃ k' x, h[k']? = some x ∧ Ow E k' x b) (hsep : ∀ j k x y b, h2[j]? = some x → h2[k]? = some y → Ow E2 j x b → Ow E2 k y b → j = k) : Heap w0 F E2 h2 w :=
  ⟨by rw [hb]; exact hp.bs, by rw [hb]; exact hp.le, by rw [hb]; exact hp.nb, hn, hok, fun k y b hy hyb => by
    obtain ⟨k', x, hx, hxb⟩ := how k y b hy hyb
    rw [hb]; exact hp.own k' x b hx hxb, hsep, hp.fr⟩

/-! ### laid aside, without a run -/
theorem lendC_rel2 {E E2 : Env} {h : List It} {w : World} (hok : ∀ k x, h[k]? = some x → ItOk E w k x) (hc : EnvC E E2) (hB : ∀ k x b, h[k]? = some x → Ow E k x b → E2.bs.B b ∧ E2.bs.wb.heap[b]? = w.heap[b]?)
    {x : XC} {v : Value} (hr : RelC E x v) : RelC E2 (lendC h x) v := by
  have cell : ∀ {g o : Nat} {u : Value}, E2.bs.wb.heap[g]? = w.heap[g]? → w.cell? ⟨g, o, none⟩ = some u → E2.bs.wb.cell? ⟨g, o, none⟩ = some u := fun e h => by rw [World.cell?_of_block (w := w) e]; exact h
  unfold lendC
  split
  · rename_i it
    split
    · rename_i e z xs hit
      have hx := itemAt_eq _ _ hit (by simp)
      rw [hr.2.1]
      obtain ⟨ys, how, hrel, hl, hst⟩ := hok it _ hx
      rcases how.2 with ⟨hsl, h0⟩ | ⟨g, cap, cur, hsl, _, _, hnc, hm, _, _⟩
      · refine ⟨none, 0, by rw [hsl, h0], by omega, by simp [maxLen], fun i hi => by omega⟩
      · have hg := hB it _ g hx (by simp [Ow, hsl, Value.ownBlock])
        refine ⟨_, _, hsl, hnc, hm, fun i hi => ⟨_, rfl, fun j hj => ?_⟩⟩
        have hf := flat_at hl i j hi hj
        obtain ⟨u, hu, hru⟩ := hrel.get _ hf
        have h1 := how.cells (g := g) (by simp [hsl, Value.ownBlock]) _ _ hu
        rw [add_lit] at h1 ⊢
        exact ⟨hg.1, u, cell hg.2 h1, hst _ (List.mem_of_getElem? hf), RelC.monoC hc _ _ hru⟩
    · rename_i e z as hit
      have hx := itemAt_eq _ _ hit (by simp)
      rw [hr.2.1]
      obtain ⟨ys, Ss, hpr⟩ := hok it _ hx
      rcases hpr.row.2 with ⟨hsl, h0⟩ | ⟨g, cap, cur, hsl, _, _, hnc, hm, _, _⟩
      · refine ⟨none, 0, by rw [hsl, h0], by omega, by simp [maxLen], fun i hi => by omega⟩
      · have hg := hB it _ g hx (hpr.blk g (by simp [hsl, Value.ownBlock]))
        refine ⟨_, _, hsl, hnc, hm, fun i hi => ⟨_, rfl, fun j hj => ?_⟩⟩
        have ha := List.getElem?_eq_getElem hi
        have h1 := hpr.el i _ ha (fun cs e => by cases e)
        have h2 := AbsL.fzOk _ h1 E2 hc.bs (fun b hb' => hB it _ b hx (hpr.own i b hb').1)
        have hlen : ((ys.drop (i * z)).take z).length = z := by
          have := hpr.row.1
          have hle : i * z + z ≤ as.length * z := by rw [← Nat.succ_mul]; exact Nat.mul_le_mul_right z hi
          rw [List.length_take, List.length_drop]; omega
        have hjl : j < (as[i]).fz.length := by rw [h2.len, hlen]; exact hj
        have hf : (as[i]).fz[j]? = some (nthC (as[i]).fz j) := by rw [nthC_getD, List.getElem?_eq_getElem hjl]; rfl
        obtain ⟨u, hu, hru⟩ := h2.get _ hf
        rw [List.getElem?_take, if_pos hj, List.getElem?_drop] at hu
        have h3 := hpr.row.cells (g := g) (by simp [hsl, Value.ownBlock]) _ _ hu
        rw [add_lit] at h3 ⊢
        refine ⟨hg.1, u, cell hg.2 h3, ?_, ?_⟩
        · show St (nthC (fzAt as i) j)
          rw [fzAt_eq ha]
          exact (as[i]).fzSt _ (List.mem_of_getElem? hf)
        · show RelC _ (nthC (fzAt as i) j) u
          rw [fzAt_eq ha]; exact hru
    · exact RelC.monoC hc _ _ hr
  · rename_i it off
    split
    · rename_i ty cs hit
      split
      · rename_i hst
        have hx := itemAt_eq _ _ hit (by simp)
        obtain ⟨vs, hv, hrel⟩ := hok it _ hx
        obtain ⟨hn, rfl⟩ := hr
        have hg := hB it _ (E.blk it) hx rfl
        refine ⟨_, rfl, fun j hj => ?_⟩
        have hxj : cs[off + j]? = some (cs[off + j]'(by omega)) := List.getElem?_eq_getElem (by omega)
        obtain ⟨u, hu, hru⟩ := hrel.get _ hxj
        refine ⟨hg.1, u, ?_, ?_, ?_⟩
        · rw [add_lit]
          refine cell hg.2 ?_
          simp only [World.cell?, hv]
          simpa using hu
        · show St (nthC cs (off + j))
          rw [nthC_eq _ _ _ hxj]; exact allSt_iff hst _ (List.mem_of_getElem? hxj)
        · show RelC _ (nthC cs (off + j)) u
          rw [nthC_eq _ _ _ hxj]; exact RelC.monoC hc _ _ hru
      · exact RelC.monoC hc _ _ hr
    · exact RelC.monoC hc _ _ hr
  · exact RelC.monoC hc _ _ hr

/-! ### packs -/
/-- Of a pack, in its own numbers. -/
structure PkOk (xs : List XC) (hs : List It) (E : Env) (vs : List Value) (S : Nat → Prop) (w : World) : Prop where
  n : E.n = hs.length
  rel : RelL E xs vs
  ok : ∀ k y, hs[k]? = some y → ItOk E w k y
  own : ∀ k y b, hs[k]? = some y → Ow E k y b → S b
  sep : ∀ j k x y b, hs[j]? = some x → hs[k]? = some y → Ow E j x b → Ow E k y b → j = k

theorem PkOk.st {xs : List XC} {hs : List It} {E : Env} {vs : List Value} {S : Nat → Prop} {w w' : World} {bs' : Base} (h : PkOk xs hs E vs S w) (hb : ∀ b, E.bs.B b → bs'.B b ∧ bs'.wb.heap[b]? = E.bs.wb.heap[b]?) (hw : ∀ b, S b → w'.heap[b]? = w.heap[b]?) :
    PkOk xs hs { E with bs := bs' } vs S w' := by
  have hle : EnvLe E { E with bs := bs' } := ⟨Nat.le_refl _, fun _ _ => rfl, fun _ _ => rfl, fun _ _ => rfl, hb⟩
  have hk : ∀ {k : Nat} {y : It}, hs[k]? = some y → k < E.n := fun hy => by rw [h.n]; exact (List.getElem?_eq_some_iff.1 hy).1
  refine ⟨h.n, h.rel.mono hle, fun k y hy => ?_, fun k y b hy hyb => h.own k y b hy (by rw [Ow_mono hle (hk hy)] at hyb; exact hyb), fun j k x y b hx hy hxb hyb => h.sep j k x y b hx hy (by rw [Ow_mono hle (hk hx)] at hxb; exact hxb) (by rw [Ow_mono hle (hk hy)] at hyb; exact hyb)⟩
  exact ItOk.mono hle (hk hy) ((h.ok k y hy).of_block fun b hb' => hw b (h.own k y b hy hb'))

/-- Cells, and the items that lie behind them: numbered from 0 on. -/
def PackL (xs : List XC) (hs : List It) : AbsL where
  is bs vs S w := ∃ E : Env, E.bs = bs ∧ PkOk xs hs E vs S w
  one h := by obtain ⟨E, _, h⟩ := h; exact h.rel.all
  st hb hw h := by obtain ⟨E, rfl, h⟩ := h; exact ⟨_, rfl, h.st hb hw⟩
  pk := xs.map stOr
  pkSt := stOr_sts xs
  pkOk h E hb := by obtain ⟨E0, rfl, h⟩ := h; exact stOr_rels (E := E0) hb h.rel
  fz := xs.map fun x => stOr (lendC hs x)
  fzSt := fun x hx => by obtain ⟨y, _, rfl⟩ := List.mem_map.1 hx; exact stOr_st _
  fzOk h E hb hw := by
    obtain ⟨E0, rfl, h⟩ := h
    have hc : EnvC E0 { E0 with bs := E.bs } := ⟨Nat.le_refl _, fun _ _ => rfl, fun _ _ => rfl, hb⟩
    have hB : ∀ k x b, hs[k]? = some x → Ow E0 k x b → E.bs.B b ∧ E.bs.wb.heap[b]? = _ := fun k x b hx hxb => hw b (h.own k x b hx hxb)
    have key : ∀ {l : List XC} {us : List Value}, RelL E0 l us → RelL E (l.map fun x => stOr (lendC hs x)) us := by
      intro l
      induction l with
      | nil => intro us hr; cases us with | nil => trivial | cons _ _ => exact hr.elim
      | cons x l ih =>
        intro us hr
        cases us with
        | nil => exact hr.elim
        | cons u us => exact ⟨stOr_rel (E := { E0 with bs := E.bs }) (E' := E) (fun _ h => ⟨h, rfl⟩) (lendC_rel2 (E2 := { E0 with bs := E.bs }) h.ok hc hB hr.1), ih hr.2⟩
    exact key h.rel
/-- .. of one cell. -/
def Pk (x : XC) (hs : List It) : Abs where
  is bs v S w := (PackL [x] hs).is bs [v] S w
  one h := (PackL [x] hs).one h _ (by simp)
  st hb hw h := (PackL [x] hs).st hb hw h
end Go.Eng

/- The engine, part Gb: steps that no operation takes: packs opened and shut, nil slices as own rows, rows laid aside. Nothing of any program is proved here. -/
namespace Go.Eng
open Go Go.RowKit
set_option linter.unusedSimpArgs false
set_option linter.unusedVariables false

/-! ### cells said anew, all through -/
def gW (g : XC → XC) : XW → XW
  | .c x => .c (g x)
  | .a l => .a (l.map g)
def gV (g : XC → XC) : XV → XV
  | .c x => .c (g x)
  | .a l => .a (l.map g)
  | .t l => .t (l.map (gW g))
  | .un => .un
def gIt (g : XC → XC) : It → It
  | .cells ty cs => .cells ty (cs.map g)
  | .held vs xs => .held vs (xs.map (gV g))
  | .prow e z as (some (i, cs)) => .prow e z as (some (i, cs.map g))
  | x => x
def gLK (g : XC → XC) : List XC → (List XC → Prop) → Prop
  | [], k => k []
  | x :: l, k => forceC (g x) fun x => gLK g l fun l => k (x :: l)
theorem gLK_eq (g : XC → XC) : ∀ (l : List XC) (k : List XC → Prop), gLK g l k = k (l.map g)
  | [], _ => rfl
  | x :: l, k => by simp only [gLK, forceC_eq, gLK_eq g l, List.map_cons]
def gWsK (g : XC → XC) : List XW → (List XW → Prop) → Prop
  | [], k => k []
  | .c x :: l, k => forceC (g x) fun x => gWsK g l fun l => k (.c x :: l)
  | .a x :: l, k => gLK g x fun x => gWsK g l fun l => k (.a x :: l)
theorem gWsK_eq (g : XC → XC) : ∀ (l : List XW) (k : List XW → Prop), gWsK g l k = k (l.map (gW g))
  | [], _ => rfl
  | .c x :: l, k => by simp only [gWsK, forceC_eq, gWsK_eq g l, List.map_cons, gW]
  | .a x :: l, k => by simp only [gWsK, gLK_eq, gWsK_eq g l, List.map_cons, gW]
def gVK (g : XC → XC) (x : XV) (k : XV → Prop) : Prop :=
  match x with
  | .c x => forceC (g x) fun x => k (.c x)
  | .a l => gLK g l fun l => k (.a l)
  | .t l => gWsK g l fun l => k (.t l)
  | .un => k .un
theorem gVK_eq (g : XC → XC) (x : XV) (k : XV → Prop) : gVK g x k = k (gV g x) := by
  cases x <;> simp only [gVK, forceC_eq, gLK_eq, gWsK_eq, gV]
def gTsK (g : XC → XC) : List XV → (List XV → Prop) → Prop
  | [], k => k []
  | x :: l, k => gVK g x fun x => gTsK g l fun l => k (x :: l)
theorem gTsK_eq (g : XC → XC) : ∀ (l : List XV) (k : List XV → Prop), gTsK g l k = k (l.map (gV g))
  | [], _ => rfl
  | x :: l, k => by simp only [gTsK, gVK_eq, gTsK_eq g l, List.map_cons]
def gHK (g : XC → XC) : List It → (List It → Prop) → Prop
  | [], k => k []
  | .cells ty cs :: l, k => gLK g cs fun cs => gHK g l fun l => k (.cells ty cs :: l)
  | .held vs xs :: l, k => gTsK g xs fun xs => gHK g l fun l => k (.held vs xs :: l)
  | .prow e z as (some (i, cs)) :: l, k => gLK g cs fun cs => gHK g l fun l => k (.prow e z as (some (i, cs)) :: l)
  | .prow e z as none :: l, k => gHK g l fun l => k (.prow e z as none :: l)
  | .dead :: l, k => gHK g l fun l => k (.dead :: l)
  | .row e z xs :: l, k => gHK g l fun l => k (.row e z xs :: l)
  | .obj Φ :: l, k => gHK g l fun l => k (.obj Φ :: l)
  | .abs A :: l, k => gHK g l fun l => k (.abs A :: l)
theorem gHK_eq (g : XC → XC) : ∀ (h : List It) (k : List It → Prop), gHK g h k = k (h.map (gIt g))
  | [], _ => rfl
  | .cells ty cs :: l, k => by simp only [gHK, gLK_eq, gHK_eq g l, List.map_cons, gIt]
  | .held vs xs :: l, k => by simp only [gHK, gTsK_eq, gHK_eq g l, List.map_cons, gIt]
  | .prow e z as (some (i, cs)) :: l, k => by simp only [gHK, gLK_eq, gHK_eq g l, List.map_cons, gIt]
  | .prow e z as none :: l, k => by simp only [gHK, gHK_eq g l, List.map_cons, gIt]
  | .dead :: l, k => by simp only [gHK, gHK_eq g l, List.map_cons, gIt]
  | .row e z xs :: l, k => by simp only [gHK, gHK_eq g l, List.map_cons, gIt]
  | .obj Φ :: l, k => by simp only [gHK, gHK_eq g l, List.map_cons, gIt]
  | .abs A :: l, k => by simp only [gHK, gHK_eq g l, List.map_cons, gIt]

/-- What E says of a cell, E2 says of the cell that g makes of it. -/
def Gst (E E2 : Env) (g : XC → XC) : Prop := ∀ x v, RelC E x v → RelC E2 (g x) v
section
variable {E E2 : Env} {g : XC → XC}
theorem Gst.l (hg : Gst E E2 g) : ∀ {l : List XC} {vs : List Value}, RelL E l vs → RelL E2 (l.map g) vs
  | [], [], _ => trivial
  | _ :: _, _ :: _, h => ⟨hg _ _ h.1, Gst.l hg h.2⟩
  | [], _ :: _, h => h.elim
  | _ :: _, [], h => h.elim
theorem Gst.ws (hg : Gst E E2 g) : ∀ {l : List XW} {vs : List Value}, RelWs E l vs → RelWs E2 (l.map (gW g)) vs
  | [], [], _ => trivial
  | .c _ :: _, _ :: _, h => ⟨hg _ _ h.1, Gst.ws hg h.2⟩
  | .a _ :: _, _ :: _, h => ⟨by obtain ⟨us, e, hl⟩ := h.1; exact ⟨us, e, hg.l hl⟩, Gst.ws hg h.2⟩
  | [], _ :: _, h => h.elim
  | _ :: _, [], h => h.elim
theorem Gst.v (hg : Gst E E2 g) {x : XV} {v : Value} (h : RelV E x v) : RelV E2 (gV g x) v := by
  cases x with
  | un => trivial
  | c x => exact hg x v h
  | a l => obtain ⟨us, e, hl⟩ := h; exact ⟨us, e, hg.l hl⟩
  | t l => obtain ⟨us, e, hl⟩ := h; exact ⟨us, e, hg.ws hl⟩
theorem Gst.ts (hg : Gst E E2 g) : ∀ {l : List XV} {vs : List Value}, RelTs E l vs → RelTs E2 (l.map (gV g)) vs
  | [], [], _ => trivial
  | _ :: _, _ :: _, h => ⟨hg.v h.1, Gst.ts hg h.2⟩
  | [], _ :: _, h => h.elim
  | _ :: _, [], h => h.elim
theorem Gst.id (hc : EnvC E E2) : Gst E E2 (fun x => x) := fun x v h => RelC.monoC hc x v h

/-- An item that stands where it stood. -/
theorem Gst.it (hg : Gst E E2 g) {w : World} {k : Nat} (hb : E2.blk k = E.blk k) (hs : E2.sl k = E.sl k) (hx : E2.ext k = E.ext k) (hbs : ∀ b, E.bs.B b → E2.bs.B b ∧ E2.bs.wb.heap[b]? = E.bs.wb.heap[b]?) {x : It} (h : ItOk E w k x) : ItOk E2 w k (gIt g x) := by
  cases x with
  | dead => trivial
  | cells ty cs => obtain ⟨vs, hv, hr⟩ := h; exact ⟨vs, by rw [hb]; exact hv, hg.l hr⟩
  | row e z xs => obtain ⟨ys, ho, hr, hl, hst⟩ := h; exact ⟨ys, by rw [hs]; exact ho, RelL.stable (E := E) hbs hst hr, hl, hst⟩
  | obj Φ => obtain ⟨o, ho, hr⟩ := h; exact ⟨o, by rw [hb]; exact ho, hr⟩
  | abs A =>
    show A.is E2.bs (E2.sl k) (E2.ext k) w
    rw [hs, hx]
    exact A.st hbs (fun _ _ => rfl) h
  | held vs xs => exact hg.ts h
  | prow e z as o =>
    obtain ⟨ys, Ss, h1⟩ := h
    have hrow : w.ownsRow 0 e z (E2.sl k) as.length ys := by rw [hs]; exact h1.row
    have hown : ∀ i b, Ss i b → E2.ext k b ∧ (E2.sl k).ownBlock ≠ some b := by rw [hs, hx]; exact h1.own
    have hblk : ∀ b, (E2.sl k).ownBlock = some b → E2.ext k b := by rw [hs, hx]; exact h1.blk
    cases o with
    | none => exact ⟨ys, Ss, hrow, fun i a ha hno => a.st hbs (fun _ _ => rfl) (h1.el i a ha hno), fun i cs e => (by cases e), h1.sep, hown, hblk⟩
    | some p =>
      refine ⟨ys, Ss, hrow, fun i a ha hno => a.st hbs (fun _ _ => rfl) (h1.el i a ha fun cs e => hno (cs.map g) (by cases e; rfl)), fun i cs e => ?_, h1.sep, hown, hblk⟩
      cases e
      obtain ⟨g1, g2, g3⟩ := h1.op p.1 p.2 rfl
      exact ⟨g1, by simpa using g2, hg.l g3⟩
theorem Ow_g {k : Nat} (x : It) (hb : E2.blk k = E.blk k) (hs : E2.sl k = E.sl k) (hx : E2.ext k = E.ext k) : Ow E2 k (gIt g x) = Ow E k x := by
  funext b
  cases x with
  | prow e z as o => cases o <;> simp [Ow, gIt, hx]
  | _ => simp [Ow, gIt, hb, hs, hx]
end

/-! ### numbers as literals -/
def natK (n : Nat) (k : Nat → Prop) : Prop := match n with | 0 => k 0 | m + 1 => sucK m k
theorem natK_eq (n : Nat) (k : Nat → Prop) : natK n k = k n := by cases n with | zero => rfl | succ m => exact sucK_eq m k
def renCK (σ : Nat → Nat) (x : XC) (k : XC → Prop) : Prop :=
  match x with
  | .p it o => natK (σ it) fun n => k (.p n o)
  | .ow it => natK (σ it) fun n => k (.ow n)
  | .q it i z o => natK (σ it) fun n => k (.q n i z o)
  | .sw it i z o => natK (σ it) fun n => k (.sw n i z o)
  | .sp it o m z => natK (σ it) fun n => k (.sp n o m z)
  | .mp it => natK (σ it) fun n => k (.mp n)
  | x => forceC (renC σ x) k
theorem renCK_eq (σ : Nat → Nat) (x : XC) (k : XC → Prop) : renCK σ x k = k (renC σ x) := by
  cases x <;> simp only [renCK, natK_eq, forceC_eq, renC]
def renLK (σ : Nat → Nat) : List XC → (List XC → Prop) → Prop
  | [], k => k []
  | x :: l, k => renCK σ x fun x => renLK σ l fun l => k (x :: l)
theorem renLK_eq (σ : Nat → Nat) : ∀ (l : List XC) (k : List XC → Prop), renLK σ l k = k (l.map (renC σ))
  | [], _ => rfl
  | x :: l, k => by simp only [renLK, renCK_eq, renLK_eq σ l, List.map_cons]
def renVK (σ : Nat → Nat) (x : XV) (k : XV → Prop) : Prop :=
  match x with
  | .c x => renCK σ x fun x => k (.c x)
  | .a l => renLK σ l fun l => k (.a l)
  | x => forceV (renV σ x) k
theorem renVK_eq (σ : Nat → Nat) (x : XV) (k : XV → Prop) : renVK σ x k = k (renV σ x) := by
  cases x <;> simp only [renVK, renCK_eq, renLK_eq, forceV_eq, renV]
def renTsK (σ : Nat → Nat) : List XV → (List XV → Prop) → Prop
  | [], k => k []
  | x :: l, k => renVK σ x fun x => renTsK σ l fun l => k (x :: l)
theorem renTsK_eq (σ : Nat → Nat) : ∀ (l : List XV) (k : List XV → Prop), renTsK σ l k = k (l.map (renV σ))
  | [], _ => rfl
  | x :: l, k => by simp only [renTsK, renVK_eq, renTsK_eq σ l, List.map_cons]
def renItK (σ : Nat → Nat) (x : It) (k : It → Prop) : Prop :=
  match x with
  | .cells ty cs => renLK σ cs fun cs => k (.cells ty cs)
  | .held vs xs => renTsK σ xs fun xs => k (.held vs xs)
  | .prow e z as (some (i, cs)) => renLK σ cs fun cs => k (.prow e z as (some (i, cs)))
  | x => k x
theorem renItK_eq (σ : Nat → Nat) (x : It) (k : It → Prop) : renItK σ x k = k (renIt σ x) := by
  cases x with
  | prow e z as o => cases o <;> simp only [renItK, renLK_eq, renIt]
  | _ => simp only [renItK, renLK_eq, renTsK_eq, renIt]
def renHK (σ : Nat → Nat) : List It → (List It → Prop) → Prop
  | [], k => k []
  | x :: l, k => renItK σ x fun x => renHK σ l fun l => k (x :: l)
theorem renHK_eq (σ : Nat → Nat) : ∀ (l : List It) (k : List It → Prop), renHK σ l k = k (l.map (renIt σ))
  | [], _ => rfl
  | x :: l, k => by simp only [renHK, renItK_eq, renHK_eq σ l, List.map_cons]
def appH : List It → List It → (List It → Prop) → Prop
  | [], r, k => k r
  | x :: l, r, k => appH l r fun l => k (x :: l)
theorem appH_eq : ∀ (l r : List It) (k : List It → Prop), appH l r k = k (l ++ r)
  | [], _, _ => rfl
  | x :: l, r, k => by simp only [appH, appH_eq l r, List.cons_append]

/-- A step that no operation takes. -/
def GhS (h : List It) (g : XC → XC) (h2 : List It) : Prop := ∀ w0 F E w, Heap w0 F E h w → ∃ E2, Heap w0 F E2 h2 w ∧ Gst E E2 g

theorem gV_id (x : XV) : gV (fun x => x) x = x := by
  have hW : (gW fun x => x) = fun x => x := by funext x; cases x <;> simp [gW]
  cases x <;> simp [gV, hW]
theorem gIt_id (x : It) : gIt (fun x => x) x = x := by
  have hV : (gV fun x => x) = fun x => x := by funext x; exact gV_id x
  cases x with
  | prow e z as o => cases o <;> simp [gIt]
  | _ => simp [gIt, hV]

/-- Memory said anew; at the places of P all stands as it stood. -/
theorem Heap.remix {w0 : Org} {F : Nat → Prop} {E E2 : Env} {h h2 : List It} {w : World} {g : XC → XC} (hp : Heap w0 F E h w) (hb : E2.bs = E.bs) (hn : E2.n = h2.length) (hg : Gst E E2 g) (P : Nat → Prop)
    (hold : ∀ k y, h2[k]? = some y → P k → ∃ x, h[k]? = some x ∧ y = gIt g x ∧ E2.blk k = E.blk k ∧ E2.sl k = E.sl k ∧ E2.ext k = E.ext k)
    (hnew : ∀ k y, h2[k]? = some y → ¬ P k → ItOk E2 w k y ∧ ∀ b, Ow E2 k y b → ∃ k' x, ¬ P k' ∧ h[k']? = some x ∧ Ow E k' x b)
    (hsep : ∀ j k x y b, h2[j]? = some x → h2[k]? = some y → ¬ P j → ¬ P k → Ow E2 j x b → Ow E2 k y b → j = k) : Heap w0 F E2 h2 w := by
  have old : ∀ {k : Nat} {y : It} {b : Nat}, h2[k]? = some y → P k → Ow E2 k y b → ∃ x, h[k]? = some x ∧ Ow E k x b := fun {k y b} hy hk hyb => by
    obtain ⟨x, hx, rfl, h1, h2, h3⟩ := hold k y hy hk
    rw [Ow_g x h1 h2 h3] at hyb; exact ⟨x, hx, hyb⟩
  refine hp.re hb hn (fun k y hy => ?_) (fun k y b hy hyb => ?_) (fun j k x y b hjx hky hxb hyb => ?_)
  · by_cases hk : P k
    · obtain ⟨x, hx, rfl, h1, h2, h3⟩ := hold k y hy hk
      exact hg.it h1 h2 h3 (by rw [hb]; exact fun _ h => ⟨h, rfl⟩) (hp.ok k x hx)
    · exact (hnew k y hy hk).1
  · by_cases hk : P k
    · obtain ⟨x, hx, hxb⟩ := old hy hk hyb; exact ⟨k, x, hx, hxb⟩
    · obtain ⟨k', x, _, hx, hxb⟩ := (hnew k y hy hk).2 b hyb; exact ⟨k', x, hx, hxb⟩
  · by_cases hj : P j <;> by_cases hk : P k
    · obtain ⟨x', hx', hxb'⟩ := old hjx hj hxb
      obtain ⟨y', hy', hyb'⟩ := old hky hk hyb
      exact hp.sep j k x' y' b hx' hy' hxb' hyb'
    · obtain ⟨x', hx', hxb'⟩ := old hjx hj hxb
      obtain ⟨k', z, hnP, hz, hzb⟩ := (hnew k y hky hk).2 b hyb
      exact absurd (hp.sep j k' x' z b hx' hz hxb' hzb ▸ hj) hnP
    · obtain ⟨y', hy', hyb'⟩ := old hky hk hyb
      obtain ⟨k', z, hnP, hz, hzb⟩ := (hnew j x hjx hj).2 b hxb
      exact absurd (hp.sep k k' y' z b hy' hz hyb' hzb ▸ hk) hnP
    · exact hsep j k x y b hjx hky hj hk hxb hyb

/-- Where items were put behind others, and one or another one is said anew. -/
theorem at_append {h h' : List It} {k : Nat} {y : It} (hy : (h ++ h')[k]? = some y) : (k < h.length ∧ h[k]? = some y) ∨ (h.length ≤ k ∧ h'[k - h.length]? = some y) := by
  by_cases hk : k < h.length
  · rw [List.getElem?_append_left hk] at hy; exact .inl ⟨hk, hy⟩
  · rw [List.getElem?_append_right (by omega)] at hy; exact .inr ⟨by omega, hy⟩
theorem at_set {h : List It} {it k : Nat} {x y : It} (hy : (h.set it x)[k]? = some y) : (k = it ∧ y = x ∧ it < h.length) ∨ (k ≠ it ∧ h[k]? = some y) := by
  by_cases e : it = k
  · subst e
    have hlt : it < h.length := by have := (List.getElem?_eq_some_iff.1 hy).1; simpa using this
    rw [List.getElem?_set_self hlt] at hy
    exact .inl ⟨rfl, by simpa using hy.symm, hlt⟩
  · rw [List.getElem?_set_ne e] at hy; exact .inr ⟨fun e' => e e'.symm, hy⟩

/-! ### opening -/
theorem open_sound {h : List It} {it i e z : Nat} {as : List AbsL} {xs : List XC} {hs : List It} (hx : h[it]? = some (.prow e z as none)) (ha : as[i]? = some (PackL xs hs)) :
    GhS h (fun x => x) (h.set it (.prow e z as (some (i, xs.map (renC fun j => h.length + j)))) ++ hs.map (renIt fun j => h.length + j)) := by
  intro w0 F E w hp
  obtain ⟨ys, Ss, hpr⟩ := hp.ok it _ hx
  obtain ⟨Ep, hbs, hpk⟩ := hpr.el i _ ha (fun cs e => by cases e)
  have hn := hp.n
  have hit : it < h.length := (List.getElem?_eq_some_iff.1 hx).1
  let n := h.length
  let E2 : Env := { E with n := n + hs.length, blk := fun k => if k < n then E.blk k else Ep.blk (k - n), sl := fun k => if k < n then E.sl k else Ep.sl (k - n), ext := fun k => if k = it then (fun b => E.ext it b ∧ ¬ Ss i b) else if k < n then E.ext k else Ep.ext (k - n) }
  have hb1 : ∀ k, k < n → E2.blk k = E.blk k := fun k hk => by simp [E2, hk]
  have hs1 : ∀ k, k < n → E2.sl k = E.sl k := fun k hk => by simp [E2, hk]
  have hx1 : ∀ k, k < n → k ≠ it → E2.ext k = E.ext k := fun k hk hne => by simp [E2, hk, hne]
  have hxi : ∀ b, E2.ext it b ↔ E.ext it b ∧ ¬ Ss i b := fun b => by simp [E2]
  have hR : EnvR (fun j => n + j) Ep E2 := ⟨fun j hj => by show n + j < n + hs.length; rw [hpk.n] at hj; omega, fun j hj => by simp [E2, Nat.not_lt_of_le (Nat.le_add_right n j)], fun j hj => by simp [E2, Nat.not_lt_of_le (Nat.le_add_right n j)], fun b hb => by rw [hbs] at hb ⊢; exact ⟨hb, rfl⟩⟩
  have hxe : ∀ j, E2.ext (n + j) = Ep.ext j := fun j => by
    have : ¬ n + j = it := by omega
    simp [E2, this, Nat.not_lt_of_le (Nat.le_add_right n j)]
  have hc : EnvC E E2 := ⟨by show E.n ≤ n + hs.length; omega, fun k hk => hb1 k (by omega), fun k hk => hs1 k (by omega), fun b hb => ⟨hb, rfl⟩⟩
  have own2 : ∀ {j : Nat} {y : It} {b : Nat}, hs[j]? = some y → Ow E2 (n + j) (renIt (fun j => n + j) y) b → Ow Ep j y b := fun {j y b} hy hb => by
    have hj : j < Ep.n := by rw [hpk.n]; exact (List.getElem?_eq_some_iff.1 hy).1
    rw [Ow_ren (E0 := Ep) (E := E2) (σ := fun j => n + j) (k := j) y (hR.blk j hj) (hR.sl j hj) (hxe j)] at hb
    exact hb
  have hilt : i < as.length := (List.getElem?_eq_some_iff.1 ha).1
  have hlen : (h.set it (.prow e z as (some (i, xs.map (renC fun j => n + j))))).length = n := by simp [n]
  have new : ∀ {k : Nat} {y : It}, (h.set it (.prow e z as (some (i, xs.map (renC fun j => n + j)))) ++ hs.map (renIt fun j => n + j))[k]? = some y → ¬ (k < n ∧ k ≠ it) →
      (k = it ∧ y = .prow e z as (some (i, xs.map (renC fun j => n + j)))) ∨ (∃ j y0, k = n + j ∧ hs[j]? = some y0 ∧ y = renIt (fun j => n + j) y0) := fun {k y} hy hk => by
    rcases at_append hy with ⟨hk', hy⟩ | ⟨hk', hy⟩
    · rcases at_set hy with ⟨h1, h2, _⟩ | ⟨h1, _⟩
      · exact .inl ⟨h1, h2⟩
      · rw [hlen] at hk'; exact absurd ⟨hk', h1⟩ hk
    · rw [hlen] at hk' hy
      rw [List.getElem?_map, Option.map_eq_some_iff] at hy
      obtain ⟨y0, h0, rfl⟩ := hy
      exact .inr ⟨k - n, y0, by omega, h0, rfl⟩
  refine ⟨E2, hp.remix rfl (by show n + hs.length = _; simp [n]) (Gst.id hc) (fun k => k < n ∧ k ≠ it) (fun k y hy hk => ?_) (fun k y hy hk => ?_) (fun j k x y b hjx hky hj hk hb hb' => ?_), Gst.id hc⟩
  · rcases at_append hy with ⟨_, hy⟩ | ⟨hk', _⟩
    · rcases at_set hy with ⟨h1, _⟩ | ⟨_, hy⟩
      · exact absurd h1 hk.2
      · exact ⟨y, hy, (gIt_id y).symm, hb1 k hk.1, hs1 k hk.1, hx1 k hk.1 hk.2⟩
    · rw [hlen] at hk'; omega
  · rcases new hy hk with ⟨rfl, rfl⟩ | ⟨j, y0, rfl, hy0, rfl⟩
    · have hSs : ∀ j, j ≠ i → (fun b => j ≠ i ∧ Ss j b) = Ss j := fun j hj => by funext b; exact propext ⟨fun h => h.2, fun h => ⟨hj, h⟩⟩
      refine ⟨⟨ys, fun j b => j ≠ i ∧ Ss j b, by rw [hs1 _ hit]; exact hpr.row, fun j a hja hno => by rw [hSs j (fun e => hno _ (by rw [e]))]; exact hpr.el j a hja (fun cs e => by cases e), fun j cs e => ?_, fun j j' b h1 h2 => hpr.sep j j' b h1.2 h2.2, fun j b hb => ?_, fun b hb => ?_⟩, fun b hb => ⟨k, _, fun h => h.2 rfl, hx, ((hxi b).1 hb).1⟩⟩
      · cases e
        refine ⟨hilt, ?_, renL_rel hR hpk.rel⟩
        have hz := hpr.row.1
        have hle : i * z + z ≤ as.length * z := by rw [← Nat.succ_mul]; exact Nat.mul_le_mul_right z hilt
        rw [List.length_map, hpk.rel.len, List.length_take, List.length_drop]; omega
      · rw [hs1 _ hit]
        exact ⟨(hxi b).2 ⟨(hpr.own j b hb.2).1, fun h => hb.1 (hpr.sep j i b hb.2 h)⟩, (hpr.own j b hb.2).2⟩
      · rw [hs1 _ hit] at hb
        exact (hxi b).2 ⟨hpr.blk b hb, fun h => (hpr.own i b h).2 hb⟩
    · have hj : j < Ep.n := by rw [hpk.n]; exact (List.getElem?_eq_some_iff.1 hy0).1
      exact ⟨renIt_ok hR hj (hxe j) (hpk.ok j y0 hy0), fun b hb => ⟨it, _, fun h => h.2 rfl, hx, (hpr.own i b (hpk.own j y0 b hy0 (own2 hy0 hb))).1⟩⟩
  · rcases new hjx hj with ⟨e1, rfl⟩ | ⟨a, x0, rfl, hx0, rfl⟩ <;> rcases new hky hk with ⟨e2, rfl⟩ | ⟨c, y0, rfl, hy0, rfl⟩
    · omega
    · subst e1
      exact absurd (hpk.own c y0 b hy0 (own2 hy0 hb')) ((hxi b).1 hb).2
    · subst e2
      exact absurd (hpk.own a x0 b hx0 (own2 hx0 hb)) ((hxi b).1 hb').2
    · rw [hpk.sep a c x0 y0 b hx0 hy0 (own2 hx0 hb) (own2 hy0 hb')]
end Go.Eng

/- The engine, part Gc: more steps that no operation takes. Nothing of any program is proved here. -/
namespace Go.Eng
open Go Go.RowKit
set_option linter.unusedSimpArgs false
set_option linter.unusedVariables false

def nthN : List Nat → Nat → Nat
  | [], _ => 0
  | a :: _, 0 => a
  | _ :: l, n + 1 => nthN l n
theorem nthN_get : ∀ {l : List Nat} {i : Nat}, i < l.length → l[i]? = some (nthN l i)
  | a :: l, 0, _ => rfl
  | a :: l, i + 1, h => by simpa [nthN] using nthN_get (l := l) (i := i) (by simpa using h)
  | [], _, h => by simp at h
theorem nthN_mem {l : List Nat} {i : Nat} (h : i < l.length) : nthN l i ∈ l := List.mem_of_getElem? (nthN_get h)
theorem nthN_inj {l : List Nat} (hl : l.Nodup) {i j : Nat} (hi : i < l.length) (hj : j < l.length) (h : nthN l i = nthN l j) : i = j := by
  have h1 := nthN_get hi
  have h2 := nthN_get hj
  rw [h] at h1
  exact (List.getElem?_inj hi hl).1 (h1.trans h2.symm)
def nodupB : List Nat → Bool
  | [] => true
  | a :: l => (match memJ a l with | true => false | false => nodupB l)
theorem memJ_iff {n : Nat} : ∀ {l : List Nat}, memJ n l = true ↔ n ∈ l
  | [] => by simp [memJ]
  | a :: l => by
    unfold memJ
    split
    · rename_i h; have := Nat.eq_of_beq_eq_true h; simp [this]
    · rename_i h; have := beq_ne h; rw [memJ_iff (l := l)]; simp [this]
theorem nodupB_iff : ∀ {l : List Nat}, nodupB l = true → l.Nodup
  | [], _ => List.nodup_nil
  | a :: l, h => by
    unfold nodupB at h
    split at h
    · cases h
    · rename_i hm
      exact List.nodup_cons.2 ⟨fun hmem => (by rw [memJ_iff.2 hmem] at hm; cases hm), nodupB_iff h⟩

/-- At these places stand these items, or such as say more. -/
def preAt (h : List It) : List Nat → List It → Prop
  | [], [] => True
  | j :: js, y :: ys => ItLe (itemAt h j) y ∧ preAt h js ys
  | _, _ => False
theorem preAt_len {h : List It} : ∀ {js : List Nat} {ys : List It}, preAt h js ys → js.length = ys.length
  | [], [], _ => rfl
  | _ :: _, _ :: _, hp => by simp [preAt_len hp.2]
  | [], _ :: _, hp => hp.elim
  | _ :: _, [], hp => hp.elim
theorem preAt_get {h : List It} : ∀ {js : List Nat} {ys : List It}, preAt h js ys → ∀ {m : Nat} {y : It}, ys[m]? = some y → ItLe (itemAt h (nthN js m)) y
  | _ :: _, _ :: _, hp, 0, y, hy => by simp at hy; subst hy; exact hp.1
  | _ :: _, _ :: _, hp, m + 1, y, hy => preAt_get hp.2 (by simpa using hy)
  | [], [], _, _, _, hy => by simp at hy
  | [], _ :: _, hp, _, _, _ => hp.elim
  | _ :: _, [], hp, _, _, _ => hp.elim

theorem ItLe.ok' {E : Env} {x y : It} (h : ItLe x y) {w : World} {k : Nat} (hi : ItOk E w k x) : ItOk E w k y := by
  cases y with
  | dead => trivial
  | cells ty cs =>
    cases x with
    | cells ty' cs' => obtain ⟨rfl, he⟩ := h; obtain ⟨vs, hv, hrel⟩ := hi; exact ⟨vs, hv, entL_rel he hrel⟩
    | _ => exact h.elim
  | row e z xs =>
    cases x with
    | row e' z' ys =>
      obtain ⟨⟨rfl, rfl⟩, he⟩ := h
      obtain ⟨vs, ho, hrel, hl, hst⟩ := hi
      rw [entLL_len he] at ho
      exact ⟨vs, ho, entL_rel (entLL_flat he) hrel, entLL_lens he hl, entL_st (entLL_flat he) hst⟩
    | _ => exact h.elim
  | obj Φ => have h : x = .obj Φ := h; subst h; exact hi
  | abs A' =>
    cases x with
    | abs A => exact h _ _ _ _ hi
    | _ => exact h.elim
  | held us ys =>
    cases x with
    | held us' xs => obtain ⟨rfl, h⟩ := h; exact entTs_rel h hi
    | _ => exact h.elim
  | prow e z as o =>
    cases x with
    | prow e' z' bs o' =>
      obtain ⟨⟨rfl, rfl⟩, hA, hO⟩ := h
      obtain ⟨ys, Ss, h1⟩ := hi
      have hlen := leA_len hA
      refine ⟨ys, Ss, by rw [← hlen]; exact h1.row, fun i b hb hno => ?_, fun i cs e => ?_, h1.sep, h1.own, h1.blk⟩
      · obtain ⟨a, ha, hle⟩ := leA_get hA hb
        refine hle _ _ _ _ (h1.el i a ha fun cs e => ?_)
        subst e
        cases o with
        | none => exact hO.elim
        | some p => obtain ⟨rfl, _⟩ := hO; exact hno p.2 rfl
      · subst e
        cases o' with
        | none => exact hO.elim
        | some p =>
          obtain ⟨e1, e2⟩ := hO
          obtain ⟨g1, g2, g3⟩ := h1.op p.1 p.2 rfl
          rw [e1] at g1 g3
          exact ⟨by rw [← hlen]; exact g1, by rw [← entL_len e2]; exact g2, entL_rel e2 g3⟩
    | _ => exact h.elim
theorem ItLe.ow' {E : Env} {x y : It} (h : ItLe x y) {k b : Nat} (hy : Ow E k y b) : Ow E k x b := ItLe.ow (n := E.n) h hy
theorem ItLe.live {x y : It} (h : ItLe x y) (hy : y ≠ .dead) : x ≠ .dead := fun e => by
  subst e
  cases y with
  | dead => exact hy rfl
  | obj Φ => cases (show It.dead = .obj Φ from h)
  | _ => exact h.elim

/-- So many items, those of these places. -/
def Env.sub (E : Env) (js : List Nat) (n : Nat) : Env := { bs := E.bs, n := n, blk := fun m => E.blk (nthN js m), sl := fun m => E.sl (nthN js m), ext := fun m => E.ext (nthN js m) }
theorem Env.sub_u (E : Env) (js : List Nat) (n : Nat) : EnvU (nthN js) (E.sub js n) E := ⟨fun _ _ => rfl, fun _ _ => rfl, rfl⟩
/-- What these places hold makes a pack. -/
theorem PkOk.shut {w0 : Org} {F : Nat → Prop} {E : Env} {h : List It} {w : World} (hp : Heap w0 F E h w) {js : List Nat} (hnd : js.Nodup) {xs : List XC} {hs : List It} {vs : List Value} (hpre : preAt h js (hs.map (renIt (nthN js))))
    (hwx : wfL hs.length xs = true) (hwh : wfH hs.length hs = true) (hr : RelL E (xs.map (renC (nthN js))) vs) :
    PkOk xs hs (E.sub js hs.length) vs (fun b => ∃ m y, hs[m]? = some y ∧ Ow E (nthN js m) (renIt (nthN js) y) b) w ∧
      ∀ m y b, hs[m]? = some y → Ow E (nthN js m) (renIt (nthN js) y) b → ∃ x, h[nthN js m]? = some x ∧ Ow E (nthN js m) x b ∧ nthN js m ∈ js := by
  have hlen : js.length = hs.length := by rw [preAt_len hpre, List.length_map]
  let E0 : Env := E.sub js hs.length
  have hU : EnvU (nthN js) E0 E := E.sub_u js _
  have hlt : ∀ {m : Nat} {y : It}, hs[m]? = some y → m < hs.length := fun hy => (List.getElem?_eq_some_iff.1 hy).1
  have hle : ∀ {m : Nat} {y : It}, hs[m]? = some y → ItLe (itemAt h (nthN js m)) (renIt (nthN js) y) := fun hy => preAt_get hpre (by rw [List.getElem?_map, hy]; rfl)
  have hown : ∀ m y b, hs[m]? = some y → Ow E (nthN js m) (renIt (nthN js) y) b → ∃ x, h[nthN js m]? = some x ∧ Ow E (nthN js m) x b ∧ nthN js m ∈ js := fun m y b hy hb => by
    have h1 := hle hy
    have hnd : renIt (nthN js) y ≠ .dead := fun e => by rw [e] at hb; exact hb
    exact ⟨_, itemAt_eq _ _ rfl (h1.live hnd), h1.ow' hb, nthN_mem (by rw [hlen]; exact hlt hy)⟩
  refine ⟨⟨rfl, unrenL hU hwx hr, fun m y hy => ?_, fun m y b hy hb => ?_, fun a c x y b hx hy hxb hyb => ?_⟩, hown⟩
  · have h1 := hle hy
    have hok : ItOk E w (nthN js m) (renIt (nthN js) y) := by
      by_cases hd : renIt (nthN js) y = .dead
      · rw [hd]; trivial
      · exact h1.ok' (hp.ok _ _ (itemAt_eq _ _ rfl (h1.live hd)))
    exact unrenIt_ok hU (hlt hy) rfl (wfH_get hwh hy) hok
  · refine ⟨m, y, hy, ?_⟩
    rw [Ow_ren (E0 := E0) (E := E) (σ := nthN js) (k := m) y rfl rfl rfl]; exact hb
  · rw [← Ow_ren (E0 := E0) (E := E) (σ := nthN js) (k := a) x rfl rfl rfl] at hxb
    rw [← Ow_ren (E0 := E0) (E := E) (σ := nthN js) (k := c) y rfl rfl rfl] at hyb
    obtain ⟨x', hx', hxb', _⟩ := hown a x b hx hxb
    obtain ⟨y', hy', hyb', _⟩ := hown c y b hy hyb
    exact nthN_inj hnd (by rw [hlen]; exact hlt hx) (by rw [hlen]; exact hlt hy) (hp.sep _ _ _ _ b hx' hy' hxb' hyb')

/-- These places are empty from here on. -/
def killAt : List Nat → List It → List It
  | [], h => h
  | j :: js, h => killAt js (h.set j .dead)
def killAtK : List Nat → List It → (List It → Prop) → Prop
  | [], h, k => k h
  | j :: js, h, k => setH h j .dead fun h => killAtK js h k
theorem killAtK_eq : ∀ (js : List Nat) (h : List It) (k : List It → Prop), killAtK js h k = k (killAt js h)
  | [], _, _ => rfl
  | j :: js, h, k => by simp only [killAtK, setH_eq, killAt, killAtK_eq js]
theorem killAt_len : ∀ (js : List Nat) (h : List It), (killAt js h).length = h.length
  | [], _ => rfl
  | j :: js, h => by rw [killAt, killAt_len js]; simp
theorem killAt_get : ∀ {js : List Nat} {h : List It} {k : Nat} {y : It}, (killAt js h)[k]? = some y → (k ∈ js ∧ y = .dead) ∨ (k ∉ js ∧ h[k]? = some y)
  | [], h, k, y, hy => .inr ⟨by simp, hy⟩
  | j :: js, h, k, y, hy => by
    rcases killAt_get (js := js) hy with ⟨h1, h2⟩ | ⟨h1, h2⟩
    · exact .inl ⟨by simp [h1], h2⟩
    · rcases at_set h2 with ⟨rfl, rfl, _⟩ | ⟨hne, h2⟩
      · exact .inl ⟨by simp, rfl⟩
      · exact .inr ⟨by simp [hne, h1], h2⟩

/-! ### shutting an element -/
theorem close_sound {h : List It} {it i e z : Nat} {as : List AbsL} {cs : List XC} {js : List Nat} {xs : List XC} {hs : List It} (hx : h[it]? = some (.prow e z as (some (i, cs)))) (hnd : js.Nodup) (hnit : it ∉ js)
    (hcs : entL cs (xs.map (renC (nthN js)))) (hpre : preAt h js (hs.map (renIt (nthN js)))) (hwx : wfL hs.length xs = true) (hwh : wfH hs.length hs = true) :
    GhS h (fun x => x) (killAt js (h.set it (.prow e z (as.set i (PackL xs hs)) none))) := by
  intro w0 F E w hp
  obtain ⟨ys, Ss, hpr⟩ := hp.ok it _ hx
  obtain ⟨g1, g2, g3⟩ := hpr.op i cs rfl
  obtain ⟨hpk, hown⟩ := PkOk.shut hp hnd hpre hwx hwh (entL_rel hcs g3)
  let S : Nat → Prop := fun b => ∃ m y, hs[m]? = some y ∧ Ow E (nthN js m) (renIt (nthN js) y) b
  have hSo : ∀ b, S b → ∃ k x, k ∈ js ∧ h[k]? = some x ∧ Ow E k x b := fun b ⟨m, y, hy, hb⟩ => by
    obtain ⟨x, h1, h2, h3⟩ := hown m y b hy hb; exact ⟨_, x, h3, h1, h2⟩
  have hSx : ∀ b, S b → ¬ E.ext it b := fun b hb hx' => by
    obtain ⟨k, x, hk, hkx, hkb⟩ := hSo b hb
    have := hp.sep it k _ x b hx hkx hx' hkb
    exact hnit (this ▸ hk)
  let E2 : Env := { E with ext := fun k => if k = it then (fun b => E.ext it b ∨ S b) else E.ext k }
  have hx1 : ∀ k, k ≠ it → E2.ext k = E.ext k := fun k hk => by simp [E2, hk]
  have hxi : ∀ b, E2.ext it b ↔ E.ext it b ∨ S b := fun b => by simp [E2]
  have hc : EnvC E E2 := ⟨Nat.le_refl _, fun _ _ => rfl, fun _ _ => rfl, fun _ h => ⟨h, rfl⟩⟩
  refine ⟨E2, hp.remix rfl (by rw [killAt_len]; simp [E2, hp.n]) (Gst.id hc) (fun k => k ≠ it ∧ k ∉ js) (fun k y hy hk => ?_) (fun k y hy hk => ?_) (fun j k x y b hjx hky hj hk hb hb' => ?_), Gst.id hc⟩
  · rcases killAt_get hy with ⟨h1, _⟩ | ⟨_, hy⟩
    · exact absurd h1 hk.2
    · rcases at_set hy with ⟨h1, _⟩ | ⟨_, hy⟩
      · exact absurd h1 hk.1
      · exact ⟨y, hy, (gIt_id y).symm, rfl, rfl, hx1 k hk.1⟩
  · rcases killAt_get hy with ⟨h1, rfl⟩ | ⟨h1, hy⟩
    · exact ⟨trivial, fun b hb => hb.elim⟩
    · rcases at_set hy with ⟨rfl, rfl, _⟩ | ⟨h2, _⟩
      · have hil : i < (as.set i (PackL xs hs)).length := by simpa using g1
        refine ⟨⟨ys, fun j b => (j ≠ i ∧ Ss j b) ∨ (j = i ∧ S b), by rw [List.length_set]; exact hpr.row, fun j a ha _ => ?_, fun j cs' e => (by cases e), fun j j' b h3 h4 => ?_, fun j b h3 => ?_, fun b h3 => (hxi b).2 (.inl (hpr.blk b h3))⟩, fun b hb => ?_⟩
        · by_cases hj : j = i
          · subst hj
            rw [List.getElem?_set_self g1] at ha
            cases ha
            have hSe : (fun b => (j ≠ j ∧ Ss j b) ∨ (j = j ∧ S b)) = S := by funext b; exact propext ⟨fun h => h.elim (fun h => absurd rfl h.1) (fun h => h.2), fun h => .inr ⟨rfl, h⟩⟩
            rw [hSe]
            exact ⟨E.sub _ _, rfl, hpk⟩
          · rw [List.getElem?_set_ne (fun e => hj e.symm)] at ha
            have hSe : (fun b => (j ≠ i ∧ Ss j b) ∨ (j = i ∧ S b)) = Ss j := by funext b; exact propext ⟨fun h => h.elim (fun h => h.2) (fun h => absurd h.1 hj), fun h => .inl ⟨hj, h⟩⟩
            rw [hSe]
            exact hpr.el j a ha fun cs' e => by cases e; exact hj rfl
        · rcases h3 with ⟨h3, h5⟩ | ⟨h3, h5⟩ <;> rcases h4 with ⟨h4, h6⟩ | ⟨h4, h6⟩
          · exact hpr.sep j j' b h5 h6
          · exact absurd (hpr.own j b h5).1 (hSx b h6)
          · exact absurd (hpr.own j' b h6).1 (hSx b h5)
          · omega
        · rcases h3 with ⟨_, h5⟩ | ⟨_, h5⟩
          · exact ⟨(hxi b).2 (.inl (hpr.own j b h5).1), (hpr.own j b h5).2⟩
          · exact ⟨(hxi b).2 (.inr h5), fun h => hSx b h5 (hpr.blk b h)⟩
        · rcases (hxi b).1 hb with h3 | h3
          · exact ⟨k, _, fun h => h.1 rfl, hx, h3⟩
          · obtain ⟨k', x, hk', hkx, hkb⟩ := hSo b h3
            exact ⟨k', x, fun h => h.2 hk', hkx, hkb⟩
      · exact absurd ⟨h2, h1⟩ hk
  · rcases killAt_get hjx with ⟨_, rfl⟩ | ⟨h1, hjx⟩
    · exact hb.elim
    · rcases killAt_get hky with ⟨_, rfl⟩ | ⟨h2, hky⟩
      · exact hb'.elim
      · have e1 : j = it := Classical.byContradiction fun e => hj ⟨e, h1⟩
        have e2 : k = it := Classical.byContradiction fun e => hk ⟨e, h2⟩
        rw [e1, e2]
end Go.Eng

/- The engine, part Gd: such steps, wherever the walk stops. Nothing of any program is proved here. -/
namespace Go.Eng
open Go Go.RowKit
set_option linter.unusedSimpArgs false
set_option linter.unusedVariables false

/-! ### one pack, for what it lies behind -/
/-- A pointer to a root becomes the pack's value. -/
def packG1 (it : Nat) (c : XC) : XC :=
  match c with
  | .p k 0 => (match Nat.beq k it with | true => .ow it | false => .p k 0)
  | .ow k => (match Nat.beq k it with | true => .un | false => .ow k)
  | .q k a b o => (match Nat.beq k it with | true => .un | false => .q k a b o)
  | .sw k a b o => (match Nat.beq k it with | true => .un | false => .sw k a b o)
  | .fn _ _ _ => .un
  | c => c
def packG (it : Nat) (c : XC) : XC :=
  match c with
  | .fn f n caps => .fn f n fun j => packG1 it (caps j)
  | c => packG1 it c
/-- The pack's value becomes what it is. -/
def unpackG1 (it : Nat) (r : XC) (c : XC) : XC :=
  match c with
  | .ow k => (match Nat.beq k it with | true => r | false => .ow k)
  | .p k o => (match Nat.beq k it with | true => .un | false => .p k o)
  | .q k a b o => (match Nat.beq k it with | true => .un | false => .q k a b o)
  | .sw k a b o => (match Nat.beq k it with | true => .un | false => .sw k a b o)
  | .sp k a b o => (match Nat.beq k it with | true => .un | false => .sp k a b o)
  | .mp k => (match Nat.beq k it with | true => .un | false => .mp k)
  | .fn _ _ _ => .un
  | c => c
def unpackG (it : Nat) (r : XC) (c : XC) : XC :=
  match c with
  | .fn f n caps => .fn f n fun j => unpackG1 it r (caps j)
  | c => unpackG1 it r c

theorem RelC.fnMap {E E2 : Env} {g1 : XC → XC} (hg : ∀ x v, RelC E x v → RelC E2 (g1 x) v) {f n : Nat} {caps : Nat → XC} {v : Value} (h : RelC E (.fn f n caps) v) : RelC E2 (.fn f n fun j => g1 (caps j)) v := by
  obtain ⟨vs, rfl, hn, hc⟩ := h
  refine ⟨vs, rfl, hn, fun j hj => ?_⟩
  obtain ⟨u, hu, hr⟩ := hc j hj
  exact ⟨u, hu, hg _ _ hr⟩

theorem packG_gst {E E2 : Env} {it : Nat} (hn : E.n ≤ E2.n) (hb : E2.blk = E.blk) (hs : ∀ k, k ≠ it → E2.sl k = E.sl k) (hbs : E2.bs = E.bs) (hv : E2.sl it = .pointer (some ⟨E.blk it, 0, none⟩)) : Gst E E2 (packG it) := by
  have st : ∀ {x : XC} {v : Value}, St x → RelC E x v → RelC E2 x v := fun h hr => RelC.stable (E := E) (by rw [hbs]; exact fun _ h => ⟨h, rfl⟩) _ _ h hr
  have h1 : ∀ x v, RelC E x v → RelC E2 (packG1 it x) v := fun x v h => by
    cases x with
    | p k o =>
      cases o with
      | zero =>
        simp only [packG1]
        split
        · rename_i e
          have e := Nat.eq_of_beq_eq_true e
          subst e
          exact ⟨Nat.lt_of_lt_of_le h.1 hn, by rw [hv]; exact h.2, by rw [h.2]; rfl⟩
        · exact ⟨Nat.lt_of_lt_of_le h.1 hn, by rw [hb]; exact h.2⟩
      | succ o => exact ⟨Nat.lt_of_lt_of_le h.1 hn, by rw [hb]; exact h.2⟩
    | ow k =>
      simp only [packG1]
      split
      · exact h.one
      · rename_i e; exact ⟨Nat.lt_of_lt_of_le h.1 hn, by rw [hs k (beq_ne e)]; exact h.2⟩
    | q k a b o =>
      simp only [packG1]
      split
      · exact h.one
      · rename_i e; exact ⟨Nat.lt_of_lt_of_le h.1 hn, by rw [hs k (beq_ne e)]; exact h.2⟩
    | sw k a b o =>
      simp only [packG1]
      split
      · exact h.one
      · rename_i e; exact ⟨Nat.lt_of_lt_of_le h.1 hn, by rw [hs k (beq_ne e)]; exact h.2⟩
    | sp k a b o => exact ⟨Nat.lt_of_lt_of_le h.1 hn, by rw [hb]; exact h.2⟩
    | mp k => exact ⟨Nat.lt_of_lt_of_le h.1 hn, by rw [hb]; exact h.2⟩
    | fn => exact h.one
    | un => exact h
    | il => exact h
    | i => exact h
    | bt => exact h
    | bf => exact h
    | b => exact h
    | v => exact h
    | ep => exact st (show St (.ep _ _) from trivial) h
    | rs => exact st (show St (.rs _ _ _) from trivial) h
    | ts => exact st (show St (.ts _ _ _) from trivial) h
  intro x v h
  unfold packG
  split
  · exact RelC.fnMap h1 h
  · exact h1 x v h

theorem unpackG_gst {E E2 : Env} {it : Nat} {r : XC} (hn : E.n ≤ E2.n) (hb : ∀ k, k < E.n → k ≠ it → E2.blk k = E.blk k) (hs : ∀ k, k < E.n → k ≠ it → E2.sl k = E.sl k) (hbs : E2.bs = E.bs) (hv : RelC E2 r (E.sl it)) : Gst E E2 (unpackG it r) := by
  have st : ∀ {x : XC} {v : Value}, St x → RelC E x v → RelC E2 x v := fun h hr => RelC.stable (E := E) (by rw [hbs]; exact fun _ h => ⟨h, rfl⟩) _ _ h hr
  have h1 : ∀ x v, RelC E x v → RelC E2 (unpackG1 it r x) v := fun x v h => by
    cases x with
    | ow k =>
      simp only [unpackG1]
      split
      · rename_i e
        have e := Nat.eq_of_beq_eq_true e
        subst e
        rw [h.2.1]; exact hv
      · rename_i e; exact ⟨Nat.lt_of_lt_of_le h.1 hn, by rw [hs k h.1 (beq_ne e)]; exact h.2⟩
    | p k o =>
      simp only [unpackG1]
      split
      · exact h.one
      · rename_i e; exact ⟨Nat.lt_of_lt_of_le h.1 hn, by rw [hb k h.1 (beq_ne e)]; exact h.2⟩
    | q k a b o =>
      simp only [unpackG1]
      split
      · exact h.one
      · rename_i e; exact ⟨Nat.lt_of_lt_of_le h.1 hn, by rw [hs k h.1 (beq_ne e)]; exact h.2⟩
    | sw k a b o =>
      simp only [unpackG1]
      split
      · exact h.one
      · rename_i e; exact ⟨Nat.lt_of_lt_of_le h.1 hn, by rw [hs k h.1 (beq_ne e)]; exact h.2⟩
    | sp k a b o =>
      simp only [unpackG1]
      split
      · exact h.one
      · rename_i e; exact ⟨Nat.lt_of_lt_of_le h.1 hn, by rw [hb k h.1 (beq_ne e)]; exact h.2⟩
    | mp k =>
      simp only [unpackG1]
      split
      · exact h.one
      · rename_i e; exact ⟨Nat.lt_of_lt_of_le h.1 hn, by rw [hb k h.1 (beq_ne e)]; exact h.2⟩
    | fn => exact h.one
    | un => exact h
    | il => exact h
    | i => exact h
    | bt => exact h
    | bf => exact h
    | b => exact h
    | v => exact h
    | ep => exact st (show St (.ep _ _) from trivial) h
    | rs => exact st (show St (.rs _ _ _) from trivial) h
    | ts => exact st (show St (.ts _ _ _) from trivial) h
  intro x v h
  unfold unpackG
  split
  · exact RelC.fnMap h1 h
  · exact h1 x v h

theorem pack_sound {h : List It} {it : Nat} {js : List Nat} {hs : List It} {y0 : It} (hx : h[it]? = some y0) (hnd : (it :: js).Nodup) (hpre : preAt h (it :: js) (hs.map (renIt (nthN (it :: js))))) (hwh : wfH hs.length hs = true) (hne : 0 < hs.length) :
    GhS h (packG it) (killAt js ((h.map (gIt (packG it))).set it (.abs (Pk (.p 0 0) hs)))) := by
  intro w0 F E w hp
  have hit : it < h.length := (List.getElem?_eq_some_iff.1 hx).1
  have hitn : it < E.n := by rw [hp.n]; exact hit
  let v0 : Value := .pointer (some ⟨E.blk it, 0, none⟩)
  have hwx : wfL hs.length [XC.p 0 0] = true := by
    have : Nat.blt 0 hs.length = true := by simp [Nat.blt, Nat.ble_eq]; omega
    simp [wfL, wfC, this]
  have hr0 : RelL E ([XC.p 0 0].map (renC (nthN (it :: js)))) [v0] := ⟨⟨hitn, rfl⟩, trivial⟩
  obtain ⟨hpk, hown⟩ := PkOk.shut hp hnd hpre (xs := [.p 0 0]) (vs := [v0]) hwx hwh hr0
  let S : Nat → Prop := fun b => ∃ m y, hs[m]? = some y ∧ Ow E (nthN (it :: js) m) (renIt (nthN (it :: js)) y) b
  have hSo : ∀ b, S b → ∃ k x, (k = it ∨ k ∈ js) ∧ h[k]? = some x ∧ Ow E k x b := fun b ⟨m, y, hy, hb⟩ => by
    obtain ⟨x, h1, h2, h3⟩ := hown m y b hy hb; exact ⟨_, x, by simpa using h3, h1, h2⟩
  let E2 : Env := { E with sl := fun k => if k = it then v0 else E.sl k, ext := fun k => if k = it then S else E.ext k }
  have hs1 : ∀ k, k ≠ it → E2.sl k = E.sl k := fun k hk => by simp [E2, hk]
  have hx1 : ∀ k, k ≠ it → E2.ext k = E.ext k := fun k hk => by simp [E2, hk]
  have hsi : E2.sl it = v0 := by simp [E2]
  have hxi : E2.ext it = S := by simp [E2]
  have hg : Gst E E2 (packG it) := packG_gst (Nat.le_refl _) rfl hs1 rfl hsi
  refine ⟨E2, hp.remix rfl (by rw [killAt_len]; simp [E2, hp.n]) hg (fun k => k ≠ it ∧ k ∉ js) (fun k y hy hk => ?_) (fun k y hy hk => ?_) (fun j k x y b hjx hky hj hk hb hb' => ?_), hg⟩
  · rcases killAt_get hy with ⟨h1, _⟩ | ⟨_, hy⟩
    · exact absurd h1 hk.2
    · rcases at_set hy with ⟨h1, _⟩ | ⟨_, hy⟩
      · exact absurd h1 hk.1
      · rw [List.getElem?_map, Option.map_eq_some_iff] at hy
        obtain ⟨x, hx', rfl⟩ := hy
        exact ⟨x, hx', rfl, rfl, hs1 k hk.1, hx1 k hk.1⟩
  · rcases killAt_get hy with ⟨h1, rfl⟩ | ⟨h1, hy⟩
    · exact ⟨trivial, fun b hb => hb.elim⟩
    · rcases at_set hy with ⟨rfl, rfl, _⟩ | ⟨h2, _⟩
      · refine ⟨?_, fun b hb => ?_⟩
        · show (PackL [.p 0 0] hs).is E.bs [E2.sl k] (E2.ext k) w
          rw [hsi, hxi]; exact ⟨E.sub _ _, rfl, hpk⟩
        · have hb : E2.ext k b := hb
          rw [hxi] at hb
          obtain ⟨k', x, h3, h4, h5⟩ := hSo b hb
          exact ⟨k', x, fun h => by rcases h3 with h3 | h3; exact h.1 h3; exact h.2 h3, h4, h5⟩
      · exact absurd ⟨h2, h1⟩ hk
  · rcases killAt_get hjx with ⟨_, rfl⟩ | ⟨h1, hjx⟩
    · exact hb.elim
    · rcases killAt_get hky with ⟨_, rfl⟩ | ⟨h2, hky⟩
      · exact hb'.elim
      · have e1 : j = it := Classical.byContradiction fun e => hj ⟨e, h1⟩
        have e2 : k = it := Classical.byContradiction fun e => hk ⟨e, h2⟩
        rw [e1, e2]

/-- The numbers of a pack's items, the first in the pack's place. -/
def sigU (it n : Nat) : Nat → Nat
  | 0 => it
  | j + 1 => n + j
theorem unpack_sound {h : List It} {it : Nat} {x : XC} {y0 : It} {tl : List It} (hx : h[it]? = some (.abs (Pk x (y0 :: tl)))) :
    GhS h (unpackG it (renC (sigU it h.length) x)) ((h.map (gIt (unpackG it (renC (sigU it h.length) x)))).set it (renIt (sigU it h.length) y0) ++ tl.map (renIt (sigU it h.length))) := by
  intro w0 F E w hp
  have hit : it < h.length := (List.getElem?_eq_some_iff.1 hx).1
  obtain ⟨Ep, hbs, hpk⟩ := hp.ok it _ hx
  have hn := hp.n
  let n := h.length
  let σ := sigU it n
  let E2 : Env := { E with n := n + tl.length, blk := fun k => if k = it then Ep.blk 0 else if k < n then E.blk k else Ep.blk (k - n + 1), sl := fun k => if k = it then Ep.sl 0 else if k < n then E.sl k else Ep.sl (k - n + 1), ext := fun k => if k = it then Ep.ext 0 else if k < n then E.ext k else Ep.ext (k - n + 1) }
  have hEn : Ep.n = tl.length + 1 := by rw [hpk.n]; simp
  have hb1 : ∀ k, k < n → k ≠ it → E2.blk k = E.blk k := fun k hk hne => by simp [E2, hk, hne]
  have hs1 : ∀ k, k < n → k ≠ it → E2.sl k = E.sl k := fun k hk hne => by simp [E2, hk, hne]
  have hx1 : ∀ k, k < n → k ≠ it → E2.ext k = E.ext k := fun k hk hne => by simp [E2, hk, hne]
  have far : ∀ j, n + j ≠ it ∧ ¬ n + j < n := fun j => ⟨by omega, by omega⟩
  have hR : EnvR σ Ep E2 := by
    refine ⟨fun j hj => ?_, fun j hj => ?_, fun j hj => ?_, fun b hb => by rw [hbs] at hb ⊢; exact ⟨hb, rfl⟩⟩
    · cases j with
      | zero => show it < n + tl.length; omega
      | succ j => show n + j < n + tl.length; omega
    · cases j with
      | zero => simp [E2, σ, sigU]
      | succ j => simp [E2, σ, sigU, far j]
    · cases j with
      | zero => simp [E2, σ, sigU]
      | succ j => simp [E2, σ, sigU, far j]
  have hxe : ∀ j, E2.ext (σ j) = Ep.ext j := fun j => by
    cases j with
    | zero => simp [E2, σ, sigU]
    | succ j => simp [E2, σ, sigU, far j]
  have hg : Gst E E2 (unpackG it (renC σ x)) := unpackG_gst (by show E.n ≤ n + tl.length; omega) (fun k hk hne => hb1 k (by omega) hne) (fun k hk hne => hs1 k (by omega) hne) rfl (renC_rel hR _ _ hpk.rel.1)
  have own2 : ∀ {j : Nat} {y : It} {b : Nat}, (y0 :: tl)[j]? = some y → Ow E2 (σ j) (renIt σ y) b → Ow Ep j y b := fun {j y b} hy hb => by
    have hj : j < Ep.n := by rw [hpk.n]; exact (List.getElem?_eq_some_iff.1 hy).1
    rw [Ow_ren (E0 := Ep) (E := E2) (σ := σ) (k := j) y (hR.blk j hj) (hR.sl j hj) (hxe j)] at hb
    exact hb
  have hlen : ((h.map (gIt (unpackG it (renC σ x)))).set it (renIt σ y0)).length = n := by simp [n]
  have new : ∀ {k : Nat} {y : It}, ((h.map (gIt (unpackG it (renC σ x)))).set it (renIt σ y0) ++ tl.map (renIt σ))[k]? = some y → ¬ (k < n ∧ k ≠ it) →
      ∃ j y1, k = σ j ∧ (y0 :: tl)[j]? = some y1 ∧ y = renIt σ y1 := fun {k y} hy hk => by
    rcases at_append hy with ⟨hk', hy⟩ | ⟨hk', hy⟩
    · rcases at_set hy with ⟨h1, h2, _⟩ | ⟨h1, _⟩
      · exact ⟨0, y0, h1, rfl, h2⟩
      · rw [hlen] at hk'; exact absurd ⟨hk', h1⟩ hk
    · rw [hlen] at hk' hy
      rw [List.getElem?_map, Option.map_eq_some_iff] at hy
      obtain ⟨y1, h0, rfl⟩ := hy
      exact ⟨k - n + 1, y1, by show k = n + (k - n); omega, by simpa using h0, rfl⟩
  refine ⟨E2, hp.remix rfl (by show n + tl.length = _; simp [n]) hg (fun k => k < n ∧ k ≠ it) (fun k y hy hk => ?_) (fun k y hy hk => ?_) (fun j k x' y b hjx hky hj hk hb hb' => ?_), hg⟩
  · rcases at_append hy with ⟨_, hy⟩ | ⟨hk', _⟩
    · rcases at_set hy with ⟨h1, _⟩ | ⟨_, hy⟩
      · exact absurd h1 hk.2
      · rw [List.getElem?_map, Option.map_eq_some_iff] at hy
        obtain ⟨x', hx', rfl⟩ := hy
        exact ⟨x', hx', rfl, hb1 k hk.1 hk.2, hs1 k hk.1 hk.2, hx1 k hk.1 hk.2⟩
    · rw [hlen] at hk'; omega
  · obtain ⟨j, y1, rfl, hy1, rfl⟩ := new hy hk
    have hj : j < Ep.n := by rw [hpk.n]; exact (List.getElem?_eq_some_iff.1 hy1).1
    exact ⟨renIt_ok hR hj (hxe j) (hpk.ok j y1 hy1), fun b hb => ⟨it, _, fun h => h.2 rfl, hx, hpk.own j y1 b hy1 (own2 hy1 hb)⟩⟩
  · obtain ⟨a, x1, rfl, hx1', rfl⟩ := new hjx hj
    obtain ⟨c, y1, rfl, hy1, rfl⟩ := new hky hk
    rw [hpk.sep a c x1 y1 b hx1' hy1 (own2 hx1' hb) (own2 hy1 hb')]

/-! ### nil slices in cells -/
def putH : List It → Nat → It → (List It → Prop) → Prop
  | [], _, x, k => k [x]
  | _ :: l, 0, x, k => k (x :: l)
  | a :: l, n + 1, x, k => putH l n x fun l => k (a :: l)
theorem putH_eq : ∀ (l : List It) (n : Nat) (x : It) (k : List It → Prop), putH l n x k = k (if n < l.length then l.set n x else l ++ [x])
  | [], n, x, k => by simp [putH]
  | a :: l, 0, x, k => by simp [putH]
  | a :: l, n + 1, x, k => by
    simp only [putH, putH_eq l n, List.length_cons, Nat.add_lt_add_iff_right, List.set_cons_succ]
    split <;> rfl
/-- Nothing stands there, or it is the next place. -/
def deadB : List It → Nat → Bool
  | [], 0 => true
  | [], _ => false
  | .dead :: _, 0 => true
  | _ :: _, 0 => false
  | _ :: l, n + 1 => deadB l n
theorem deadB_spec : ∀ {l : List It} {n : Nat}, deadB l n = true → l[n]? = some .dead ∨ n = l.length
  | [], 0, _ => .inr rfl
  | [], n + 1, h => by simp [deadB] at h
  | a :: l, 0, h => by
    cases a <;> simp [deadB] at h ⊢
  | a :: l, n + 1, h => by
    have : deadB l n = true := by cases a <;> simpa [deadB] using h
    rcases deadB_spec this with h1 | h1
    · exact .inl (by simpa using h1)
    · exact .inr (by simp [h1])
def nilRow (pr : Bool) (e z : Nat) : It := match pr with | true => .prow e z [] none | false => .row e z []
theorem killC_gst {E E2 : Env} {j : Nat} (hn : E.n ≤ E2.n) (hb : ∀ k, k < E.n → E2.blk k = E.blk k) (hs : ∀ k, k < E.n → k ≠ j → E2.sl k = E.sl k) (hbs : E2.bs = E.bs) : Gst E E2 (killC j) := by
  intro x v h
  let E1 : Env := { E with sl := E2.sl }
  by_cases hE : True
  · have st : ∀ {x : XC} {v : Value}, St x → RelC E x v → RelC E2 x v := fun h hr => RelC.stable (E := E) (by rw [hbs]; exact fun _ h => ⟨h, rfl⟩) _ _ h hr
    have fix : ∀ (x : XC) (v : Value), isFix x = true → RelC E x v → RelC E2 x v := fun x v hf h => by
      cases x with
      | ow => cases hf
      | q => cases hf
      | sw => cases hf
      | fn => cases hf
      | p k o => exact ⟨Nat.lt_of_lt_of_le h.1 hn, by rw [hb k h.1]; exact h.2⟩
      | sp k a b o => exact ⟨Nat.lt_of_lt_of_le h.1 hn, by rw [hb k h.1]; exact h.2⟩
      | mp k => exact ⟨Nat.lt_of_lt_of_le h.1 hn, by rw [hb k h.1]; exact h.2⟩
      | un => exact h
      | il => exact h
      | i => exact h
      | bt => exact h
      | bf => exact h
      | b => exact h
      | v => exact h
      | ep => exact st (show St (.ep _ _) from trivial) h
      | rs => exact st (show St (.rs _ _ _) from trivial) h
      | ts => exact st (show St (.ts _ _ _) from trivial) h
    cases x with
    | ow k =>
      simp only [killC]
      split
      · exact h.one
      · rename_i e; exact ⟨Nat.lt_of_lt_of_le h.1 hn, by rw [hs k h.1 (beq_ne e)]; exact h.2⟩
    | q k a b c =>
      simp only [killC]
      split
      · exact h.one
      · rename_i e; exact ⟨Nat.lt_of_lt_of_le h.1 hn, by rw [hs k h.1 (beq_ne e)]; exact h.2⟩
    | sw k a b c =>
      simp only [killC]
      split
      · exact h.one
      · rename_i e; exact ⟨Nat.lt_of_lt_of_le h.1 hn, by rw [hs k h.1 (beq_ne e)]; exact h.2⟩
    | fn f n caps =>
      simp only [killC]
      split
      · rename_i ha
        obtain ⟨vs, rfl, hm, hc⟩ := h
        refine ⟨vs, rfl, hm, fun j hj => ?_⟩
        obtain ⟨u, hu, hr⟩ := hc j hj
        exact ⟨u, hu, fix _ _ (allFix_spec n caps ha j hj) hr⟩
      · exact h.one
    | un => exact fix _ _ rfl h
    | il => exact fix _ _ rfl h
    | i => exact fix _ _ rfl h
    | bt => exact fix _ _ rfl h
    | bf => exact fix _ _ rfl h
    | b => exact fix _ _ rfl h
    | p => exact fix _ _ rfl h
    | ep => exact fix _ _ rfl h
    | rs => exact fix _ _ rfl h
    | ts => exact fix _ _ rfl h
    | sp => exact fix _ _ rfl h
    | mp => exact fix _ _ rfl h
    | v => exact fix _ _ rfl h
  · exact absurd trivial hE

theorem nil_sound {h : List It} {it off j e z : Nat} {pr : Bool} {ty : TypeId} {cs : List XC} (hx : h[it]? = some (.cells ty cs)) (hc : cs[off]? = some (.v (.slice none 0 0))) (hd : deadB h j = true) :
    GhS h (killC j) (if j < (h.set it (.cells ty ((cs.map (killC j)).set off (.ow j)))).length then ((h.map (gIt (killC j))).set it (.cells ty ((cs.map (killC j)).set off (.ow j)))).set j (nilRow pr e z) else (h.map (gIt (killC j))).set it (.cells ty ((cs.map (killC j)).set off (.ow j))) ++ [nilRow pr e z]) := by
  intro w0 F E w hp
  have hn := hp.n
  have hit : it < h.length := (List.getElem?_eq_some_iff.1 hx).1
  have hjd := deadB_spec hd
  have hji : j ≠ it := fun e => by
    subst e
    rcases hjd with h1 | h1
    · rw [hx] at h1; cases h1
    · omega
  let v0 : Value := .slice none 0 0
  let m := max E.n (j + 1)
  let E2 : Env := { E with n := m, sl := fun k => if k = j then v0 else E.sl k, ext := fun k => if k = j then (fun _ => False) else E.ext k }
  have hs1 : ∀ k, k ≠ j → E2.sl k = E.sl k := fun k hk => by simp [E2, hk]
  have hx1 : ∀ k, k ≠ j → E2.ext k = E.ext k := fun k hk => by simp [E2, hk]
  have hsj : E2.sl j = v0 := by simp [E2]
  have hxj : E2.ext j = fun _ => False := by simp [E2]
  have hg : Gst E E2 (killC j) := killC_gst (Nat.le_max_left _ _) (fun _ _ => rfl) (fun k _ hk => hs1 k hk) rfl
  have hlenH : ∀ {L : List It}, L.length = h.length → (if j < h.length then L.set j (nilRow pr e z) else L ++ [nilRow pr e z]).length = m := fun {L} hL => by
    have : m = max h.length (j + 1) := by show max E.n (j + 1) = _; rw [hn]
    rw [this]
    split
    · rw [List.length_set, hL]; omega
    · rcases hjd with h1 | h1
      · have := (List.getElem?_eq_some_iff.1 h1).1; omega
      · rw [List.length_append, hL]; simp; omega
  have getH : ∀ {L : List It} {k : Nat} {y : It}, L.length = h.length → (if j < h.length then L.set j (nilRow pr e z) else L ++ [nilRow pr e z])[k]? = some y → (k = j ∧ y = nilRow pr e z) ∨ (k ≠ j ∧ L[k]? = some y) := fun {L k y} hL hy => by
    split at hy
    · rcases at_set hy with ⟨h1, h2, _⟩ | h1
      · exact .inl ⟨h1, h2⟩
      · exact .inr h1
    · rename_i hjl
      have hjl : j = h.length := by
        rcases hjd with h1 | h1
        · have := (List.getElem?_eq_some_iff.1 h1).1; omega
        · exact h1
      rcases at_append hy with ⟨h1, h2⟩ | ⟨h1, h2⟩
      · exact .inr ⟨by omega, h2⟩
      · have h3 : k - L.length < 1 := by simpa using (List.getElem?_eq_some_iff.1 h2).1
        have h4 : k = j := by omega
        subst h4
        rw [show k - L.length = 0 by omega] at h2
        simp at h2
        exact .inl ⟨rfl, h2.symm⟩
  have hnilOk : ItOk E2 w j (nilRow pr e z) ∧ ∀ b, ¬ Ow E2 j (nilRow pr e z) b := by
    cases pr with
    | false => exact ⟨⟨[], by rw [hsj]; exact World.ownsRow_nil w 0 e z, trivial, by simp, by simp⟩, fun b hb => by simp [nilRow, Ow, hsj, v0, Value.ownBlock] at hb⟩
    | true =>
      refine ⟨⟨[], fun _ _ => False, by rw [hsj]; exact World.ownsRow_nil w 0 e z, fun i a ha => (by simp at ha), fun i cs e => (by cases e), fun _ _ _ h => h.elim, fun _ _ h => h.elim, fun b hb => ?_⟩, fun b hb => ?_⟩
      · rw [hsj] at hb; simp [v0, Value.ownBlock] at hb
      · have hb : E2.ext j b := hb
        rw [hxj] at hb; exact hb
  obtain ⟨vs, hvs, hrel⟩ := hp.ok it _ hx
  rw [List.length_set]
  refine ⟨E2, hp.remix (P := fun k => k ≠ j ∧ k ≠ it) rfl (by rw [hlenH (by simp)]) hg (fun k y hy hk => ?_) (fun k y hy hk => ?_) (fun a k x y b hjx hky hj hk hb hb' => ?_), hg⟩
  · rcases getH (by simp) hy with ⟨h1, _⟩ | ⟨_, hy⟩
    · exact absurd h1 hk.1
    · rcases at_set hy with ⟨h1, _⟩ | ⟨_, hy⟩
      · exact absurd h1 hk.2
      · rw [List.getElem?_map, Option.map_eq_some_iff] at hy
        obtain ⟨x, hx', rfl⟩ := hy
        exact ⟨x, hx', rfl, rfl, hs1 k hk.1, hx1 k hk.1⟩
  · rcases getH (by simp) hy with ⟨rfl, rfl⟩ | ⟨hkj, hy⟩
    · exact ⟨hnilOk.1, fun b hb => (hnilOk.2 b hb).elim⟩
    · rcases at_set hy with ⟨rfl, rfl, _⟩ | ⟨h1, _⟩
      · refine ⟨⟨vs, hvs, ?_⟩, fun b hb => ⟨k, _, fun h => h.2 rfl, hx, hb⟩⟩
        have hl := hg.l hrel
        refine RelL.mk (by rw [List.length_set, hl.len]) fun i x v hx' hv => ?_
        by_cases e : off = i
        · subst e
          rw [List.getElem?_set_self (by rw [List.length_map]; exact (List.getElem?_eq_some_iff.1 hc).1)] at hx'
          cases hx'
          obtain ⟨u, hu, hru⟩ := hrel.get _ hc
          rw [hv] at hu; cases hu
          have hv0 : v = .slice none 0 0 := hru.1
          subst hv0
          exact ⟨by show j < m; exact Nat.lt_of_lt_of_le (Nat.lt_succ_self j) (Nat.le_max_right _ _), hsj.symm, rfl⟩
        · rw [List.getElem?_set_ne e] at hx'
          obtain ⟨u, hu, hru⟩ := hl.get _ hx'
          rw [hv] at hu; cases hu
          exact hru
      · exact absurd ⟨hkj, h1⟩ hk
  · rcases getH (by simp) hjx with ⟨rfl, rfl⟩ | ⟨h1, hjx⟩
    · exact (hnilOk.2 b hb).elim
    · rcases getH (by simp) hky with ⟨rfl, rfl⟩ | ⟨h2, hky⟩
      · exact (hnilOk.2 b hb').elim
      · have e1 : a = it := Classical.byContradiction fun e => hj ⟨h1, e⟩
        have e2 : k = it := Classical.byContradiction fun e => hk ⟨h2, e⟩
        rw [e1, e2]
end Go.Eng

/- The engine, part Ge: such steps by name; contracts of functions that turn what the caller owns. Nothing of any program is proved here. -/
namespace Go.Eng
open Go Go.RowKit
set_option linter.unusedSimpArgs false
set_option linter.unusedVariables false

inductive Gh where
  /-- A nil slice in a cell is an own (empty) row from here on, at place j. -/
  | nil (it off j e z : Nat) (pr : Bool)
  /-- Element i of a row of packs is opened. -/
  | open_ (it i : Nat) (xs : List XC) (hs : List It)
  /-- The element that lies open is shut: its items stand at the places js. -/
  | close (it : Nat) (js : List Nat) (xs : List XC) (hs : List It)
  /-- A block, and the items at js that lie behind it, are one pack. -/
  | pack (it : Nat) (js : List Nat) (hs : List It)
  | unpack (it : Nat) (x : XC) (y0 : It) (tl : List It)
  /-- A row is laid aside for good. -/
  | frz (it : Nat)
  /-- An item says less. -/
  | le (it : Nat) (y : It)
  | drop (it : Nat)

def ghX (gh : Gh) (h : List It) (K : (XC → XC) → List It → Prop) : Prop :=
  match gh with
  | .nil it off j e z pr => (match itemAt h it with
    | .cells ty cs => (match nthC cs off with
      | .v (.slice none 0 0) => when (Nat.blt off cs.length && deadB h j) (gHK (killC j) h fun h1 => gLK (killC j) cs fun cs1 => forceL (cs1.set off (.ow j)) fun cs2 => setH h1 it (.cells ty cs2) fun h2 => putH h2 j (nilRow pr e z) fun h3 => K (killC j) h3)
      | _ => False)
    | _ => False)
  | .open_ it i xs hs => (match itemAt h it with
    | .prow e z as none => as[i]? = some (PackL xs hs) ∧ lenK h fun n => renLK (fun j => n + j) xs fun xs' => setH h it (.prow e z as (some (i, xs'))) fun h1 => renHK (fun j => n + j) hs fun hs' => appH h1 hs' fun h2 => K (fun x => x) h2
    | _ => False)
  | .close it js xs hs => (match itemAt h it with
    | .prow e z as (some (i, cs)) => when (nodupB js && !memJ it js && wfL hs.length xs && wfH hs.length hs) (renLK (nthN js) xs fun xs' => entL cs xs' ∧ renHK (nthN js) hs fun hs' => preAt h js hs' ∧
        setH h it (.prow e z (as.set i (PackL xs hs)) none) fun h1 => killAtK js h1 fun h2 => K (fun x => x) h2)
    | _ => False)
  | .pack it js hs => (match itemAt h it with
    | .dead => False
    | _ => when (nodupB (it :: js) && wfH hs.length hs && Nat.blt 0 hs.length) (renHK (nthN (it :: js)) hs fun hs' => preAt h (it :: js) hs' ∧ gHK (packG it) h fun h1 => setH h1 it (.abs (Pk (.p 0 0) hs)) fun h2 => killAtK js h2 fun h3 => K (packG it) h3))
  | .unpack it x y0 tl => (match itemAt h it with
    | .abs A => A = Pk x (y0 :: tl) ∧ lenK h fun n => renCK (sigU it n) x fun r => gHK (unpackG it r) h fun h1 => renItK (sigU it n) y0 fun y => setH h1 it y fun h2 => renHK (sigU it n) tl fun tl' => appH h2 tl' fun h3 => K (unpackG it r) h3
    | _ => False)
  | .frz it => (match itemAt h it with
    | .row _ z xs => frzH it (rsOf xs z) h fun h1 => setH h1 it .dead fun h2 => K (frzC it (rsOf xs z)) h2
    | .prow _ z as none => frzH it (rsP as z) h fun h1 => setH h1 it .dead fun h2 => K (frzC it (rsP as z)) h2
    | _ => False)
  | .le it y => ItLe (itemAt h it) y ∧ (match itemAt h it with | .dead => False | _ => True) ∧ setH h it y fun h1 => K (fun x => x) h1
  | .drop it => setH h it .dead fun h1 => K (fun x => x) h1

theorem frzC_gst {w0 : Org} {F : Nat → Prop} {E : Env} {h : List It} {w : World} (hp : Heap w0 F E h w) {it : Nat} {x : It} {r : XC} (hx : h[it]? = some x) (hrs : RelC (E.more w (Ow E it x)) r (E.sl it)) : ∃ E2, Heap w0 F E2 ((h.map (frzIt it r)).set it .dead) w ∧ Gst E E2 (frzC it r) := by
  obtain ⟨hle, hp'⟩ := hp.freezeTo hx hrs
  exact ⟨_, hp', fun x v hr => frzC_rel hle hrs hr⟩

theorem le_sound {h : List It} {it : Nat} {x y : It} (hx : h[it]? = some x) (hle : ItLe x y) : GhS h (fun x => x) (h.set it y) := by
  intro w0 F E w hp
  have hit : it < h.length := (List.getElem?_eq_some_iff.1 hx).1
  have hg : Gst E E (fun x => x) := fun _ _ h => h
  refine ⟨E, hp.remix rfl (by simp [hp.n]) hg (fun k => k ≠ it) (fun k z hz hk => ?_) (fun k z hz hk => ?_) (fun j k a b c _ _ hj hk _ _ => ?_), hg⟩
  · rcases at_set hz with ⟨h1, _⟩ | ⟨_, hz⟩
    · exact absurd h1 hk
    · exact ⟨z, hz, (gIt_id z).symm, rfl, rfl, rfl⟩
  · rcases at_set hz with ⟨h1, rfl, _⟩ | ⟨h1, _⟩
    · subst h1; exact ⟨hle.ok' (hp.ok k x hx), fun b hb => ⟨k, x, fun h => h rfl, hx, hle.ow' hb⟩⟩
    · exact absurd h1 hk
  · have e1 : j = it := Classical.byContradiction fun e => hj e
    have e2 : k = it := Classical.byContradiction fun e => hk e
    rw [e1, e2]

theorem ghX_sound {gh : Gh} {h : List It} {K : (XC → XC) → List It → Prop} (hh : ghX gh h K) : ∃ g h2, GhS h g h2 ∧ K g h2 := by
  cases gh with
  | nil it off j e z pr =>
    simp only [ghX] at hh
    split at hh
    case h_2 => exact hh.elim
    rename_i ty cs hit
    split at hh
    case h_2 => exact hh.elim
    rename_i hc
    obtain ⟨hb, hh⟩ := when_iff hh
    rw [gHK_eq, gLK_eq, forceL_eq, setH_eq, putH_eq] at hh
    simp only [Bool.and_eq_true] at hb
    have hoff : off < cs.length := blt_lt hb.1
    have hc' : cs[off]? = some (.v (.slice none 0 0)) := by rw [nthC_getD, List.getElem?_eq_getElem hoff] at hc; rw [List.getElem?_eq_getElem hoff]; simpa using hc
    have := nil_sound (pr := pr) (e := e) (z := z) (itemAt_eq _ _ hit (by simp)) hc' hb.2
    rw [List.length_set] at this
    simp only [List.length_set, List.length_map] at hh
    exact ⟨_, _, this, hh⟩
  | open_ it i xs hs =>
    simp only [ghX] at hh
    split at hh
    case h_2 => exact hh.elim
    rename_i e z as hit
    obtain ⟨ha, hh⟩ := hh
    rw [lenK_eq, renLK_eq, setH_eq, renHK_eq, appH_eq] at hh
    exact ⟨_, _, open_sound (itemAt_eq _ _ hit (by simp)) ha, hh⟩
  | close it js xs hs =>
    simp only [ghX] at hh
    split at hh
    case h_2 => exact hh.elim
    rename_i e z as i cs hit
    obtain ⟨hb, hh⟩ := when_iff hh
    simp only [Bool.and_eq_true, Bool.not_eq_true'] at hb
    rw [renLK_eq] at hh
    obtain ⟨h1, hh⟩ := hh
    rw [renHK_eq] at hh
    obtain ⟨h2, hh⟩ := hh
    rw [setH_eq, killAtK_eq] at hh
    exact ⟨_, _, close_sound (itemAt_eq _ _ hit (by simp)) (nodupB_iff hb.1.1.1) (fun hm => by have h3 := hb.1.1.2; rw [memJ_iff.2 hm] at h3; cases h3) h1 h2 hb.1.2 hb.2, hh⟩
  | pack it js hs =>
    simp only [ghX] at hh
    split at hh
    case h_1 => exact hh.elim
    rename_i hnd
    obtain ⟨hb, hh⟩ := when_iff hh
    simp only [Bool.and_eq_true] at hb
    rw [renHK_eq] at hh
    obtain ⟨h2, hh⟩ := hh
    rw [gHK_eq, setH_eq, killAtK_eq] at hh
    exact ⟨_, _, pack_sound (itemAt_eq _ _ rfl (fun e => hnd e)) (nodupB_iff hb.1.1) h2 hb.1.2 (blt_lt hb.2), hh⟩
  | unpack it x y0 tl =>
    simp only [ghX] at hh
    split at hh
    case h_2 => exact hh.elim
    rename_i A hit
    obtain ⟨rfl, hh⟩ := hh
    rw [lenK_eq, renCK_eq, gHK_eq, renItK_eq, setH_eq, renHK_eq, appH_eq] at hh
    exact ⟨_, _, unpack_sound (itemAt_eq _ _ hit (by simp)), hh⟩
  | frz it =>
    simp only [ghX] at hh
    split at hh
    · rename_i e z xs hit
      rw [frzH_eq, setH_eq] at hh
      have hx := itemAt_eq _ _ hit (by simp)
      exact ⟨_, _, fun w0 F E w hp => frzC_gst hp hx (hp.rs_of hx (fun b hb => hb)), hh⟩
    · rename_i e z as hit
      rw [frzH_eq, setH_eq] at hh
      have hx := itemAt_eq _ _ hit (by simp)
      exact ⟨_, _, fun w0 F E w hp => frzC_gst hp hx (by obtain ⟨ys, Ss, hpr⟩ := hp.ok it _ hx; exact hpr.rs_of hp.bs (fun b hb => hb)), hh⟩
    · exact hh.elim
  | le it y =>
    simp only [ghX] at hh
    obtain ⟨h1, h2, hh⟩ := hh
    rw [setH_eq] at hh
    have hnd : itemAt h it ≠ .dead := fun e => by rw [e] at h2; exact h2
    exact ⟨_, _, le_sound (itemAt_eq _ _ rfl hnd) h1, hh⟩
  | drop it =>
    simp only [ghX] at hh
    rw [setH_eq] at hh
    exact ⟨_, _, fun w0 F E w hp => ⟨E, hp.drop it, fun _ _ h => h⟩, hh⟩

/-! ### wherever the walk stops -/
section
variable {C : Cx} {ts : List XV} {h : List It}
theorem cfg_ghs {w0 : Org} {F : Nat → Prop} {g : XC → XC} {h2 : List It} {a : Act} {w : World} (hg : GhS h g h2) (hc : Cfg w0 F ts h a w) : Cfg w0 F (ts.map (gV g)) h2 a w := by
  obtain ⟨w1, F1, hs, hd, E, hr, hp⟩ := hc
  obtain ⟨E2, hp2, hgst⟩ := hg w1 F1 E w hp
  exact ⟨w1, F1, hs, hd, E2, hgst.ts hr, hp2⟩
theorem callx_gh (gh : Gh) {f : FuncId} {args : List XV} {k : KE} (hh : ghX gh h fun g h2 => gTsK g args fun args => gTsK g ts fun ts => CallX C f args ts h2 k) : CallX C f args ts h k := by
  obtain ⟨g, h2, hg, hh⟩ := ghX_sound hh
  rw [gTsK_eq, gTsK_eq] at hh
  unfold CallX at hh ⊢
  refine ⟨hh.1, fun w0 F E w vs us hr hargs hp => ?_⟩
  obtain ⟨E2, hp2, hgst⟩ := hg w0 F E w hp
  exact hh.2 w0 F E2 w vs us (hgst.ts hr) (hgst.ts hargs) hp2
theorem yieldx_gh (gh : Gh) {l : Nat} {args : List XV} {k : KE} (hh : ghX gh h fun g h2 => gTsK g args fun args => gTsK g ts fun ts => YieldX C l args ts h2 k) : YieldX C l args ts h k := by
  obtain ⟨g, h2, hg, hh⟩ := ghX_sound hh
  rw [gTsK_eq, gTsK_eq] at hh
  unfold YieldX at hh ⊢
  intro w0 F E w vs us hr hargs hp
  obtain ⟨E2, hp2, hgst⟩ := hg w0 F E w hp
  exact hh w0 F E2 w vs us (hgst.ts hr) (hgst.ts hargs) hp2
theorem opx_gh (gh : Gh) {o : Oper} {k : KE} (hh : ghX gh h fun g h2 => gTsK g ts fun ts => OpX C o ts h2 k) : OpX C o ts h k := by
  obtain ⟨g, h2, hg, hh⟩ := ghX_sound hh
  rw [gTsK_eq] at hh
  unfold OpX at hh ⊢
  refine ⟨hh.1, fun w0 F E w a hr hp => ?_⟩
  obtain ⟨E2, hp2, hgst⟩ := hg w0 F E w hp
  exact hh.2 w0 F E2 w a (hgst.ts hr) hp2
theorem loopx_gh (gh : Gh) {b : Code} {Q : KQ} (hh : ghX gh h fun g h2 => gTsK g ts fun ts => LoopX C b Q ts h2) : LoopX C b Q ts h := by
  obtain ⟨g, h2, hg, hh⟩ := ghX_sound hh
  rw [gTsK_eq] at hh
  unfold LoopX at hh ⊢
  exact fun w0 F Q' a w hQ hc => hh w0 F Q' a w hQ (cfg_ghs hg hc)
theorem scopex_gh (gh : Gh) {b : Code} {Q : KQ} (hh : ghX gh h fun g h2 => gTsK g ts fun ts => ScopeX C b Q ts h2) : ScopeX C b Q ts h := by
  obtain ⟨g, h2, hg, hh⟩ := ghX_sound hh
  rw [gTsK_eq] at hh
  unfold ScopeX at hh ⊢
  exact fun w0 F Q' a w hQ hc => hh w0 F Q' a w hQ (cfg_ghs hg hc)
theorem seqx_gh (gh : Gh) {x y : Code} {Q : KQ} (hh : ghX gh h fun g h2 => gTsK g ts fun ts => SeqX C x y Q ts h2) : SeqX C x y Q ts h := by
  obtain ⟨g, h2, hg, hh⟩ := ghX_sound hh
  rw [gTsK_eq] at hh
  unfold SeqX at hh ⊢
  exact fun w0 F Q' a w hQ hc => hh w0 F Q' a w hQ (cfg_ghs hg hc)
theorem regx_gh (gh : Gh) {id : Nat} {ops : List Oper} {Q : KQ} (hh : ghX gh h fun g h2 => gTsK g ts fun ts => RegX C id ops Q ts h2) : RegX C id ops Q ts h := by
  obtain ⟨g, h2, hg, hh⟩ := ghX_sound hh
  rw [gTsK_eq] at hh
  unfold RegX at hh ⊢
  exact fun w0 F Q' a w hQ hc => hh w0 F Q' a w hQ (cfg_ghs hg hc)
theorem gotox_gh (gh : Gh) {n : Nat} {Q : KQ} (hh : ghX gh h fun g h2 => gTsK g ts fun ts => GotoX C n Q ts h2) : GotoX C n Q ts h := by
  obtain ⟨g, h2, hg, hh⟩ := ghX_sound hh
  rw [gTsK_eq] at hh
  unfold GotoX at hh ⊢
  exact fun w0 F Q' a w hQ hc => hh w0 F Q' a w hQ (cfg_ghs hg hc)
theorem drawx_gh (gh : Gh) {id : Nat} {ops : List Oper} {Q : KS} (hh : ghX gh h fun g h2 => gTsK g ts fun ts => DrawX C id ops Q ts h2) : DrawX C id ops Q ts h := by
  obtain ⟨g, h2, hg, hh⟩ := ghX_sound hh
  rw [gTsK_eq] at hh
  unfold DrawX at hh ⊢
  exact fun w0 F Q' a w hQ hc => hh w0 F Q' a w hQ (cfg_ghs hg hc)
theorem rangex_gh (gh : Gh) {f : Operand} {ps : Array Tmp} {as b : Code} {Q : KQ} (hh : ghX gh h fun g h2 => gTsK g ts fun ts => RangeX C f ps as b Q ts h2) : RangeX C f ps as b Q ts h := by
  obtain ⟨g, h2, hg, hh⟩ := ghX_sound hh
  rw [gTsK_eq] at hh
  unfold RangeX at hh ⊢
  exact fun w0 F Q' a w hQ hc => hh w0 F Q' a w hQ (cfg_ghs hg hc)
end

/-! ### contracts of functions that turn what the caller owns -/
/-- At a function's end: the answer v, over the items hs'; what was told of vs holds. -/
def MT (v : XV) (hs' : List It) (fx : List XC) (vs : List Value) : XV → List It → Prop := fun x h =>
  ∀ w0 F E w u, Heap w0 F E h w → RelV E x u → ∃ E2, Heap w0 F E2 hs' w ∧ RelV E2 v u ∧ RelL E2 fx vs
theorem mt_gh (gh : Gh) {v : XV} {hs' : List It} {fx : List XC} {vs : List Value} {x : XV} {h : List It} (hh : ghX gh h fun g h2 => gVK g x fun x => MT v hs' fx vs x h2) : MT v hs' fx vs x h := by
  obtain ⟨g, h2, hg, hh⟩ := ghX_sound hh
  rw [gVK_eq] at hh
  intro w0 F E w u hp hr
  obtain ⟨E2, hp2, hgst⟩ := hg w0 F E w hp
  exact hh w0 F E2 w _ hp2 (hgst.v hr)
/-- Cells as values of slots. -/
def cLs (l : List XC) : List XV := l.map .c
theorem cLs_rel {E : Env} : ∀ {l : List XC} {vs : List Value}, RelTs E (cLs l) vs ↔ RelL E l vs
  | [], [] => Iff.rfl
  | _ :: l, _ :: vs => and_congr Iff.rfl (cLs_rel (l := l) (vs := vs))
  | [], _ :: _ => Iff.rfl
  | _ :: _, [] => Iff.rfl

/-- The items at these places, alone. -/
theorem Heap.sub {w0 : Org} {F : Nat → Prop} {E : Env} {h : List It} {w : World} (hp : Heap w0 F E h w) {js : List Nat} (hnd : js.Nodup) {hs : List It} (hpre : preAt h js (hs.map (renIt (nthN js)))) (hwh : wfH hs.length hs = true) :
    Heap w0 F (E.sub js hs.length) hs w := by
  obtain ⟨hpk, hown⟩ := PkOk.shut hp hnd (xs := []) (vs := []) hpre rfl hwh trivial
  exact hp.re rfl rfl hpk.ok (fun k y b hy hb => by
    obtain ⟨m, y', hy', hb'⟩ := hpk.own k y b hy hb
    obtain ⟨x, h1, h2, _⟩ := hown m y' b hy' hb'
    exact ⟨_, x, h1, h2⟩) hpk.sep

/-- The end: where the items stand, and where it stands what is told of vs. -/
theorem mt_done {v : XV} {hs' : List It} {fx : List XC} {vs : List Value} {x : XV} {h : List It} (js : List Nat) (jh : Nat) {ys : List XV} (hnd : nodupB js = true) (hwh : wfH hs'.length hs' = true) (hwv : wfV hs'.length v = true) (hwf : wfL hs'.length fx = true)
    (hit : itemAt h jh = .held vs ys) (hv : entV x (renV (nthN js) v)) (hf : entVs ys (cLs (fx.map (renC (nthN js))))) (hpre : preAt h js (hs'.map (renIt (nthN js)))) : MT v hs' fx vs x h := by
  intro w0 F E w u hp hr
  have hU := E.sub_u js hs'.length
  have hheld : RelTs E ys vs := hp.ok _ _ (itemAt_eq _ _ hit (by simp))
  exact ⟨E.sub js hs'.length, hp.sub (nodupB_iff hnd) hpre hwh, unrenV hU hwv (entV_rel hv hr), unrenL hU hwf (cLs_rel.1 (entVs_rel hf hheld))⟩
/-- .. with a tuple. -/
def wfWs (n : Nat) : List XW → Bool
  | [] => true
  | .c x :: l => (match wfC n x with | true => wfWs n l | false => false)
  | .a x :: l => (match wfL n x with | true => wfWs n l | false => false)
theorem unrenWs {σ : Nat → Nat} {E0 E : Env} (hE : EnvU σ E0 E) : ∀ {l : List XW} {vs : List Value}, wfWs E0.n l = true → RelWs E (l.map fun | .c x => .c (renC σ x) | .a l => .a (l.map (renC σ))) vs → RelWs E0 l vs
  | [], [], _, _ => trivial
  | .c x :: l, v :: vs, hw, h => by
    unfold wfWs at hw
    split at hw
    · rename_i h1; exact ⟨unrenC hE h1 h.1, unrenWs hE hw h.2⟩
    · cases hw
  | .a x :: l, v :: vs, hw, h => by
    unfold wfWs at hw
    split at hw
    · rename_i h1; exact ⟨by obtain ⟨us, e, hl⟩ := h.1; exact ⟨us, e, unrenL hE h1 hl⟩, unrenWs hE hw h.2⟩
    · cases hw
  | [], _ :: _, _, h => h.elim
  | _ :: _, [], _, h => h.elim
theorem mt_done_t {l : List XW} {hs' : List It} {fx : List XC} {vs : List Value} {x : XV} {h : List It} (js : List Nat) (jh : Nat) {ys : List XV} (hnd : nodupB js = true) (hwh : wfH hs'.length hs' = true) (hwv : wfWs hs'.length l = true) (hne : l ≠ []) (hwf : wfL hs'.length fx = true)
    (hit : itemAt h jh = .held vs ys) (hv : entV x (renV (nthN js) (.t l))) (hf : entVs ys (cLs (fx.map (renC (nthN js))))) (hpre : preAt h js (hs'.map (renIt (nthN js)))) : MT (.t l) hs' fx vs x h := by
  intro w0 F E w u hp hr
  have hU := E.sub_u js hs'.length
  have hheld : RelTs E ys vs := hp.ok _ _ (itemAt_eq _ _ hit (by simp))
  refine ⟨E.sub js hs'.length, hp.sub (nodupB_iff hnd) hpre hwh, ?_, unrenL hU hwf (cLs_rel.1 (entVs_rel hf hheld))⟩
  have h1 := entV_rel hv hr
  cases l with
  | nil => exact absurd rfl hne
  | cons a l => obtain ⟨us, e, hl⟩ := h1; exact ⟨us, e, unrenWs hU hwv hl⟩

/-- A contract: called with these arguments over these items, which the caller owns, the function comes to the answer v over the items hs'; what is told of fx stays. -/
structure FnM (P : Program) (f : FuncId) (xs : List XV) (hs : List It) (fx : List XC) (v : XV) (hs' : List It) : Prop where
  ok : FnOk P f
  run : ∀ w0 F E w us vs, Heap w0 F E hs w → RelTs E xs us → RelL E fx vs → Calls P f us.toArray w fun e w' => ∃ u E', e = .returned u ∧ Heap w0 F E' hs' w' ∧ RelV E' v u ∧ RelL E' fx vs

/-- .. from its code. -/
theorem FnM.ofJ {P : Program} {T : Tab} (hT : TabOk P T) (js : List Nat) {f : FuncId} {fn : Func} (hf : P.funcs[f]? = some fn) (hb : fn.body.isSome = true) (hn : (fn.name == "runtime.NumGoroutine") = false) {xs : List XV} {hs : List It} {fx : List XC} {v : XV} {hs' : List It}
    (hh : ∀ vs, fnX ⟨P, T, js, none⟩ fn xs (hs ++ [.held vs (cLs fx)]) (MT v hs' fx vs)) : FnM P f xs hs fx v hs' := by
  refine ⟨⟨fn, hf, hn, hb⟩, fun w0 F E w us vs hp hr hfx => ?_⟩
  have hle := Env.push_le E 0 undef
  have hp1 : Heap w0 F (E.push 0 undef) (hs ++ [.held vs (cLs fx)]) w := hp.push (Fr.refl _ _) (show RelTs _ (cLs fx) vs from cLs_rel.2 (hfx.mono hle)) (fun c hc => by simp [Ow] at hc)
  refine (fnX_sound hT hf hb (hh vs) (hr.mono hle) hp1).mono fun e w' ⟨u, x, h', E', he, hR, hx, hp'⟩ => ?_
  obtain ⟨E2, h1, h2, h3⟩ := hR _ _ _ _ _ hp' hx
  exact ⟨u, E2, he, h1, h2, h3⟩
theorem FnM.of {P : Program} {T : Tab} (hT : TabOk P T) {f : FuncId} {fn : Func} (hf : P.funcs[f]? = some fn) (hb : fn.body.isSome = true) (hn : (fn.name == "runtime.NumGoroutine") = false) {xs : List XV} {hs : List It} {fx : List XC} {v : XV} {hs' : List It}
    (hh : ∀ vs, fnX ⟨P, T, [], none⟩ fn xs (hs ++ [.held vs (cLs fx)]) (MT v hs' fx vs)) : FnM P f xs hs fx v hs' := FnM.ofJ hT [] hf hb hn hh
end Go.Eng

/- The engine, part Gf: calls by contracts that turn what the caller owns. Nothing of any program is proved here. -/
namespace Go.Eng
open Go Go.RowKit
set_option linter.unusedSimpArgs false
set_option linter.unusedVariables false

/-- The callee's numbers among the caller's: what was handed over, and new ones. -/
def sigM : List Nat → Nat → Nat → Nat
  | [], n, i => n + i
  | a :: _, _, 0 => a
  | _ :: js, n, i + 1 => sigM js n i
theorem sigM_lt : ∀ {js : List Nat} {n i : Nat}, i < js.length → sigM js n i = nthN js i
  | a :: _, n, 0, _ => rfl
  | a :: js, n, i + 1, h => by simpa [sigM, nthN] using sigM_lt (js := js) (n := n) (i := i) (by simpa using h)
  | [], _, _, h => by simp at h
theorem sigM_ge : ∀ {js : List Nat} {n i : Nat}, js.length ≤ i → sigM js n i = n + (i - js.length)
  | [], n, i, _ => by simp [sigM]
  | a :: js, n, 0, h => by simp at h
  | a :: js, n, i + 1, h => by
    have := sigM_ge (js := js) (n := n) (i := i) (by simpa using h)
    simp only [sigM, this, List.length_cons]; omega
theorem sigM_inj {js : List Nat} {n i j : Nat} (hnd : js.Nodup) (hlt : ∀ k ∈ js, k < n) (h : sigM js n i = sigM js n j) : i = j := by
  by_cases hi : i < js.length <;> by_cases hj : j < js.length
  · rw [sigM_lt hi, sigM_lt hj] at h; exact nthN_inj hnd hi hj h
  · rw [sigM_lt hi, sigM_ge (by omega)] at h
    have := hlt _ (nthN_mem hi); omega
  · rw [sigM_lt hj, sigM_ge (by omega)] at h
    have := hlt _ (nthN_mem hj); omega
  · rw [sigM_ge (by omega), sigM_ge (by omega)] at h; omega

def setAll : List Nat → List It → List It → List It
  | [], ys, h => h ++ ys
  | j :: js, y :: ys, h => setAll js ys (h.set j y)
  | _ :: _, [], h => h
def setAllK : List Nat → List It → List It → (List It → Prop) → Prop
  | [], ys, h, k => appH h ys k
  | j :: js, y :: ys, h, k => setH h j y fun h => setAllK js ys h k
  | _ :: _, [], h, k => k h
theorem setAllK_eq : ∀ (js : List Nat) (ys h : List It) (k : List It → Prop), setAllK js ys h k = k (setAll js ys h)
  | [], ys, h, k => by simp only [setAllK, appH_eq, setAll]
  | j :: js, y :: ys, h, k => by simp only [setAllK, setH_eq, setAll, setAllK_eq js ys]
  | _ :: _, [], h, k => rfl
theorem setAll_len : ∀ {js : List Nat} {ys h : List It}, js.length ≤ ys.length → (setAll js ys h).length = h.length + (ys.length - js.length)
  | [], ys, h, _ => by simp [setAll]
  | j :: js, y :: ys, h, hl => by simp only [setAll, setAll_len (js := js) (ys := ys) (by simpa using hl), List.length_set, List.length_cons]; omega
  | _ :: _, [], h, hl => by simp at hl
theorem setAll_get : ∀ {js : List Nat} {ys h : List It} {k : Nat} {y : It}, js.Nodup → (∀ j ∈ js, j < h.length) → js.length ≤ ys.length → (setAll js ys h)[k]? = some y →
    (∃ m, k = sigM js h.length m ∧ ys[m]? = some y) ∨ (k < h.length ∧ k ∉ js ∧ h[k]? = some y)
  | [], ys, h, k, y, _, _, _, hy => by
    rcases at_append hy with ⟨h1, h2⟩ | ⟨h1, h2⟩
    · exact .inr ⟨h1, by simp, h2⟩
    · exact .inl ⟨k - h.length, by simp [sigM]; omega, h2⟩
  | j :: js, y0 :: ys, h, k, y, hnd, hlt, hl, hy => by
    obtain ⟨hj, hnd⟩ := List.nodup_cons.1 hnd
    rcases setAll_get (js := js) (ys := ys) (h := h.set j y0) hnd (fun i hi => by rw [List.length_set]; exact hlt i (by simp [hi])) (by simpa using hl) hy with ⟨m, h1, h2⟩ | ⟨h1, h2, h3⟩
    · exact .inl ⟨m + 1, by rw [h1, List.length_set]; rfl, by simpa using h2⟩
    · rw [List.length_set] at h1
      rcases at_set h3 with ⟨rfl, rfl, _⟩ | ⟨hne, h3⟩
      · exact .inl ⟨0, rfl, rfl⟩
      · exact .inr ⟨h1, by simp [hne, h2], h3⟩
  | _ :: _, [], _, _, _, _, _, hl, _ => by simp at hl

/-- What a caller knows still of what it handed over: the pointers (P), the values (S) that stay. -/
def keepG1 (js okP okS : List Nat) (c : XC) : XC :=
  match c with
  | .p k o => (match memJ k js, memJ k okP with | true, false => .un | _, _ => .p k o)
  | .sp k o n z => (match memJ k js, memJ k okP with | true, false => .un | _, _ => .sp k o n z)
  | .mp k => (match memJ k js, memJ k okP with | true, false => .un | _, _ => .mp k)
  | .ow k => (match memJ k js, memJ k okS with | true, false => .un | _, _ => .ow k)
  | .q k a b o => (match memJ k js, memJ k okS with | true, false => .un | _, _ => .q k a b o)
  | .sw k a b o => (match memJ k js, memJ k okS with | true, false => .un | _, _ => .sw k a b o)
  | .fn _ _ _ => .un
  | c => c
def keepG (js okP okS : List Nat) (c : XC) : XC :=
  match c with
  | .fn f n caps => .fn f n fun j => keepG1 js okP okS (caps j)
  | c => keepG1 js okP okS c
def fxP : List XC → List Nat
  | [] => []
  | .p m 0 :: l => m :: fxP l
  | _ :: l => fxP l
def fxS : List XC → List Nat
  | [] => []
  | .ow m :: l => m :: fxS l
  | _ :: l => fxS l
theorem fxP_spec : ∀ {fx : List XC} {vs : List Value} {E E' : Env} {m : Nat}, RelL E fx vs → RelL E' fx vs → m ∈ fxP fx → m < E.n ∧ m < E'.n ∧ E'.blk m = E.blk m
  | [], _, _, _, _, _, _, h => by simp [fxP] at h
  | x :: l, [], _, _, _, h1, _, _ => h1.elim
  | x :: l, v :: vs, E, E', m, h1, h2, hm => by
    have ih : m ∈ fxP l → _ := fun h => fxP_spec h1.2 h2.2 h
    cases x with
    | p k o =>
      cases o with
      | zero =>
        simp only [fxP, List.mem_cons] at hm
        rcases hm with rfl | hm
        · have e := h1.1.2.symm.trans h2.1.2
          simp only [Value.pointer.injEq, Option.some.injEq, Addr.mk.injEq, and_true] at e
          exact ⟨h1.1.1, h2.1.1, e.symm⟩
        · exact ih hm
      | succ o => exact ih (by simpa [fxP] using hm)
    | _ => exact ih (by simpa [fxP] using hm)
theorem fxS_spec : ∀ {fx : List XC} {vs : List Value} {E E' : Env} {m : Nat}, RelL E fx vs → RelL E' fx vs → m ∈ fxS fx → m < E.n ∧ m < E'.n ∧ E'.sl m = E.sl m
  | [], _, _, _, _, _, _, h => by simp [fxS] at h
  | x :: l, [], _, _, _, h1, _, _ => h1.elim
  | x :: l, v :: vs, E, E', m, h1, h2, hm => by
    have ih : m ∈ fxS l → _ := fun h => fxS_spec h1.2 h2.2 h
    cases x with
    | ow k =>
      simp only [fxS, List.mem_cons] at hm
      rcases hm with rfl | hm
      · exact ⟨h1.1.1, h2.1.1, h2.1.2.1.symm.trans h1.1.2.1⟩
      · exact ih hm
    | _ => exact ih (by simpa [fxS] using hm)

/-- Of these there is something to tell. -/
def fxB (hs : List It) : List XC → Bool
  | [] => true
  | .ow m :: l => (match itemAt hs m with | .abs _ => fxB hs l | .row _ _ _ => fxB hs l | .prow _ _ _ _ => fxB hs l | _ => false)
  | .p m 0 :: l => (match Nat.blt m hs.length with | true => fxB hs l | false => false)
  | _ => false
theorem row_one {w : World} {e z n : Nat} {v : Value} {ys : List Value} (h : w.ownsRow 0 e z v n ys) : v.oneCell' = true := by
  rcases h.2 with ⟨rfl, _⟩ | ⟨g, cap, cur, rfl, _⟩ <;> rfl
theorem fxB_spec {w0 : Org} {F : Nat → Prop} {E : Env} {hs : List It} {w : World} (hp : Heap w0 F E hs w) : ∀ {fx : List XC}, fxB hs fx = true → ∃ vs, RelL E fx vs
  | [], _ => ⟨[], trivial⟩
  | x :: l, h => by
    unfold fxB at h
    split at h
    · rename_i e; cases e
    · rename_i m l' e
      cases e
      have key : ∀ {y : It}, itemAt hs m = y → y ≠ .dead → fxB hs l = true → (E.sl m).oneCell' = true → ∃ vs, RelL E (.ow m :: l) vs := fun e hnd hl ho => by
        obtain ⟨vs, hvs⟩ := fxB_spec hp hl
        exact ⟨E.sl m :: vs, ⟨hp.blkLt (itemAt_eq _ _ e hnd), rfl, ho⟩, hvs⟩
      split at h
      · rename_i A e; exact key e (by simp) h (A.one (hp.ok _ _ (itemAt_eq _ _ e (by simp))))
      · rename_i e' z xs e
        obtain ⟨ys, ho, _⟩ := hp.ok _ _ (itemAt_eq _ _ e (by simp))
        exact key e (by simp) h (row_one ho)
      · rename_i e' z as o e
        obtain ⟨ys, Ss, hpr⟩ := hp.ok _ _ (itemAt_eq _ _ e (by simp))
        exact key e (by simp) h (row_one hpr.row)
      · cases h
    · rename_i m l' e
      cases e
      split at h
      · rename_i hm
        obtain ⟨vs, hvs⟩ := fxB_spec hp h
        exact ⟨.pointer (some ⟨E.blk m, 0, none⟩) :: vs, ⟨by rw [hp.n]; exact blt_lt hm, rfl⟩, hvs⟩
      · cases h
    · cases h

theorem Heap.origin {w0 : Org} {F : Nat → Prop} {E : Env} {h : List It} {w : World} (hp : Heap w0 F E h w) : Heap ⟨w, E.bs⟩ (fun b => ∃ k x, h[k]? = some x ∧ Ow E k x b) E h w :=
  ⟨hp.bs, BsLe.refl _, fun _ h => .inl h, hp.n, hp.ok, fun k x b hx hb => ⟨(hp.own k x b hx hb).1, (hp.own k x b hx hb).2.1, .inr ⟨k, x, hx, hb⟩⟩, hp.sep, Fr.refl _ _⟩

theorem keepG_gst {E E2 : Env} {js okP okS : List Nat} (hn : E.n ≤ E2.n) (hb : ∀ k, k < E.n → (k ∉ js ∨ k ∈ okP) → E2.blk k = E.blk k) (hs : ∀ k, k < E.n → (k ∉ js ∨ k ∈ okS) → E2.sl k = E.sl k) (hbs : ∀ b, E.bs.B b → E2.bs.B b ∧ E2.bs.wb.heap[b]? = E.bs.wb.heap[b]?) : Gst E E2 (keepG js okP okS) := by
  have st : ∀ {x : XC} {v : Value}, St x → RelC E x v → RelC E2 x v := fun h hr => RelC.stable hbs _ _ h hr
  have kp : ∀ {k : Nat} {l : List Nat}, ¬ (memJ k js = true ∧ memJ k l = false) → k ∉ js ∨ k ∈ l := fun {k l} h => by
    by_cases h1 : k ∈ js
    · refine .inr (memJ_iff.1 ?_)
      cases h2 : memJ k l with
      | true => rfl
      | false => exact absurd ⟨memJ_iff.2 h1, h2⟩ h
    · exact .inl h1
  have h1 : ∀ x v, RelC E x v → RelC E2 (keepG1 js okP okS x) v := fun x v h => by
    cases x with
    | p k o =>
      simp only [keepG1]
      split
      · exact h.one
      · rename_i hno; exact ⟨Nat.lt_of_lt_of_le h.1 hn, by rw [hb k h.1 (kp fun hh => hno hh.1 hh.2)]; exact h.2⟩
    | sp k o n z =>
      simp only [keepG1]
      split
      · exact h.one
      · rename_i hno; exact ⟨Nat.lt_of_lt_of_le h.1 hn, by rw [hb k h.1 (kp fun hh => hno hh.1 hh.2)]; exact h.2⟩
    | mp k =>
      simp only [keepG1]
      split
      · exact h.one
      · rename_i hno; exact ⟨Nat.lt_of_lt_of_le h.1 hn, by rw [hb k h.1 (kp fun hh => hno hh.1 hh.2)]; exact h.2⟩
    | ow k =>
      simp only [keepG1]
      split
      · exact h.one
      · rename_i hno; exact ⟨Nat.lt_of_lt_of_le h.1 hn, by rw [hs k h.1 (kp fun hh => hno hh.1 hh.2)]; exact h.2⟩
    | q k a b o =>
      simp only [keepG1]
      split
      · exact h.one
      · rename_i hno; exact ⟨Nat.lt_of_lt_of_le h.1 hn, by rw [hs k h.1 (kp fun hh => hno hh.1 hh.2)]; exact h.2⟩
    | sw k a b o =>
      simp only [keepG1]
      split
      · exact h.one
      · rename_i hno; exact ⟨Nat.lt_of_lt_of_le h.1 hn, by rw [hs k h.1 (kp fun hh => hno hh.1 hh.2)]; exact h.2⟩
    | fn => exact h.one
    | un => exact h
    | il => exact h
    | i => exact h
    | bt => exact h
    | bf => exact h
    | b => exact h
    | v => exact h
    | ep => exact st (show St (.ep _ _) from trivial) h
    | rs => exact st (show St (.rs _ _ _) from trivial) h
    | ts => exact st (show St (.ts _ _ _) from trivial) h
  intro x v h
  unfold keepG
  split
  · exact RelC.fnMap h1 h
  · exact h1 x v h

/-- Memory behind a call that turned what was handed over. -/
theorem Heap.behindM2 {w0 : Org} {F : Nat → Prop} {E E' : Env} {h hs hs' : List It} {w w' : World} {js : List Nat} {fx : List XC} {vs : List Value} (hp : Heap w0 F E h w) (hnd : js.Nodup) (hlt : ∀ k ∈ js, k < h.length) (hpre : preAt h js (hs.map (renIt (nthN js)))) (hwh : wfH hs.length hs = true)
    (hfx : RelL (E.sub js hs.length) fx vs) (hfx' : RelL E' fx vs) (hle : hs.length ≤ hs'.length) (hp' : Heap ⟨w, E.bs⟩ (fun b => ∃ k x, hs[k]? = some x ∧ Ow (E.sub js hs.length) k x b) E' hs' w') :
    ∃ E2, Heap w0 F E2 (setAll js (hs'.map (renIt (sigM js h.length))) (h.map (gIt (keepG js ((fxP fx).map (nthN js)) ((fxS fx).map (nthN js)))))) w' ∧ EnvR (sigM js h.length) E' E2 ∧ Gst E E2 (keepG js ((fxP fx).map (nthN js)) ((fxS fx).map (nthN js))) ∧
      (∀ (k : Nat) (y : It) (b : Nat), (setAll js (hs'.map (renIt (sigM js h.length))) (h.map (gIt (keepG js ((fxP fx).map (nthN js)) ((fxS fx).map (nthN js))))))[k]? = some y → Ow E2 k y b → (∃ (j : Nat) (x : It), (j ∈ js ∨ j = k) ∧ h[j]? = some x ∧ Ow E j x b) ∨ w.heap.size ≤ b) ∧
      ∀ b, (∃ k x, hs[k]? = some x ∧ Ow (E.sub js hs.length) k x b) → ∃ k x, k ∈ js ∧ h[k]? = some x ∧ Ow E k x b := by
  have hlen : js.length = hs.length := by rw [preAt_len hpre, List.length_map]
  have hn' : E'.n = hs'.length := hp'.n
  let n := h.length
  let σ := sigM js n
  let okP := (fxP fx).map (nthN js)
  let okS := (fxS fx).map (nthN js)
  have inj : ∀ {i j : Nat}, σ i = σ j → i = j := fun h => sigM_inj hnd hlt h
  let ix : Nat → Option Nat := fun k => if hk : ∃ m, m < hs'.length ∧ σ m = k then some (Classical.choose hk) else none
  have ix1 : ∀ {m : Nat}, m < hs'.length → ix (σ m) = some m := fun {m} hm => by
    have hk : ∃ m', m' < hs'.length ∧ σ m' = σ m := ⟨m, hm, rfl⟩
    simp only [ix, dif_pos hk]
    exact congrArg some (inj (Classical.choose_spec hk).2)
  have ix0 : ∀ {k : Nat}, k < n → k ∉ js → ix k = none := fun {k} hk hkj => by
    refine dif_neg fun ⟨m, hm, e⟩ => ?_
    by_cases hmj : m < js.length
    · exact hkj (by rw [← e]; show sigM js n m ∈ js; rw [sigM_lt hmj]; exact nthN_mem hmj)
    · have : σ m = n + (m - js.length) := sigM_ge (by omega)
      omega
  let E2 : Env := { bs := E'.bs, n := n + (hs'.length - js.length), blk := fun k => match ix k with | some m => E'.blk m | none => E.blk k, sl := fun k => match ix k with | some m => E'.sl m | none => E.sl k, ext := fun k => match ix k with | some m => E'.ext m | none => E.ext k }
  have hb1 : ∀ {k : Nat}, k < n → k ∉ js → E2.blk k = E.blk k := fun h1 h2 => by simp only [E2, ix0 h1 h2]
  have hs1 : ∀ {k : Nat}, k < n → k ∉ js → E2.sl k = E.sl k := fun h1 h2 => by simp only [E2, ix0 h1 h2]
  have hx1 : ∀ {k : Nat}, k < n → k ∉ js → E2.ext k = E.ext k := fun h1 h2 => by simp only [E2, ix0 h1 h2]
  have hb2 : ∀ {m : Nat}, m < hs'.length → E2.blk (σ m) = E'.blk m := fun h1 => by simp only [E2, ix1 h1]
  have hs2 : ∀ {m : Nat}, m < hs'.length → E2.sl (σ m) = E'.sl m := fun h1 => by simp only [E2, ix1 h1]
  have hx2 : ∀ {m : Nat}, m < hs'.length → E2.ext (σ m) = E'.ext m := fun h1 => by simp only [E2, ix1 h1]
  have hσn : ∀ {m : Nat}, m < hs'.length → σ m < n + (hs'.length - js.length) := fun {m} hm => by
    by_cases hmj : m < js.length
    · have := hlt _ (nthN_mem hmj)
      show sigM js n m < _
      rw [sigM_lt hmj]; omega
    · have : σ m = n + (m - js.length) := sigM_ge (by omega)
      omega
  have hR : EnvR σ E' E2 := ⟨fun i hi => hσn (by omega), fun i hi => hb2 (by omega), fun i hi => hs2 (by omega), fun b hb => ⟨hb, rfl⟩⟩
  have hEn : E.n = n := hp.n
  have hg : Gst E E2 (keepG js okP okS) := by
    refine keepG_gst (by show E.n ≤ n + _; omega) (fun k hk hor => ?_) (fun k hk hor => ?_) hp'.le
    · by_cases hkj : k ∈ js
      · rcases hor with h1 | h1
        · exact absurd hkj h1
        · obtain ⟨m, hm, rfl⟩ := List.mem_map.1 h1
          obtain ⟨g1, g2, g3⟩ := fxP_spec hfx hfx' hm
          have g1 : m < hs.length := g1
          have := hb2 (m := m) (by omega)
          have e : σ m = nthN js m := sigM_lt (by omega)
          rw [e] at this
          rw [this, g3]; rfl
      · exact hb1 (by omega) hkj
    · by_cases hkj : k ∈ js
      · rcases hor with h1 | h1
        · exact absurd hkj h1
        · obtain ⟨m, hm, rfl⟩ := List.mem_map.1 h1
          obtain ⟨g1, g2, g3⟩ := fxS_spec hfx hfx' hm
          have g1 : m < hs.length := g1
          have := hs2 (m := m) (by omega)
          have e : σ m = nthN js m := sigM_lt (by omega)
          rw [e] at this
          rw [this, g3]; rfl
      · exact hs1 (by omega) hkj
  -- what was handed over was the caller's
  obtain ⟨hpk, hown0⟩ := PkOk.shut hp hnd (xs := []) (vs := []) hpre rfl hwh trivial
  have hown : ∀ b, (∃ k x, hs[k]? = some x ∧ Ow (E.sub js hs.length) k x b) → ∃ k x, k ∈ js ∧ h[k]? = some x ∧ Ow E k x b := fun b ⟨k, x, hx, hb⟩ => by
    obtain ⟨m, y, hy, hb'⟩ := hpk.own k x b hx hb
    obtain ⟨x', h1, h2, h3⟩ := hown0 m y b hy hb'
    exact ⟨_, x', h3, h1, h2⟩
  have notF : ∀ {k : Nat} {x : It} {b : Nat}, k ∉ js → h[k]? = some x → Ow E k x b → ¬ ∃ k x, hs[k]? = some x ∧ Ow (E.sub js hs.length) k x b := fun hkj hx hb hF => by
    obtain ⟨k', x', hk', hx', hb'⟩ := hown _ hF
    exact hkj (hp.sep _ _ _ _ _ hx hx' hb hb' ▸ hk')
  have hml : (h.map (gIt (keepG js okP okS))).length = n := by simp [n]
  have at_ : ∀ {k : Nat} {y : It}, (setAll js (hs'.map (renIt σ)) (h.map (gIt (keepG js okP okS))))[k]? = some y → (∃ m y0, k = σ m ∧ hs'[m]? = some y0 ∧ y = renIt σ y0) ∨ (k < n ∧ k ∉ js ∧ ∃ x, h[k]? = some x ∧ y = gIt (keepG js okP okS) x) := fun {k y} hy => by
    rcases setAll_get hnd (by rw [hml]; exact hlt) (by rw [List.length_map]; omega) hy with ⟨m, h1, h2⟩ | ⟨h1, h2, h3⟩
    · rw [hml] at h1
      rw [List.getElem?_map, Option.map_eq_some_iff] at h2
      obtain ⟨y0, h3, rfl⟩ := h2
      exact .inl ⟨m, y0, h1, h3, rfl⟩
    · rw [hml] at h1
      rw [List.getElem?_map, Option.map_eq_some_iff] at h3
      obtain ⟨x, h4, rfl⟩ := h3
      exact .inr ⟨h1, h2, x, h4, rfl⟩
  have mlt : ∀ {m : Nat} {y : It}, hs'[m]? = some y → m < hs'.length := fun hy => (List.getElem?_eq_some_iff.1 hy).1
  have owN : ∀ {m : Nat} {y : It}, hs'[m]? = some y → Ow E2 (σ m) (renIt σ y) = Ow E' m y := fun {m y} hy => Ow_ren y (hb2 (mlt hy)) (hs2 (mlt hy)) (hx2 (mlt hy))
  have owO : ∀ {k : Nat} {x : It}, k < n → k ∉ js → Ow E2 k (gIt (keepG js okP okS) x) = Ow E k x := fun {k x} h1 h2 => Ow_g x (hb1 h1 h2) (hs1 h1 h2) (hx1 h1 h2)
  have keep : ∀ {k : Nat} {x : It} {b : Nat}, k ∉ js → h[k]? = some x → Ow E k x b → w'.heap[b]? = w.heap[b]? := fun hkj hx hb => hp'.fr.block _ (hp.own _ _ _ hx hb).1 (notF hkj hx hb)
  refine ⟨E2, ⟨hp'.bs, hp.le.trans hp'.le, ?_, ?_, ?_, ?_, ?_, ?_⟩, hR, hg, ?_, hown⟩
  · intro b hb
    rcases hp'.nb b hb with h1 | h1 | h1
    · exact hp.nb b h1
    · exact .inr (.inl (Nat.le_trans hp.fr.size h1))
    · obtain ⟨k, x, _, hx, hb'⟩ := hown b h1
      exact .inr (hp.own k x b hx hb').2.2
  · rw [setAll_len (by rw [List.length_map]; omega), hml, List.length_map]
  · intro k y hy
    rcases at_ hy with ⟨m, y0, rfl, hy0, rfl⟩ | ⟨h1, h2, x, hx, rfl⟩
    · exact renIt_ok hR (by rw [hn']; exact mlt hy0) (hx2 (mlt hy0)) (hp'.ok m y0 hy0)
    · exact hg.it (hb1 h1 h2) (hs1 h1 h2) (hx1 h1 h2) hp'.le ((hp.ok k x hx).of_block fun b hb => keep h2 hx hb)
  · intro k y b hy hb
    rcases at_ hy with ⟨m, y0, rfl, hy0, rfl⟩ | ⟨h1, h2, x, hx, rfl⟩
    · rw [owN hy0] at hb
      have h3 := hp'.own m y0 b hy0 hb
      refine ⟨h3.1, h3.2.1, ?_⟩
      rcases h3.2.2 with h4 | h4
      · exact .inl (Nat.le_trans hp.fr.size h4)
      · obtain ⟨k', x', _, hx', hb'⟩ := hown b h4
        exact (hp.own k' x' b hx' hb').2.2
    · rw [owO h1 h2] at hb
      have h3 := hp.own k x b hx hb
      refine ⟨Nat.lt_of_lt_of_le h3.1 hp'.fr.size, fun hB => ?_, h3.2.2⟩
      rcases hp'.nb b hB with h4 | h4 | h4
      · exact h3.2.1 h4
      · have : w.heap.size ≤ b := h4
        omega
      · exact notF h2 hx hb h4
  · intro j k x y b hjx hky hb hb'
    rcases at_ hjx with ⟨m1, y1, rfl, hy1, rfl⟩ | ⟨h1, h2, x1, hx1', rfl⟩ <;> rcases at_ hky with ⟨m2, y2, rfl, hy2, rfl⟩ | ⟨h3, h4, x2, hx2', rfl⟩
    · rw [owN hy1] at hb
      rw [owN hy2] at hb'
      rw [hp'.sep m1 m2 y1 y2 b hy1 hy2 hb hb']
    · exfalso
      rw [owN hy1] at hb
      rw [owO h3 h4] at hb'
      rcases (hp'.own m1 y1 b hy1 hb).2.2 with h5 | h5
      · have := (hp.own k x2 b hx2' hb').1
        have : w.heap.size ≤ b := h5
        omega
      · exact notF h4 hx2' hb' h5
    · exfalso
      rw [owN hy2] at hb'
      rw [owO h1 h2] at hb
      rcases (hp'.own m2 y2 b hy2 hb').2.2 with h5 | h5
      · have := (hp.own j x1 b hx1' hb).1
        have : w.heap.size ≤ b := h5
        omega
      · exact notF h2 hx1' hb h5
    · rw [owO h1 h2] at hb
      rw [owO h3 h4] at hb'
      exact hp.sep j k x1 x2 b hx1' hx2' hb hb'
  · refine ⟨hp'.fr.os.trans hp.fr.os, hp'.fr.tape.trans hp.fr.tape, hp'.fr.output.trans hp.fr.output, Nat.le_trans hp.fr.size hp'.fr.size, fun k hk hF => ?_⟩
    refine (hp'.fr.block k (Nat.lt_of_lt_of_le hk hp.fr.size) fun hF' => ?_).trans (hp.fr.block k hk hF)
    obtain ⟨k', x, _, hx, hb⟩ := hown k hF'
    rcases (hp.own k' x k hx hb).2.2 with h1 | h1
    · omega
    · exact hF h1
  · intro k y b hy hb
    rcases at_ hy with ⟨m, y0, rfl, hy0, rfl⟩ | ⟨h1, h2, x, hx, rfl⟩
    · rw [owN hy0] at hb
      rcases (hp'.own m y0 b hy0 hb).2.2 with h4 | h4
      · exact .inr h4
      · obtain ⟨k', x', h5, hx', hb'⟩ := hown b h4
        exact .inl ⟨k', x', .inl h5, hx', hb'⟩
    · rw [owO h1 h2] at hb
      exact .inl ⟨k, x, .inr rfl, hx, hb⟩
theorem Heap.behindM {w0 : Org} {F : Nat → Prop} {E E' : Env} {h hs hs' : List It} {w w' : World} {js : List Nat} {fx : List XC} {vs : List Value} (hp : Heap w0 F E h w) (hnd : js.Nodup) (hlt : ∀ k ∈ js, k < h.length) (hpre : preAt h js (hs.map (renIt (nthN js)))) (hwh : wfH hs.length hs = true)
    (hfx : RelL (E.sub js hs.length) fx vs) (hfx' : RelL E' fx vs) (hle : hs.length ≤ hs'.length) (hp' : Heap ⟨w, E.bs⟩ (fun b => ∃ k x, hs[k]? = some x ∧ Ow (E.sub js hs.length) k x b) E' hs' w') :
    ∃ E2, Heap w0 F E2 (setAll js (hs'.map (renIt (sigM js h.length))) (h.map (gIt (keepG js ((fxP fx).map (nthN js)) ((fxS fx).map (nthN js)))))) w' ∧ EnvR (sigM js h.length) E' E2 ∧ Gst E E2 (keepG js ((fxP fx).map (nthN js)) ((fxS fx).map (nthN js))) := by
  obtain ⟨E2, h1, h2, h3, _⟩ := hp.behindM2 hnd hlt hpre hwh hfx hfx' hle hp'
  exact ⟨E2, h1, h2, h3⟩

/-- What a caller has behind such a call. -/
def callM (js : List Nat) (fx : List XC) (v : XV) (hs' : List It) (ts : List XV) (h : List It) (k : KE) : Prop :=
  lenK h fun n => renVK (sigM js n) v fun v' => gTsK (keepG js ((fxP fx).map (nthN js)) ((fxS fx).map (nthN js))) ts fun ts' => gHK (keepG js ((fxP fx).map (nthN js)) ((fxS fx).map (nthN js))) h fun h1 =>
    renHK (sigM js n) hs' fun hs2 => setAllK js hs2 h1 fun h2 => k v' ts' h2
def ltB (n : Nat) : List Nat → Bool
  | [] => true
  | a :: l => (match Nat.blt a n with | true => ltB n l | false => false)
theorem ltB_spec {n : Nat} : ∀ {l : List Nat}, ltB n l = true → ∀ k ∈ l, k < n
  | [], _, _, hk => by simp at hk
  | a :: l, h, k, hk => by
    unfold ltB at h
    split at h
    · rename_i h1
      rcases List.mem_cons.1 hk with rfl | hk
      · exact blt_lt h1
      · exact ltB_spec h k hk
    · cases h

/-- A call by such a contract; the items stand at the places js. -/
theorem callx_m {C : Cx} {f : FuncId} {args ts : List XV} {h : List It} {k : KE} {xs : List XV} {hs : List It} {fx : List XC} {v : XV} {hs' : List It} (hf : FnM C.P f xs hs fx v hs') (js : List Nat)
    (hb : (nodupB js && ltB h.length js && wfVs hs.length xs && wfL hs.length fx && wfH hs.length hs && fxB hs fx && Nat.ble hs.length hs'.length) = true)
    (hargs : entVs args (xs.map (renV (nthN js)))) (hpre : preAt h js (hs.map (renIt (nthN js)))) (hk : callM js fx v hs' ts h k) : CallX C f args ts h k := by
  simp only [Bool.and_eq_true] at hb
  obtain ⟨⟨⟨⟨⟨⟨hnd, hlt⟩, hwx⟩, hwf⟩, hwh⟩, hfb⟩, hle⟩ := hb
  have hnd := nodupB_iff hnd
  have hlt := ltB_spec hlt
  have hle := Nat.le_of_ble_eq_true hle
  unfold callM at hk
  rw [lenK_eq, renVK_eq, gTsK_eq, gHK_eq, renHK_eq, setAllK_eq] at hk
  unfold CallX
  refine ⟨hf.ok, fun w0 F E w vs us hr hax hp => ?_⟩
  have hsub := hp.sub hnd hpre hwh
  have hax' : RelTs (E.sub js hs.length) xs us := unrenTs (E.sub_u js _) hwx (entVs_rel hargs hax)
  obtain ⟨vf, hvf⟩ := fxB_spec hsub hfb
  refine (hf.run _ _ _ w us vf hsub.origin hax' hvf).mono fun e w' ⟨u, E', he, hp', hu, hvf'⟩ => ?_
  obtain ⟨E2, h1, h2, h3⟩ := hp.behindM hnd hlt hpre hwh hvf hvf' hle hp'
  exact ⟨u, _, _, _, E2, he, hk, renV_rel h2 hu, h3.ts hr, h1⟩
/-- .. in a statement whose order is drawn; none of these items is of rd. -/
theorem callt_m {C : Cx} {f : FuncId} {args ts : List XV} {h : List It} {k : KE} {rd : Nat → Bool} {xs : List XV} {hs : List It} {fx : List XC} {v : XV} {hs' : List It} (hf : FnM C.P f xs hs fx v hs') (js : List Nat)
    (hb : (nodupB js && ltB h.length js && wfVs hs.length xs && wfL hs.length fx && wfH hs.length hs && fxB hs fx && Nat.ble hs.length hs'.length) = true) (hrd : js.all (fun j => !rd j) = true)
    (hargs : entVs args (xs.map (renV (nthN js)))) (hpre : preAt h js (hs.map (renIt (nthN js)))) (hk : callM js fx v hs' ts h k) : CallT C f args ts h rd k := by
  simp only [Bool.and_eq_true] at hb
  obtain ⟨⟨⟨⟨⟨⟨hnd, hlt⟩, hwx⟩, hwf⟩, hwh⟩, hfb⟩, hle⟩ := hb
  have hnd := nodupB_iff hnd
  have hlt := ltB_spec hlt
  have hle := Nat.le_of_ble_eq_true hle
  have hrd : ∀ j ∈ js, rd j = false := fun j hj => by simpa using List.all_eq_true.1 hrd j hj
  unfold callM at hk
  rw [lenK_eq, renVK_eq, gTsK_eq, gHK_eq, renHK_eq, setAllK_eq] at hk
  unfold CallT
  refine ⟨hf.ok, fun w0 F E w vs us hr hax hp => ?_⟩
  have hsub := hp.sub hnd hpre hwh
  have hax' : RelTs (E.sub js hs.length) xs us := unrenTs (E.sub_u js _) hwx (entVs_rel hargs hax)
  obtain ⟨vf, hvf⟩ := fxB_spec hsub hfb
  refine (hf.run _ _ _ w us vf hsub.origin hax' hvf).mono fun e w' ⟨u, E', he, hp', hu, hvf'⟩ => ?_
  obtain ⟨E2, h1, h2, h3, h4, h5⟩ := hp.behindM2 hnd hlt hpre hwh hvf hvf' hle hp'
  refine ⟨u, _, _, _, E2, he, hk, renV_rel h2 hu, h3.ts hr, h1, ⟨hp'.fr.size, fun b hb hno => hp'.fr.block b hb fun hF => ?_⟩, fun k y b hy hrk hb => ?_⟩
  · obtain ⟨j, x, hj, hx, hb'⟩ := h5 b hF
    exact hno j x (hrd j hj) hx hb'
  · rcases h4 k y b hy hb with ⟨j, x, hj, hx, hb'⟩ | h6
    · refine .inl ⟨j, x, ?_, hx, hb'⟩
      rcases hj with hj | rfl
      · exact hrd j hj
      · exact hrk
    · exact .inr h6
end Go.Eng
