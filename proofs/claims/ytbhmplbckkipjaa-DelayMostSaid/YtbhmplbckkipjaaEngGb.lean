/- The engine, part Gb: steps that no operation takes: packs opened and shut, nil slices as own rows, rows laid aside. Nothing of any program is proved here. -/
import Derived.Test.YtbhmplbckkipjaaEngGa
namespace Go.Eng
open Go Go.RowKit
set_option linter.unusedSimpArgs false
set_option linter.unusedVariables false

/-! ### cells said anew, all through -/
def gW (g : XC → XC) : XW → XW
  | .c x => .c (g x)
  | .a l => .a (l.map g)
def gV (g : XC → XC) : XV → XV
  | .c x => .c (g x)
  | .a l => .a (l.map g)
  | .t l => .t (l.map (gW g))
  | .un => .un
def gIt (g : XC → XC) : It → It
  | .cells ty cs => .cells ty (cs.map g)
  | .held vs xs => .held vs (xs.map (gV g))
  | .prow e z as (some (i, cs)) => .prow e z as (some (i, cs.map g))
  | x => x
def gLK (g : XC → XC) : List XC → (List XC → Prop) → Prop
  | [], k => k []
  | x :: l, k => forceC (g x) fun x => gLK g l fun l => k (x :: l)
theorem gLK_eq (g : XC → XC) : ∀ (l : List XC) (k : List XC → Prop), gLK g l k = k (l.map g)
  | [], _ => rfl
  | x :: l, k => by simp only [gLK, forceC_eq, gLK_eq g l, List.map_cons]
def gWsK (g : XC → XC) : List XW → (List XW → Prop) → Prop
  | [], k => k []
  | .c x :: l, k => forceC (g x) fun x => gWsK g l fun l => k (.c x :: l)
  | .a x :: l, k => gLK g x fun x => gWsK g l fun l => k (.a x :: l)
theorem gWsK_eq (g : XC → XC) : ∀ (l : List XW) (k : List XW → Prop), gWsK g l k = k (l.map (gW g))
  | [], _ => rfl
  | .c x :: l, k => by simp only [gWsK, forceC_eq, gWsK_eq g l, List.map_cons, gW]
  | .a x :: l, k => by simp only [gWsK, gLK_eq, gWsK_eq g l, List.map_cons, gW]
def gVK (g : XC → XC) (x : XV) (k : XV → Prop) : Prop :=
  match x with
  | .c x => forceC (g x) fun x => k (.c x)
  | .a l => gLK g l fun l => k (.a l)
  | .t l => gWsK g l fun l => k (.t l)
  | .un => k .un
theorem gVK_eq (g : XC → XC) (x : XV) (k : XV → Prop) : gVK g x k = k (gV g x) := by
  cases x <;> simp only [gVK, forceC_eq, gLK_eq, gWsK_eq, gV]
def gTsK (g : XC → XC) : List XV → (List XV → Prop) → Prop
  | [], k => k []
  | x :: l, k => gVK g x fun x => gTsK g l fun l => k (x :: l)
theorem gTsK_eq (g : XC → XC) : ∀ (l : List XV) (k : List XV → Prop), gTsK g l k = k (l.map (gV g))
  | [], _ => rfl
  | x :: l, k => by simp only [gTsK, gVK_eq, gTsK_eq g l, List.map_cons]
def gHK (g : XC → XC) : List It → (List It → Prop) → Prop
  | [], k => k []
  | .cells ty cs :: l, k => gLK g cs fun cs => gHK g l fun l => k (.cells ty cs :: l)
  | .held vs xs :: l, k => gTsK g xs fun xs => gHK g l fun l => k (.held vs xs :: l)
  | .prow e z as (some (i, cs)) :: l, k => gLK g cs fun cs => gHK g l fun l => k (.prow e z as (some (i, cs)) :: l)
  | .prow e z as none :: l, k => gHK g l fun l => k (.prow e z as none :: l)
  | .dead :: l, k => gHK g l fun l => k (.dead :: l)
  | .row e z xs :: l, k => gHK g l fun l => k (.row e z xs :: l)
  | .obj Φ :: l, k => gHK g l fun l => k (.obj Φ :: l)
  | .abs A :: l, k => gHK g l fun l => k (.abs A :: l)
theorem gHK_eq (g : XC → XC) : ∀ (h : List It) (k : List It → Prop), gHK g h k = k (h.map (gIt g))
  | [], _ => rfl
  | .cells ty cs :: l, k => by simp only [gHK, gLK_eq, gHK_eq g l, List.map_cons, gIt]
  | .held vs xs :: l, k => by simp only [gHK, gTsK_eq, gHK_eq g l, List.map_cons, gIt]
  | .prow e z as (some (i, cs)) :: l, k => by simp only [gHK, gLK_eq, gHK_eq g l, List.map_cons, gIt]
  | .prow e z as none :: l, k => by simp only [gHK, gHK_eq g l, List.map_cons, gIt]
  | .dead :: l, k => by simp only [gHK, gHK_eq g l, List.map_cons, gIt]
  | .row e z xs :: l, k => by simp only [gHK, gHK_eq g l, List.map_cons, gIt]
  | .obj Φ :: l, k => by simp only [gHK, gHK_eq g l, List.map_cons, gIt]
  | .abs A :: l, k => by simp only [gHK, gHK_eq g l, List.map_cons, gIt]

/-- What E says of a cell, E2 says of the cell that g makes of it. -/
def Gst (E E2 : Env) (g : XC → XC) : Prop := ∀ x v, RelC E x v → RelC E2 (g x) v
section
variable {E E2 : Env} {g : XC → XC}
theorem Gst.l (hg : Gst E E2 g) : ∀ {l : List XC} {vs : List Value}, RelL E l vs → RelL E2 (l.map g) vs
  | [], [], _ => trivial
  | _ :: _, _ :: _, h => ⟨hg _ _ h.1, Gst.l hg h.2⟩
  | [], _ :: _, h => h.elim
  | _ :: _, [], h => h.elim
theorem Gst.ws (hg : Gst E E2 g) : ∀ {l : List XW} {vs : List Value}, RelWs E l vs → RelWs E2 (l.map (gW g)) vs
  | [], [], _ => trivial
  | .c _ :: _, _ :: _, h => ⟨hg _ _ h.1, Gst.ws hg h.2⟩
  | .a _ :: _, _ :: _, h => ⟨by obtain ⟨us, e, hl⟩ := h.1; exact ⟨us, e, hg.l hl⟩, Gst.ws hg h.2⟩
  | [], _ :: _, h => h.elim
  | _ :: _, [], h => h.elim
theorem Gst.v (hg : Gst E E2 g) {x : XV} {v : Value} (h : RelV E x v) : RelV E2 (gV g x) v := by
  cases x with
  | un => trivial
  | c x => exact hg x v h
  | a l => obtain ⟨us, e, hl⟩ := h; exact ⟨us, e, hg.l hl⟩
  | t l => obtain ⟨us, e, hl⟩ := h; exact ⟨us, e, hg.ws hl⟩
theorem Gst.ts (hg : Gst E E2 g) : ∀ {l : List XV} {vs : List Value}, RelTs E l vs → RelTs E2 (l.map (gV g)) vs
  | [], [], _ => trivial
  | _ :: _, _ :: _, h => ⟨hg.v h.1, Gst.ts hg h.2⟩
  | [], _ :: _, h => h.elim
  | _ :: _, [], h => h.elim
theorem Gst.id (hc : EnvC E E2) : Gst E E2 (fun x => x) := fun x v h => RelC.monoC hc x v h

/-- An item that stands where it stood. -/
theorem Gst.it (hg : Gst E E2 g) {w : World} {k : Nat} (hb : E2.blk k = E.blk k) (hs : E2.sl k = E.sl k) (hx : E2.ext k = E.ext k) (hbs : ∀ b, E.bs.B b → E2.bs.B b ∧ E2.bs.wb.heap[b]? = E.bs.wb.heap[b]?) {x : It} (h : ItOk E w k x) : ItOk E2 w k (gIt g x) := by
  cases x with
  | dead => trivial
  | cells ty cs => obtain ⟨vs, hv, hr⟩ := h; exact ⟨vs, by rw [hb]; exact hv, hg.l hr⟩
  | row e z xs => obtain ⟨ys, ho, hr, hl, hst⟩ := h; exact ⟨ys, by rw [hs]; exact ho, RelL.stable (E := E) hbs hst hr, hl, hst⟩
  | obj Φ => obtain ⟨o, ho, hr⟩ := h; exact ⟨o, by rw [hb]; exact ho, hr⟩
  | abs A =>
    show A.is E2.bs (E2.sl k) (E2.ext k) w
    rw [hs, hx]
    exact A.st hbs (fun _ _ => rfl) h
  | held vs xs => exact hg.ts h
  | prow e z as o =>
    obtain ⟨ys, Ss, h1⟩ := h
    have hrow : w.ownsRow 0 e z (E2.sl k) as.length ys := by rw [hs]; exact h1.row
    have hown : ∀ i b, Ss i b → E2.ext k b ∧ (E2.sl k).ownBlock ≠ some b := by rw [hs, hx]; exact h1.own
    have hblk : ∀ b, (E2.sl k).ownBlock = some b → E2.ext k b := by rw [hs, hx]; exact h1.blk
    cases o with
    | none => exact ⟨ys, Ss, hrow, fun i a ha hno => a.st hbs (fun _ _ => rfl) (h1.el i a ha hno), fun i cs e => (by cases e), h1.sep, hown, hblk⟩
    | some p =>
      refine ⟨ys, Ss, hrow, fun i a ha hno => a.st hbs (fun _ _ => rfl) (h1.el i a ha fun cs e => hno (cs.map g) (by cases e; rfl)), fun i cs e => ?_, h1.sep, hown, hblk⟩
      cases e
      obtain ⟨g1, g2, g3⟩ := h1.op p.1 p.2 rfl
      exact ⟨g1, by simpa using g2, hg.l g3⟩
theorem Ow_g {k : Nat} (x : It) (hb : E2.blk k = E.blk k) (hs : E2.sl k = E.sl k) (hx : E2.ext k = E.ext k) : Ow E2 k (gIt g x) = Ow E k x := by
  funext b
  cases x with
  | prow e z as o => cases o <;> simp [Ow, gIt, hx]
  | _ => simp [Ow, gIt, hb, hs, hx]
end

/-! ### numbers as literals -/
def natK (n : Nat) (k : Nat → Prop) : Prop := match n with | 0 => k 0 | m + 1 => sucK m k
theorem natK_eq (n : Nat) (k : Nat → Prop) : natK n k = k n := by cases n with | zero => rfl | succ m => exact sucK_eq m k
def renCK (σ : Nat → Nat) (x : XC) (k : XC → Prop) : Prop :=
  match x with
  | .p it o => natK (σ it) fun n => k (.p n o)
  | .ow it => natK (σ it) fun n => k (.ow n)
  | .q it i z o => natK (σ it) fun n => k (.q n i z o)
  | .sp it o m z => natK (σ it) fun n => k (.sp n o m z)
  | .mp it => natK (σ it) fun n => k (.mp n)
  | x => forceC (renC σ x) k
theorem renCK_eq (σ : Nat → Nat) (x : XC) (k : XC → Prop) : renCK σ x k = k (renC σ x) := by
  cases x <;> simp only [renCK, natK_eq, forceC_eq, renC]
def renLK (σ : Nat → Nat) : List XC → (List XC → Prop) → Prop
  | [], k => k []
  | x :: l, k => renCK σ x fun x => renLK σ l fun l => k (x :: l)
theorem renLK_eq (σ : Nat → Nat) : ∀ (l : List XC) (k : List XC → Prop), renLK σ l k = k (l.map (renC σ))
  | [], _ => rfl
  | x :: l, k => by simp only [renLK, renCK_eq, renLK_eq σ l, List.map_cons]
def renVK (σ : Nat → Nat) (x : XV) (k : XV → Prop) : Prop :=
  match x with
  | .c x => renCK σ x fun x => k (.c x)
  | .a l => renLK σ l fun l => k (.a l)
  | x => forceV (renV σ x) k
theorem renVK_eq (σ : Nat → Nat) (x : XV) (k : XV → Prop) : renVK σ x k = k (renV σ x) := by
  cases x <;> simp only [renVK, renCK_eq, renLK_eq, forceV_eq, renV]
def renTsK (σ : Nat → Nat) : List XV → (List XV → Prop) → Prop
  | [], k => k []
  | x :: l, k => renVK σ x fun x => renTsK σ l fun l => k (x :: l)
theorem renTsK_eq (σ : Nat → Nat) : ∀ (l : List XV) (k : List XV → Prop), renTsK σ l k = k (l.map (renV σ))
  | [], _ => rfl
  | x :: l, k => by simp only [renTsK, renVK_eq, renTsK_eq σ l, List.map_cons]
def renItK (σ : Nat → Nat) (x : It) (k : It → Prop) : Prop :=
  match x with
  | .cells ty cs => renLK σ cs fun cs => k (.cells ty cs)
  | .held vs xs => renTsK σ xs fun xs => k (.held vs xs)
  | .prow e z as (some (i, cs)) => renLK σ cs fun cs => k (.prow e z as (some (i, cs)))
  | x => k x
theorem renItK_eq (σ : Nat → Nat) (x : It) (k : It → Prop) : renItK σ x k = k (renIt σ x) := by
  cases x with
  | prow e z as o => cases o <;> simp only [renItK, renLK_eq, renIt]
  | _ => simp only [renItK, renLK_eq, renTsK_eq, renIt]
def renHK (σ : Nat → Nat) : List It → (List It → Prop) → Prop
  | [], k => k []
  | x :: l, k => renItK σ x fun x => renHK σ l fun l => k (x :: l)
theorem renHK_eq (σ : Nat → Nat) : ∀ (l : List It) (k : List It → Prop), renHK σ l k = k (l.map (renIt σ))
  | [], _ => rfl
  | x :: l, k => by simp only [renHK, renItK_eq, renHK_eq σ l, List.map_cons]
def appH : List It → List It → (List It → Prop) → Prop
  | [], r, k => k r
  | x :: l, r, k => appH l r fun l => k (x :: l)
theorem appH_eq : ∀ (l r : List It) (k : List It → Prop), appH l r k = k (l ++ r)
  | [], _, _ => rfl
  | x :: l, r, k => by simp only [appH, appH_eq l r, List.cons_append]

/-- A step that no operation takes. -/
def GhS (h : List It) (g : XC → XC) (h2 : List It) : Prop := ∀ w0 F E w, Heap w0 F E h w → ∃ E2, Heap w0 F E2 h2 w ∧ Gst E E2 g

theorem gV_id (x : XV) : gV (fun x => x) x = x := by
  have hW : (gW fun x => x) = fun x => x := by funext x; cases x <;> simp [gW]
  cases x <;> simp [gV, hW]
theorem gIt_id (x : It) : gIt (fun x => x) x = x := by
  have hV : (gV fun x => x) = fun x => x := by funext x; exact gV_id x
  cases x with
  | prow e z as o => cases o <;> simp [gIt]
  | _ => simp [gIt, hV]

/-- Memory said anew; at the places of P all stands as it stood. -/
theorem Heap.remix {w0 : Org} {F : Nat → Prop} {E E2 : Env} {h h2 : List It} {w : World} {g : XC → XC} (hp : Heap w0 F E h w) (hb : E2.bs = E.bs) (hn : E2.n = h2.length) (hg : Gst E E2 g) (P : Nat → Prop)
    (hold : ∀ k y, h2[k]? = some y → P k → ∃ x, h[k]? = some x ∧ y = gIt g x ∧ E2.blk k = E.blk k ∧ E2.sl k = E.sl k ∧ E2.ext k = E.ext k)
    (hnew : ∀ k y, h2[k]? = some y → ¬ P k → ItOk E2 w k y ∧ ∀ b, Ow E2 k y b → ∃ k' x, ¬ P k' ∧ h[k']? = some x ∧ Ow E k' x b)
    (hsep : ∀ j k x y b, h2[j]? = some x → h2[k]? = some y → ¬ P j → ¬ P k → Ow E2 j x b → Ow E2 k y b → j = k) : Heap w0 F E2 h2 w := by
  have old : ∀ {k : Nat} {y : It} {b : Nat}, h2[k]? = some y → P k → Ow E2 k y b → ∃ x, h[k]? = some x ∧ Ow E k x b := fun {k y b} hy hk hyb => by
    obtain ⟨x, hx, rfl, h1, h2, h3⟩ := hold k y hy hk
    rw [Ow_g x h1 h2 h3] at hyb; exact ⟨x, hx, hyb⟩
  refine hp.re hb hn (fun k y hy => ?_) (fun k y b hy hyb => ?_) (fun j k x y b hjx hky hxb hyb => ?_)
  · by_cases hk : P k
    · obtain ⟨x, hx, rfl, h1, h2, h3⟩ := hold k y hy hk
      exact hg.it h1 h2 h3 (by rw [hb]; exact fun _ h => ⟨h, rfl⟩) (hp.ok k x hx)
    · exact (hnew k y hy hk).1
  · by_cases hk : P k
    · obtain ⟨x, hx, hxb⟩ := old hy hk hyb; exact ⟨k, x, hx, hxb⟩
    · obtain ⟨k', x, _, hx, hxb⟩ := (hnew k y hy hk).2 b hyb; exact ⟨k', x, hx, hxb⟩
  · by_cases hj : P j <;> by_cases hk : P k
    · obtain ⟨x', hx', hxb'⟩ := old hjx hj hxb
      obtain ⟨y', hy', hyb'⟩ := old hky hk hyb
      exact hp.sep j k x' y' b hx' hy' hxb' hyb'
    · obtain ⟨x', hx', hxb'⟩ := old hjx hj hxb
      obtain ⟨k', z, hnP, hz, hzb⟩ := (hnew k y hky hk).2 b hyb
      exact absurd (hp.sep j k' x' z b hx' hz hxb' hzb ▸ hj) hnP
    · obtain ⟨y', hy', hyb'⟩ := old hky hk hyb
      obtain ⟨k', z, hnP, hz, hzb⟩ := (hnew j x hjx hj).2 b hxb
      exact absurd (hp.sep k k' y' z b hy' hz hyb' hzb ▸ hk) hnP
    · exact hsep j k x y b hjx hky hj hk hxb hyb

/-- Where items were put behind others, and one or another one is said anew. -/
theorem at_append {h h' : List It} {k : Nat} {y : It} (hy : (h ++ h')[k]? = some y) : (k < h.length ∧ h[k]? = some y) ∨ (h.length ≤ k ∧ h'[k - h.length]? = some y) := by
  by_cases hk : k < h.length
  · rw [List.getElem?_append_left hk] at hy; exact .inl ⟨hk, hy⟩
  · rw [List.getElem?_append_right (by omega)] at hy; exact .inr ⟨by omega, hy⟩
theorem at_set {h : List It} {it k : Nat} {x y : It} (hy : (h.set it x)[k]? = some y) : (k = it ∧ y = x ∧ it < h.length) ∨ (k ≠ it ∧ h[k]? = some y) := by
  by_cases e : it = k
  · subst e
    have hlt : it < h.length := by have := (List.getElem?_eq_some_iff.1 hy).1; simpa using this
    rw [List.getElem?_set_self hlt] at hy
    exact .inl ⟨rfl, by simpa using hy.symm, hlt⟩
  · rw [List.getElem?_set_ne e] at hy; exact .inr ⟨fun e' => e e'.symm, hy⟩

/-! ### opening -/
theorem open_sound {h : List It} {it i e z : Nat} {as : List AbsL} {xs : List XC} {hs : List It} (hx : h[it]? = some (.prow e z as none)) (ha : as[i]? = some (PackL xs hs)) :
    GhS h (fun x => x) (h.set it (.prow e z as (some (i, xs.map (renC fun j => h.length + j)))) ++ hs.map (renIt fun j => h.length + j)) := by
  intro w0 F E w hp
  obtain ⟨ys, Ss, hpr⟩ := hp.ok it _ hx
  obtain ⟨Ep, hbs, hpk⟩ := hpr.el i _ ha (fun cs e => by cases e)
  have hn := hp.n
  have hit : it < h.length := (List.getElem?_eq_some_iff.1 hx).1
  let n := h.length
  let E2 : Env := { E with n := n + hs.length, blk := fun k => if k < n then E.blk k else Ep.blk (k - n), sl := fun k => if k < n then E.sl k else Ep.sl (k - n), ext := fun k => if k = it then (fun b => E.ext it b ∧ ¬ Ss i b) else if k < n then E.ext k else Ep.ext (k - n) }
  have hb1 : ∀ k, k < n → E2.blk k = E.blk k := fun k hk => by simp [E2, hk]
  have hs1 : ∀ k, k < n → E2.sl k = E.sl k := fun k hk => by simp [E2, hk]
  have hx1 : ∀ k, k < n → k ≠ it → E2.ext k = E.ext k := fun k hk hne => by simp [E2, hk, hne]
  have hxi : ∀ b, E2.ext it b ↔ E.ext it b ∧ ¬ Ss i b := fun b => by simp [E2]
  have hR : EnvR (fun j => n + j) Ep E2 := ⟨fun j hj => by show n + j < n + hs.length; rw [hpk.n] at hj; omega, fun j hj => by simp [E2, Nat.not_lt_of_le (Nat.le_add_right n j)], fun j hj => by simp [E2, Nat.not_lt_of_le (Nat.le_add_right n j)], fun b hb => by rw [hbs] at hb ⊢; exact ⟨hb, rfl⟩⟩
  have hxe : ∀ j, E2.ext (n + j) = Ep.ext j := fun j => by
    have : ¬ n + j = it := by omega
    simp [E2, this, Nat.not_lt_of_le (Nat.le_add_right n j)]
  have hc : EnvC E E2 := ⟨by show E.n ≤ n + hs.length; omega, fun k hk => hb1 k (by omega), fun k hk => hs1 k (by omega), fun b hb => ⟨hb, rfl⟩⟩
  have own2 : ∀ {j : Nat} {y : It} {b : Nat}, hs[j]? = some y → Ow E2 (n + j) (renIt (fun j => n + j) y) b → Ow Ep j y b := fun {j y b} hy hb => by
    have hj : j < Ep.n := by rw [hpk.n]; exact (List.getElem?_eq_some_iff.1 hy).1
    rw [Ow_ren (E0 := Ep) (E := E2) (σ := fun j => n + j) (k := j) y (hR.blk j hj) (hR.sl j hj) (hxe j)] at hb
    exact hb
  have hilt : i < as.length := (List.getElem?_eq_some_iff.1 ha).1
  have hlen : (h.set it (.prow e z as (some (i, xs.map (renC fun j => n + j))))).length = n := by simp [n]
  have new : ∀ {k : Nat} {y : It}, (h.set it (.prow e z as (some (i, xs.map (renC fun j => n + j)))) ++ hs.map (renIt fun j => n + j))[k]? = some y → ¬ (k < n ∧ k ≠ it) →
      (k = it ∧ y = .prow e z as (some (i, xs.map (renC fun j => n + j)))) ∨ (∃ j y0, k = n + j ∧ hs[j]? = some y0 ∧ y = renIt (fun j => n + j) y0) := fun {k y} hy hk => by
    rcases at_append hy with ⟨hk', hy⟩ | ⟨hk', hy⟩
    · rcases at_set hy with ⟨h1, h2, _⟩ | ⟨h1, _⟩
      · exact .inl ⟨h1, h2⟩
      · rw [hlen] at hk'; exact absurd ⟨hk', h1⟩ hk
    · rw [hlen] at hk' hy
      rw [List.getElem?_map, Option.map_eq_some_iff] at hy
      obtain ⟨y0, h0, rfl⟩ := hy
      exact .inr ⟨k - n, y0, by omega, h0, rfl⟩
  refine ⟨E2, hp.remix rfl (by show n + hs.length = _; simp [n]) (Gst.id hc) (fun k => k < n ∧ k ≠ it) (fun k y hy hk => ?_) (fun k y hy hk => ?_) (fun j k x y b hjx hky hj hk hb hb' => ?_), Gst.id hc⟩
  · rcases at_append hy with ⟨_, hy⟩ | ⟨hk', _⟩
    · rcases at_set hy with ⟨h1, _⟩ | ⟨_, hy⟩
      · exact absurd h1 hk.2
      · exact ⟨y, hy, (gIt_id y).symm, hb1 k hk.1, hs1 k hk.1, hx1 k hk.1 hk.2⟩
    · rw [hlen] at hk'; omega
  · rcases new hy hk with ⟨rfl, rfl⟩ | ⟨j, y0, rfl, hy0, rfl⟩
    · have hSs : ∀ j, j ≠ i → (fun b => j ≠ i ∧ Ss j b) = Ss j := fun j hj => by funext b; exact propext ⟨fun h => h.2, fun h => ⟨hj, h⟩⟩
      refine ⟨⟨ys, fun j b => j ≠ i ∧ Ss j b, by rw [hs1 _ hit]; exact hpr.row, fun j a hja hno => by rw [hSs j (fun e => hno _ (by rw [e]))]; exact hpr.el j a hja (fun cs e => by cases e), fun j cs e => ?_, fun j j' b h1 h2 => hpr.sep j j' b h1.2 h2.2, fun j b hb => ?_, fun b hb => ?_⟩, fun b hb => ⟨k, _, fun h => h.2 rfl, hx, ((hxi b).1 hb).1⟩⟩
      · cases e
        refine ⟨hilt, ?_, renL_rel hR hpk.rel⟩
        have hz := hpr.row.1
        have hle : i * z + z ≤ as.length * z := by rw [← Nat.succ_mul]; exact Nat.mul_le_mul_right z hilt
        rw [List.length_map, hpk.rel.len, List.length_take, List.length_drop]; omega
      · rw [hs1 _ hit]
        exact ⟨(hxi b).2 ⟨(hpr.own j b hb.2).1, fun h => hb.1 (hpr.sep j i b hb.2 h)⟩, (hpr.own j b hb.2).2⟩
      · rw [hs1 _ hit] at hb
        exact (hxi b).2 ⟨hpr.blk b hb, fun h => (hpr.own i b h).2 hb⟩
    · have hj : j < Ep.n := by rw [hpk.n]; exact (List.getElem?_eq_some_iff.1 hy0).1
      exact ⟨renIt_ok hR hj (hxe j) (hpk.ok j y0 hy0), fun b hb => ⟨it, _, fun h => h.2 rfl, hx, (hpr.own i b (hpk.own j y0 b hy0 (own2 hy0 hb))).1⟩⟩
  · rcases new hjx hj with ⟨e1, rfl⟩ | ⟨a, x0, rfl, hx0, rfl⟩ <;> rcases new hky hk with ⟨e2, rfl⟩ | ⟨c, y0, rfl, hy0, rfl⟩
    · omega
    · subst e1
      exact absurd (hpk.own c y0 b hy0 (own2 hy0 hb')) ((hxi b).1 hb).2
    · subst e2
      exact absurd (hpk.own a x0 b hx0 (own2 hx0 hb)) ((hxi b).1 hb').2
    · rw [hpk.sep a c x0 y0 b hx0 hy0 (own2 hx0 hb) (own2 hy0 hb')]
end Go.Eng
