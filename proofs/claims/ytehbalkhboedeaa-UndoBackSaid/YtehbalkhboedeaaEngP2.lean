/- The engine, part G: operations that make memory or write it; nothing of any program is proved here. -/
import Derived.Test.YtehbalkhboedeaaEngP1
import Derived.ScopeJumps
namespace Go.Eng
open Go Go.RowKit
set_option linter.unusedSimpArgs false
set_option linter.unusedVariables false

/-! ### one assignment behind another one -/
structure EnvLe (E E' : Env) : Prop where
  n : E.n ≤ E'.n
  blk : ∀ k, k < E.n → E'.blk k = E.blk k
  sl : ∀ k, k < E.n → E'.sl k = E.sl k
  ext : ∀ k, k < E.n → E'.ext k = E.ext k
  bs : ∀ b, E.bs.B b → E'.bs.B b ∧ E'.bs.wb.heap[b]? = E.bs.wb.heap[b]?

theorem EnvLe.refl (E : Env) : EnvLe E E := ⟨Nat.le_refl _, fun _ _ => rfl, fun _ _ => rfl, fun _ _ => rfl, fun _ h => ⟨h, rfl⟩⟩
theorem EnvLe.trans {A B C : Env} (h : EnvLe A B) (k : EnvLe B C) : EnvLe A C :=
  ⟨Nat.le_trans h.n k.n, fun i hi => (k.blk i (Nat.lt_of_lt_of_le hi h.n)).trans (h.blk i hi), fun i hi => (k.sl i (Nat.lt_of_lt_of_le hi h.n)).trans (h.sl i hi), fun i hi => (k.ext i (Nat.lt_of_lt_of_le hi h.n)).trans (h.ext i hi),
    fun b hb => ⟨(k.bs b (h.bs b hb).1).1, (k.bs b (h.bs b hb).1).2.trans (h.bs b hb).2⟩⟩

/-- What doesn't hang on owned blocks holds behind any other assignment of them. -/
theorem RelC.stable {E E' : Env} (hb : ∀ b, E.bs.B b → E'.bs.B b ∧ E'.bs.wb.heap[b]? = E.bs.wb.heap[b]?) : ∀ (x : XC) (v : Value), St x → RelC E x v → RelC E' x v
  | .ep m f, v, _, h => by
    obtain ⟨ad, rfl, hc⟩ := h
    refine ⟨ad, rfl, fun j hj => ?_⟩
    obtain ⟨h1, u, h2, h3, h4⟩ := hc j hj
    exact ⟨(hb _ h1).1, u, by rw [World.cell?_of_block (w := E.bs.wb) (by rw [block_add]; exact (hb _ h1).2)]; exact h2, h3, RelC.stable hb (f j) u h3 h4⟩
  | .rs n z f, v, _, h => by
    obtain ⟨A, c, rfl, h1, h2, hc⟩ := h
    refine ⟨A, c, rfl, h1, h2, fun i hi => ?_⟩
    obtain ⟨ad, e, hcell⟩ := hc i hi
    refine ⟨ad, e, fun j hj => ?_⟩
    obtain ⟨h1, u, h2, h3, h4⟩ := hcell j hj
    exact ⟨(hb _ h1).1, u, by rw [World.cell?_of_block (w := E.bs.wb) (by rw [block_add]; exact (hb _ h1).2)]; exact h2, h3, RelC.stable hb (f i j) u h3 h4⟩
  | .ts n z f, v, _, h => by
    obtain ⟨A, rfl, h2, hc⟩ := h
    refine ⟨A, rfl, h2, fun i hi => ?_⟩
    obtain ⟨ad, e, hcell⟩ := hc i hi
    refine ⟨ad, e, fun j hj => ?_⟩
    obtain ⟨h1, u, h2, h3, h4⟩ := hcell j hj
    exact ⟨(hb _ h1).1, u, by rw [World.cell?_of_block (w := E.bs.wb) (by rw [block_add]; exact (hb _ h1).2)]; exact h2, h3, RelC.stable hb (f i j) u h3 h4⟩
  | .un, _, _, h => h
  | .il _ _, _, _, h => h
  | .i _ _, _, _, h => h
  | .bt, _, _, h => h
  | .bf, _, _, h => h
  | .b _, _, _, h => h
  | .v _, _, _, h => h
  | .p _ _, _, s, _ => s.elim
  | .ow _, _, s, _ => s.elim
  | .q _ _ _ _, _, s, _ => s.elim
  | .sw _ _ _ _, _, s, _ => s.elim
  | .sp _ _ _ _, _, s, _ => s.elim
  | .mp _, _, s, _ => s.elim
  | .fn _ _ _, _, s, _ => s.elim

/-- .. but for what abstract items own. -/
structure EnvC (E E' : Env) : Prop where
  n : E.n ≤ E'.n
  blk : ∀ k, k < E.n → E'.blk k = E.blk k
  sl : ∀ k, k < E.n → E'.sl k = E.sl k
  bs : ∀ b, E.bs.B b → E'.bs.B b ∧ E'.bs.wb.heap[b]? = E.bs.wb.heap[b]?
theorem EnvLe.c {E E' : Env} (h : EnvLe E E') : EnvC E E' := ⟨h.n, h.blk, h.sl, h.bs⟩

theorem RelC.monoC {E E' : Env} (hE : EnvC E E') : ∀ (x : XC) (v : Value), RelC E x v → RelC E' x v
  | .p it off, v, h => ⟨Nat.lt_of_lt_of_le h.1 hE.n, by rw [hE.blk it h.1]; exact h.2⟩
  | .ow it, v, h => ⟨Nat.lt_of_lt_of_le h.1 hE.n, by rw [hE.sl it h.1]; exact h.2⟩
  | .q it i z off, v, h => ⟨Nat.lt_of_lt_of_le h.1 hE.n, by rw [hE.sl it h.1]; exact h.2⟩
  | .sw it i z off, v, h => ⟨Nat.lt_of_lt_of_le h.1 hE.n, by rw [hE.sl it h.1]; exact h.2⟩
  | .sp it off n z, v, h => ⟨Nat.lt_of_lt_of_le h.1 hE.n, by rw [hE.blk it h.1]; exact h.2⟩
  | .mp it, v, h => ⟨Nat.lt_of_lt_of_le h.1 hE.n, by rw [hE.blk it h.1]; exact h.2⟩
  | .fn f n caps, v, h => by
    obtain ⟨vs, rfl, hn, hc⟩ := h
    refine ⟨vs, rfl, hn, fun j hj => ?_⟩
    obtain ⟨u, hu, hr⟩ := hc j hj
    exact ⟨u, hu, RelC.monoC hE (caps j) u hr⟩
  | .un, _, h => h
  | .il _ _, _, h => h
  | .i _ _, _, h => h
  | .bt, _, h => h
  | .bf, _, h => h
  | .b _, _, h => h
  | .v _, _, h => h
  | .ep m f, v, h => RelC.stable hE.bs (.ep m f) v trivial h
  | .rs n z f, v, h => RelC.stable hE.bs (.rs n z f) v trivial h
  | .ts n z f, v, h => RelC.stable hE.bs (.ts n z f) v trivial h

theorem RelL.monoC {E E' : Env} (hE : EnvC E E') : ∀ {l : List XC} {vs : List Value}, RelL E l vs → RelL E' l vs
  | [], [], _ => trivial
  | x :: l, v :: vs, h => ⟨RelC.monoC hE x v h.1, RelL.monoC hE h.2⟩
  | [], _ :: _, h => h.elim
  | _ :: _, [], h => h.elim
theorem RelW.monoC {E E' : Env} (hE : EnvC E E') {x : XW} {v : Value} (h : RelW E x v) : RelW E' x v := by
  cases x with
  | c x => exact RelC.monoC hE x v h
  | a l => obtain ⟨vs, rfl, hl⟩ := h; exact ⟨vs, rfl, hl.monoC hE⟩
theorem RelWs.monoC {E E' : Env} (hE : EnvC E E') : ∀ {l : List XW} {vs : List Value}, RelWs E l vs → RelWs E' l vs
  | [], [], _ => trivial
  | x :: l, v :: vs, h => ⟨h.1.monoC hE, RelWs.monoC hE h.2⟩
  | [], _ :: _, h => h.elim
  | _ :: _, [], h => h.elim
theorem RelV.monoC {E E' : Env} (hE : EnvC E E') {x : XV} {v : Value} (h : RelV E x v) : RelV E' x v := by
  cases x with
  | un => trivial
  | c x => exact RelC.monoC hE x v h
  | a l => obtain ⟨vs, rfl, hl⟩ := h; exact ⟨vs, rfl, hl.monoC hE⟩
  | t l => obtain ⟨vs, rfl, hl⟩ := h; exact ⟨vs, rfl, hl.monoC hE⟩
theorem RelTs.monoC {E E' : Env} (hE : EnvC E E') : ∀ {l : List XV} {vs : List Value}, RelTs E l vs → RelTs E' l vs
  | [], [], _ => trivial
  | x :: l, v :: vs, h => ⟨h.1.monoC hE, RelTs.monoC hE h.2⟩
  | [], _ :: _, h => h.elim
  | _ :: _, [], h => h.elim

theorem RelC.mono {E E' : Env} (hE : EnvLe E E') (x : XC) (v : Value) (h : RelC E x v) : RelC E' x v := RelC.monoC hE.c x v h
theorem RelL.mono {E E' : Env} (hE : EnvLe E E') {l : List XC} {vs : List Value} (h : RelL E l vs) : RelL E' l vs := h.monoC hE.c
theorem RelW.mono {E E' : Env} (hE : EnvLe E E') {x : XW} {v : Value} (h : RelW E x v) : RelW E' x v := h.monoC hE.c
theorem RelWs.mono {E E' : Env} (hE : EnvLe E E') {l : List XW} {vs : List Value} (h : RelWs E l vs) : RelWs E' l vs := h.monoC hE.c
theorem RelV.mono {E E' : Env} (hE : EnvLe E E') {x : XV} {v : Value} (h : RelV E x v) : RelV E' x v := h.monoC hE.c
theorem RelTs.mono {E E' : Env} (hE : EnvLe E E') {l : List XV} {vs : List Value} (h : RelTs E l vs) : RelTs E' l vs := h.monoC hE.c

theorem RelL.stable {E E' : Env} (hb : ∀ b, E.bs.B b → E'.bs.B b ∧ E'.bs.wb.heap[b]? = E.bs.wb.heap[b]?) : ∀ {l : List XC} {vs : List Value}, (∀ x ∈ l, St x) → RelL E l vs → RelL E' l vs
  | [], [], _, _ => trivial
  | x :: l, v :: vs, hs, h => ⟨RelC.stable hb x v (hs x (by simp)) h.1, RelL.stable hb (fun y hy => hs y (by simp [hy])) h.2⟩
  | [], _ :: _, _, h => h.elim
  | _ :: _, [], _, h => h.elim

/-- What of a cell is known whatever turns. -/
def stOr (x : XC) : XC := match stB x with | true => x | false => .un
theorem stOr_st (x : XC) : St (stOr x) := by
  unfold stOr; split
  · exact stB_iff (by assumption)
  · trivial
theorem stOr_rel {E E' : Env} (hb : ∀ b, E.bs.B b → E'.bs.B b ∧ E'.bs.wb.heap[b]? = E.bs.wb.heap[b]?) {x : XC} {v : Value} (h : RelC E x v) : RelC E' (stOr x) v := by
  unfold stOr; split
  · rename_i e; exact RelC.stable hb x v (stB_iff e) h
  · exact h.one
theorem stOr_rels {E E' : Env} (hb : ∀ b, E.bs.B b → E'.bs.B b ∧ E'.bs.wb.heap[b]? = E.bs.wb.heap[b]?) : ∀ {l : List XC} {vs : List Value}, RelL E l vs → RelL E' (l.map stOr) vs
  | [], [], _ => trivial
  | _ :: _, _ :: _, h => ⟨stOr_rel hb h.1, stOr_rels hb h.2⟩
  | [], _ :: _, h => h.elim
  | _ :: _, [], h => h.elim
theorem stOr_sts (l : List XC) : ∀ x ∈ l.map stOr, St x := fun x hx => by
  obtain ⟨y, _, rfl⟩ := List.mem_map.1 hx
  exact stOr_st y

/-- Cells behind which nothing is owned. -/
def StL (l : List XC) : AbsL where
  is bs vs _ _ := (∀ x ∈ l, St x) ∧ ∃ E : Env, E.bs = bs ∧ RelL E l vs
  one h := by obtain ⟨_, E, _, hr⟩ := h; exact hr.all
  st hb _ h := by
    obtain ⟨hs, E, rfl, hr⟩ := h
    exact ⟨hs, { E with bs := _ }, rfl, RelL.stable (E := E) hb hs hr⟩
  pk := l.map stOr
  pkSt := stOr_sts l
  pkOk h E hb := by
    obtain ⟨hs, E0, rfl, hr⟩ := h
    exact stOr_rels (E := E0) hb hr
  fz := l.map stOr
  fzSt := stOr_sts l
  fzOk h E hb _ := by
    obtain ⟨hs, E0, rfl, hr⟩ := h
    exact stOr_rels (E := E0) hb hr

section
variable {E : Env} {h : List It} {w0 : Org} {w : World} {F : Nat → Prop}

theorem Heap.blkLt (hp : Heap w0 F E h w) {k : Nat} {x : It} (hx : h[k]? = some x) : k < E.n := by rw [hp.n]; exact (List.getElem?_eq_some_iff.1 hx).1

theorem ownsRow_block {w w' : World} {base e z n : Nat} {v : Value} {ys : List Value} (ho : w.ownsRow base e z v n ys) (hb : ∀ b, v.ownBlock = some b → w'.heap[b]? = w.heap[b]?) : w'.ownsRow base e z v n ys := by
  obtain ⟨hl, ho⟩ := ho
  refine ⟨hl, ?_⟩
  rcases ho with ho | ⟨g, cap, cur, hsl, h0, hg, hrest⟩
  · exact .inl ho
  · exact .inr ⟨g, cap, cur, hsl, h0, (hb g (by simp [hsl, Value.ownBlock])).trans hg, hrest⟩
theorem PRow.of_block {w' : World} {k e z : Nat} {as : List AbsL} {o : Option (Nat × List XC)} {ys : List Value} {Ss : Nat → Nat → Prop} (hp : PRow E w k e z as o ys Ss) (hb : ∀ b, E.ext k b → w'.heap[b]? = w.heap[b]?) : PRow E w' k e z as o ys Ss :=
  ⟨ownsRow_block hp.row fun b h => hb b (hp.blk b h), fun i a ha ho => a.st (fun _ h => ⟨h, rfl⟩) (fun b h => hb b (hp.own i b h).1) (hp.el i a ha ho), hp.op, hp.sep, hp.own, hp.blk⟩
theorem PRow.mono {E' : Env} (hE : EnvLe E E') {k : Nat} (hk : k < E.n) {e z : Nat} {as : List AbsL} {o : Option (Nat × List XC)} {ys : List Value} {Ss : Nat → Nat → Prop} (hp : PRow E w k e z as o ys Ss) : PRow E' w k e z as o ys Ss := by
  obtain ⟨h1, h2, h3, h4, h5, h6⟩ := hp
  refine ⟨by rw [hE.sl k hk]; exact h1, fun i a ha ho => a.st hE.bs (fun _ _ => rfl) (h2 i a ha ho), fun i cs h => ⟨(h3 i cs h).1, (h3 i cs h).2.1, (h3 i cs h).2.2.mono hE⟩, h4, by rw [hE.sl k hk, hE.ext k hk]; exact h5, by rw [hE.sl k hk, hE.ext k hk]; exact h6⟩

/-- An item's block is all that it hangs on. -/
theorem ItOk.of_block {w' : World} {k : Nat} {x : It} (hi : ItOk E w k x) (hb : ∀ b, Ow E k x b → w'.heap[b]? = w.heap[b]?) : ItOk E w' k x := by
  cases x with
  | dead => trivial
  | cells ty cs =>
    obtain ⟨vs, hv, hr⟩ := hi
    exact ⟨vs, (hb _ rfl).trans hv, hr⟩
  | row e z xs =>
    obtain ⟨ys, ⟨hl, ho⟩, hr⟩ := hi
    refine ⟨ys, ⟨hl, ?_⟩, hr⟩
    rcases ho with ho | ⟨g, cap, cur, hsl, h0, hg, hrest⟩
    · exact .inl ho
    · exact .inr ⟨g, cap, cur, hsl, h0, (hb g (by simp [Ow, hsl, Value.ownBlock])).trans hg, hrest⟩
  | obj Φ =>
    obtain ⟨o, ho, hr⟩ := hi
    exact ⟨o, (hb _ rfl).trans ho, hr⟩
  | abs A => exact A.st (fun b h => ⟨h, rfl⟩) hb hi
  | held vs xs => exact hi
  | prow e z as o => obtain ⟨ys, Ss, h1⟩ := hi; exact ⟨ys, Ss, h1.of_block hb⟩

theorem ItOk.mono {E' : Env} (hE : EnvLe E E') {k : Nat} (hk : k < E.n) {x : It} (hi : ItOk E w k x) : ItOk E' w k x := by
  cases x with
  | dead => trivial
  | cells ty cs =>
    obtain ⟨vs, hv, hr⟩ := hi
    exact ⟨vs, by rw [hE.blk k hk]; exact hv, hr.mono hE⟩
  | row e z xs =>
    obtain ⟨ys, ho, hr, hl⟩ := hi
    exact ⟨ys, by rw [hE.sl k hk]; exact ho, hr.mono hE, hl⟩
  | obj Φ =>
    obtain ⟨o, ho, hr⟩ := hi
    exact ⟨o, by rw [hE.blk k hk]; exact ho, hr⟩
  | abs A =>
    have h1 : A.is E'.bs (E.sl k) (E.ext k) w := A.st hE.bs (fun _ _ => rfl) hi
    show A.is E'.bs (E'.sl k) (E'.ext k) w
    rw [hE.sl k hk, hE.ext k hk]; exact h1
  | held vs xs => exact RelTs.mono hE hi
  | prow e z as o => obtain ⟨ys, Ss, h1⟩ := hi; exact ⟨ys, Ss, h1.mono hE hk⟩

theorem Ow_mono {E' : Env} (hE : EnvLe E E') {k : Nat} (hk : k < E.n) (x : It) : Ow E' k x = Ow E k x := by
  funext b; cases x <;> simp [Ow, hE.blk k hk, hE.sl k hk, hE.ext k hk]

/-- One item more. -/
def Env.push (E : Env) (b : Nat) (v : Value) (S : Nat → Prop := fun _ => False) : Env :=
  { E with n := E.n + 1, blk := fun k => if k = E.n then b else E.blk k, sl := fun k => if k = E.n then v else E.sl k, ext := fun k => if k = E.n then S else E.ext k }
theorem Env.push_le (E : Env) (b : Nat) (v : Value) (S : Nat → Prop := fun _ => False) : EnvLe E (E.push b v S) :=
  ⟨Nat.le_succ _, fun k hk => by simp [Env.push, Nat.ne_of_lt hk], fun k hk => by simp [Env.push, Nat.ne_of_lt hk], fun k hk => by simp [Env.push, Nat.ne_of_lt hk], fun _ h => ⟨h, rfl⟩⟩

theorem Heap.push (hp : Heap w0 F E h w) {w' : World} {x : It} {b : Nat} {v : Value} {S : Nat → Prop} (hw : Fr (fun _ => False) w w') (hi : ItOk (E.push b v S) w' E.n x)
    (hb : ∀ c, Ow (E.push b v S) E.n x c → w.heap.size ≤ c ∧ c < w'.heap.size) : Heap w0 F (E.push b v S) (h ++ [x]) w' := by
  have hE := Env.push_le E b v S
  have keep : ∀ k, k < w.heap.size → w'.heap[k]? = w.heap[k]? := fun k hk => hw.block k hk (fun x => x)
  have at_ : ∀ {k : Nat} {y : It}, (h ++ [x])[k]? = some y → (k < E.n ∧ h[k]? = some y) ∨ (k = E.n ∧ y = x) := by
    intro k y hy
    rw [List.getElem?_append] at hy
    split at hy
    · rename_i hk; exact .inl ⟨by rw [hp.n]; exact hk, hy⟩
    · rename_i hk
      have hk1 : k - h.length < 1 := by simpa using (List.getElem?_eq_some_iff.1 hy).1
      have hk2 : k = h.length := by omega
      subst hk2
      simp at hy
      exact .inr ⟨hp.n.symm, hy.symm⟩
  refine ⟨?_, hp.le, hp.nb, by simp [Env.push, hp.n], ?_, ?_, ?_, ?_⟩
  · intro k hk
    have h1 := hp.bs k hk
    exact ⟨Nat.lt_of_lt_of_le h1.1 hw.size, (keep k h1.1).trans h1.2⟩
  · intro k y hy
    rcases at_ hy with ⟨hk, hy⟩ | ⟨rfl, rfl⟩
    · refine ItOk.of_block ((hp.ok k y hy).mono hE hk) (fun c hc => ?_)
      rw [Ow_mono hE hk] at hc
      exact keep c (hp.own k y c hy hc).1
    · exact hi
  · intro k y c hy hc
    rcases at_ hy with ⟨hk, hy⟩ | ⟨rfl, rfl⟩
    · rw [Ow_mono hE hk] at hc
      have h1 := hp.own k y c hy hc
      exact ⟨Nat.lt_of_lt_of_le h1.1 hw.size, h1.2⟩
    · have h1 := hb c hc
      refine ⟨h1.2, fun hB => ?_, .inl (Nat.le_trans hp.fr.size h1.1)⟩
      have := (hp.bs c hB).1
      omega
  · intro j k y y' c hy hy' hc hc'
    rcases at_ hy with ⟨hj, h1⟩ | ⟨e1, e2⟩ <;> rcases at_ hy' with ⟨hk, h2⟩ | ⟨e3, e4⟩
    · rw [Ow_mono hE hj] at hc
      rw [Ow_mono hE hk] at hc'
      exact hp.sep j k y y' c h1 h2 hc hc'
    · rw [Ow_mono hE hj] at hc
      rw [e3, e4] at hc'
      have := (hp.own j y c h1 hc).1
      have := (hb c hc').1
      omega
    · rw [Ow_mono hE hk] at hc'
      rw [e1, e2] at hc
      have := (hp.own k y' c h2 hc').1
      have := (hb c hc).1
      omega
    · rw [e1, e3]
  · exact hp.fr.trans ⟨hw.os, hw.tape, hw.output, hw.size, fun k hk _ => keep k hk⟩

theorem Fr.alloc (w : World) (o : Obj) : Fr (fun _ => False) w (w.alloc o) := ⟨rfl, rfl, rfl, by simp, fun k hk _ => Below.heap_alloc w o k hk⟩

/-- A new block of known cells. -/
theorem Heap.alloc (hp : Heap w0 F E h w) (t : TypeId) {cs : List XC} {vs : Array Value} (hr : RelL E cs vs.toList) :
    Heap w0 F (E.push w.heap.size undef) (h ++ [.cells t cs]) (w.alloc (.cells vs t)) := by
  refine hp.push (Fr.alloc w _) ⟨vs, ?_, hr.mono (Env.push_le _ _ _)⟩ (fun c hc => ?_)
  · simp only [Env.push, if_pos]; exact heap_alloc_new w _
  · simp only [Ow, Env.push, if_pos] at hc
    subst hc
    exact ⟨Nat.le_refl _, by simp⟩

/-- An item says something else of the same block. -/
theorem Heap.put (hp : Heap w0 F E h w) {w' : World} {it b : Nat} {x y : It} (hx : h[it]? = some x) (hb : Ow E it x b) (hby : ∀ c, Ow E it y c → c = b) (hi : ItOk E w' it y)
    (hs : w'.heap.size = w.heap.size) (ho : w'.os = w.os) (ht : w'.tape = w.tape) (hu : w'.output = w.output) (hk : ∀ k, k ≠ b → w'.heap[k]? = w.heap[k]?) : Heap w0 F E (h.set it y) w' := by
  have hlt := (List.getElem?_eq_some_iff.1 hx).1
  have at_ : ∀ {k : Nat} {z : It}, (h.set it y)[k]? = some z → (k ≠ it ∧ h[k]? = some z) ∨ (k = it ∧ z = y) := by
    intro k z hz
    by_cases he : it = k
    · subst he; rw [List.getElem?_set_self hlt] at hz; exact .inr ⟨rfl, by simpa using hz.symm⟩
    · rw [List.getElem?_set_ne he] at hz; exact .inl ⟨fun e => he e.symm, hz⟩
  have hown := hp.own it x b hx hb
  refine ⟨?_, hp.le, hp.nb, by simpa using hp.n, ?_, ?_, ?_, ?_⟩
  · intro k hB
    have h1 := hp.bs k hB
    exact ⟨by rw [hs]; exact h1.1, (hk k (fun e => hown.2.1 (e ▸ hB))).trans h1.2⟩
  · intro k z hz
    rcases at_ hz with ⟨hne, hz⟩ | ⟨rfl, rfl⟩
    · exact (hp.ok k z hz).of_block fun c hc => hk c fun e => hne (hp.sep k it z x b hz hx (e ▸ hc) hb)
    · exact hi
  · intro k z c hz hc
    rw [hs]
    rcases at_ hz with ⟨hne, hz⟩ | ⟨rfl, rfl⟩
    · exact hp.own k z c hz hc
    · rw [hby c hc]; exact hown
  · intro j k z z' c hz hz' hc hc'
    rcases at_ hz with ⟨hj, h1⟩ | ⟨e1, e2⟩ <;> rcases at_ hz' with ⟨hk', h2⟩ | ⟨e3, e4⟩
    · exact hp.sep j k z z' c h1 h2 hc hc'
    · rw [e3, e4] at hc'
      rw [e3]
      exact hp.sep j it z x c h1 hx hc (by rw [hby c hc']; exact hb)
    · rw [e1, e2] at hc
      rw [e1]
      exact hp.sep it k x z' c hx h2 (by rw [hby c hc]; exact hb) hc'
    · rw [e1, e3]
  · refine ⟨ho.trans hp.fr.os, ht.trans hp.fr.tape, hu.trans hp.fr.output, by rw [hs]; exact hp.fr.size, fun k hk' hF => ?_⟩
    refine (hk k fun e => ?_).trans (hp.fr.block k hk' hF)
    subst e
    rcases hown.2.2 with h1 | h1
    · omega
    · exact hF h1

/-- An item says something else of what it owns. -/
theorem Heap.putTo (hp : Heap w0 F E h w) {w' : World} {it : Nat} {x y : It} (hx : h[it]? = some x) (hby : ∀ c, Ow E it y c → Ow E it x c) (hi : ItOk E w' it y)
    (hs : w'.heap.size = w.heap.size) (ho : w'.os = w.os) (ht : w'.tape = w.tape) (hu : w'.output = w.output) (hk : ∀ k, ¬ Ow E it x k → w'.heap[k]? = w.heap[k]?) : Heap w0 F E (h.set it y) w' := by
  have hlt := (List.getElem?_eq_some_iff.1 hx).1
  have at_ : ∀ {k : Nat} {z : It}, (h.set it y)[k]? = some z → (k ≠ it ∧ h[k]? = some z) ∨ (k = it ∧ z = y) := by
    intro k z hz
    by_cases he : it = k
    · subst he; rw [List.getElem?_set_self hlt] at hz; exact .inr ⟨rfl, by simpa using hz.symm⟩
    · rw [List.getElem?_set_ne he] at hz; exact .inl ⟨fun e => he e.symm, hz⟩
  refine ⟨?_, hp.le, hp.nb, by simpa using hp.n, ?_, ?_, ?_, ?_⟩
  · intro k hB
    have h1 := hp.bs k hB
    exact ⟨by rw [hs]; exact h1.1, (hk k (fun e => (hp.own it x k hx e).2.1 hB)).trans h1.2⟩
  · intro k z hz
    rcases at_ hz with ⟨hne, hz⟩ | ⟨rfl, rfl⟩
    · exact (hp.ok k z hz).of_block fun c hc => hk c fun e => hne (hp.sep k it z x c hz hx hc e)
    · exact hi
  · intro k z c hz hc
    rw [hs]
    rcases at_ hz with ⟨hne, hz⟩ | ⟨rfl, rfl⟩
    · exact hp.own k z c hz hc
    · exact hp.own k x c hx (hby c hc)
  · intro j k z z' c hz hz' hc hc'
    rcases at_ hz with ⟨hj, h1⟩ | ⟨e1, e2⟩ <;> rcases at_ hz' with ⟨hk', h2⟩ | ⟨e3, e4⟩
    · exact hp.sep j k z z' c h1 h2 hc hc'
    · rw [e3, e4] at hc'
      rw [e3]
      exact hp.sep j it z x c h1 hx hc (hby c hc')
    · rw [e1, e2] at hc
      rw [e1]
      exact hp.sep it k x z' c hx h2 (hby c hc) hc'
    · rw [e1, e3]
  · refine ⟨ho.trans hp.fr.os, ht.trans hp.fr.tape, hu.trans hp.fr.output, by rw [hs]; exact hp.fr.size, fun k hk' hF => ?_⟩
    refine (hk k fun e => ?_).trans (hp.fr.block k hk' hF)
    rcases (hp.own it x k hx e).2.2 with h1 | h1
    · omega
    · exact hF h1
end
end Go.Eng

/- The engine, part H: append, store, new memory; every operation that writes, under one name; nothing of any program is proved here. -/
namespace Go.Eng
open Go Go.RowKit
set_option linter.unusedSimpArgs false
set_option linter.unusedVariables false

/-! ### what an old slice value says is forgotten when its row has turned -/
def isFix : XC → Bool
  | .ow _ | .q _ _ _ _ | .sw _ _ _ _ | .fn _ _ _ => false
  | _ => true
def allFix : Nat → (Nat → XC) → Bool
  | 0, _ => true
  | n + 1, c => (match isFix (c n) with | true => allFix n c | false => false)
def killC (it : Nat) (x : XC) : XC :=
  match x with
  | .ow k => (match Nat.beq k it with | true => .un | false => .ow k)
  | .q k a b c => (match Nat.beq k it with | true => .un | false => .q k a b c)
  | .sw k a b c => (match Nat.beq k it with | true => .un | false => .sw k a b c)
  | .fn f n caps => (match allFix n caps with | true => .fn f n caps | false => .un)
  | x => x
def killL (it : Nat) : List XC → (List XC → Prop) → Prop
  | [], k => k []
  | x :: l, k => forceC (killC it x) fun x => killL it l fun l => k (x :: l)
theorem killL_eq (it : Nat) : ∀ (l : List XC) (k : List XC → Prop), killL it l k = k (l.map (killC it))
  | [], _ => rfl
  | x :: l, k => by simp only [killL, forceC_eq, killL_eq it l, List.map_cons]
def killV (it : Nat) (x : XV) (k : XV → Prop) : Prop :=
  match x with
  | .c x => forceC (killC it x) fun x => k (.c x)
  | .a l => killL it l fun l => k (.a l)
  | .t _ => k .un
  | .un => k .un
def killTs (it : Nat) : List XV → (List XV → Prop) → Prop
  | [], k => k []
  | x :: l, k => killV it x fun x => killTs it l fun l => k (x :: l)
def killH (it : Nat) : List It → (List It → Prop) → Prop
  | [], k => k []
  | x :: l, k => (match x with
    | .cells ty cs => killL it cs fun cs => killH it l fun l => k (.cells ty cs :: l)
    | .held vs xs => killTs it xs fun xs => killH it l fun l => k (.held vs xs :: l)
    | .prow e z as (some (i, cs)) => killL it cs fun cs => killH it l fun l => k (.prow e z as (some (i, cs)) :: l)
    | x => killH it l fun l => k (x :: l))
def setH : List It → Nat → It → (List It → Prop) → Prop
  | [], _, _, k => k []
  | _ :: l, 0, x, k => k (x :: l)
  | a :: l, n + 1, x, k => setH l n x fun l => k (a :: l)
theorem setH_eq : ∀ (l : List It) (n : Nat) (x : It) (k : List It → Prop), setH l n x k = k (l.set n x)
  | [], _, _, _ => rfl
  | _ :: _, 0, _, _ => rfl
  | a :: l, n + 1, x, k => by simp only [setH, setH_eq l n, List.set_cons_succ]
/-- The next number, as a literal. -/
def sucK (n : Nat) (k : Nat → Prop) : Prop :=
  match n with
  | 0 => k 1
  | 1 => k 2
  | 2 => k 3
  | 3 => k 4
  | 4 => k 5
  | 5 => k 6
  | 6 => k 7
  | 7 => k 8
  | 8 => k 9
  | 9 => k 10
  | 10 => k 11
  | 11 => k 12
  | 12 => k 13
  | 13 => k 14
  | 14 => k 15
  | 15 => k 16
  | 16 => k 17
  | 17 => k 18
  | 18 => k 19
  | 19 => k 20
  | 20 => k 21
  | 21 => k 22
  | 22 => k 23
  | 23 => k 24
  | 24 => k 25
  | 25 => k 26
  | 26 => k 27
  | 27 => k 28
  | 28 => k 29
  | 29 => k 30
  | 30 => k 31
  | 31 => k 32
  | 32 => k 33
  | 33 => k 34
  | 34 => k 35
  | 35 => k 36
  | 36 => k 37
  | 37 => k 38
  | 38 => k 39
  | 39 => k 40
  | 40 => k 41
  | 41 => k 42
  | 42 => k 43
  | 43 => k 44
  | 44 => k 45
  | 45 => k 46
  | 46 => k 47
  | 47 => k 48
  | 48 => k 49
  | 49 => k 50
  | 50 => k 51
  | 51 => k 52
  | 52 => k 53
  | 53 => k 54
  | 54 => k 55
  | 55 => k 56
  | 56 => k 57
  | 57 => k 58
  | 58 => k 59
  | 59 => k 60
  | 60 => k 61
  | 61 => k 62
  | 62 => k 63
  | 63 => k 64
  | 64 => k 65
  | 65 => k 66
  | 66 => k 67
  | 67 => k 68
  | 68 => k 69
  | 69 => k 70
  | 70 => k 71
  | 71 => k 72
  | 72 => k 73
  | 73 => k 74
  | 74 => k 75
  | 75 => k 76
  | 76 => k 77
  | 77 => k 78
  | 78 => k 79
  | 79 => k 80
  | n => k (n + 1)
theorem sucK_eq (n : Nat) (k : Nat → Prop) : sucK n k = k (n + 1) := by unfold sucK; split <;> rfl
def lenK : List It → (Nat → Prop) → Prop
  | [], k => k 0
  | _ :: l, k => lenK l fun n => sucK n k
theorem lenK_eq : ∀ (l : List It) (k : Nat → Prop), lenK l k = k l.length
  | [], _ => rfl
  | _ :: l, k => by simp only [lenK, lenK_eq l, sucK_eq, List.length_cons]
def snocH : List It → It → (List It → Prop) → Prop
  | [], x, k => k [x]
  | a :: l, x, k => snocH l x fun l => k (a :: l)
theorem snocH_eq : ∀ (l : List It) (x : It) (k : List It → Prop), snocH l x k = k (l ++ [x])
  | [], _, _ => rfl
  | a :: l, x, k => by simp only [snocH, snocH_eq l, List.cons_append]

/-- Only the slice of one item has turned. -/
structure Turn (E E' : Env) (it : Nat) : Prop where
  n : E'.n = E.n
  bs : E'.bs = E.bs
  blk : E'.blk = E.blk
  ext : E'.ext = E.ext
  sl : ∀ k, k ≠ it → E'.sl k = E.sl k

theorem beq_ne {a b : Nat} (h : Nat.beq a b = false) : a ≠ b := fun e => by rw [e] at h; simp at h

theorem killFix {E E' : Env} {it : Nat} (ht : Turn E E' it) : ∀ (x : XC) (v : Value), isFix x = true → RelC E x v → RelC E' x v := by
  intro x v hf h
  cases x with
  | ow => simp [isFix] at hf
  | q => simp [isFix] at hf
  | sw => simp [isFix] at hf
  | fn => simp [isFix] at hf
  | p it off => exact ⟨by rw [ht.n]; exact h.1, by rw [ht.blk]; exact h.2⟩
  | sp it off n z => exact ⟨by rw [ht.n]; exact h.1, by rw [ht.blk]; exact h.2⟩
  | mp it => exact ⟨by rw [ht.n]; exact h.1, by rw [ht.blk]; exact h.2⟩
  | un => exact h
  | il => exact h
  | i => exact h
  | bt => exact h
  | bf => exact h
  | b => exact h
  | v => exact h
  | ep => exact RelC.stable (by rw [ht.bs]; exact fun _ hb => ⟨hb, rfl⟩) _ _ trivial h
  | rs => exact RelC.stable (by rw [ht.bs]; exact fun _ hb => ⟨hb, rfl⟩) _ _ trivial h
  | ts => exact RelC.stable (by rw [ht.bs]; exact fun _ hb => ⟨hb, rfl⟩) _ _ trivial h

theorem allFix_spec : ∀ (n : Nat) (c : Nat → XC), allFix n c = true → ∀ j, j < n → isFix (c j) = true
  | n + 1, c, h, j, hj => by
    unfold allFix at h
    split at h
    · rename_i h1
      by_cases e : j = n
      · subst e; exact h1
      · exact allFix_spec n c h j (by omega)
    · cases h

theorem killC_rel {E E' : Env} {it : Nat} (ht : Turn E E' it) {x : XC} {v : Value} (h : RelC E x v) : RelC E' (killC it x) v := by
  cases x with
  | ow k =>
    simp only [killC]
    split
    · exact h.one
    · rename_i hb
      exact ⟨by rw [ht.n]; exact h.1, by rw [ht.sl k (beq_ne hb)]; exact h.2⟩
  | q k a b c =>
    simp only [killC]
    split
    · exact h.one
    · rename_i hb
      exact ⟨by rw [ht.n]; exact h.1, by rw [ht.sl k (beq_ne hb)]; exact h.2⟩
  | sw k a b c =>
    simp only [killC]
    split
    · exact h.one
    · rename_i hb
      exact ⟨by rw [ht.n]; exact h.1, by rw [ht.sl k (beq_ne hb)]; exact h.2⟩
  | fn f n caps =>
    simp only [killC]
    split
    · rename_i ha
      obtain ⟨vs, rfl, hn, hc⟩ := h
      refine ⟨vs, rfl, hn, fun j hj => ?_⟩
      obtain ⟨u, hu, hr⟩ := hc j hj
      exact ⟨u, hu, killFix ht _ _ (allFix_spec n caps ha j hj) hr⟩
    · exact h.one
  | un => exact killFix ht _ _ rfl h
  | il => exact killFix ht _ _ rfl h
  | i => exact killFix ht _ _ rfl h
  | bt => exact killFix ht _ _ rfl h
  | bf => exact killFix ht _ _ rfl h
  | b => exact killFix ht _ _ rfl h
  | p => exact killFix ht _ _ rfl h
  | ep => exact killFix ht _ _ rfl h
  | rs => exact killFix ht _ _ rfl h
  | ts => exact killFix ht _ _ rfl h
  | sp => exact killFix ht _ _ rfl h
  | mp => exact killFix ht _ _ rfl h
  | v => exact killFix ht _ _ rfl h

theorem killL_rel {E E' : Env} {it : Nat} (ht : Turn E E' it) : ∀ {l : List XC} {vs : List Value}, RelL E l vs → RelL E' (l.map (killC it)) vs
  | [], [], _ => trivial
  | _ :: _, _ :: _, h => ⟨killC_rel ht h.1, killL_rel ht h.2⟩
  | [], _ :: _, h => h.elim
  | _ :: _, [], h => h.elim

theorem killV_rel {E E' : Env} {it : Nat} (ht : Turn E E' it) {x : XV} {v : Value} {k : XV → Prop} (hk : killV it x k) (h : RelV E x v) : ∃ x', k x' ∧ RelV E' x' v := by
  unfold killV at hk
  split at hk
  · rw [forceC_eq] at hk; exact ⟨_, hk, killC_rel ht h⟩
  · rw [killL_eq] at hk
    obtain ⟨vs, rfl, hl⟩ := h
    exact ⟨_, hk, vs, rfl, killL_rel ht hl⟩
  · exact ⟨_, hk, trivial⟩
  · exact ⟨_, hk, trivial⟩

theorem killTs_rel {E E' : Env} {it : Nat} (ht : Turn E E' it) : ∀ {ts : List XV} {vs : List Value} {k : List XV → Prop}, killTs it ts k → RelTs E ts vs → ∃ ts', k ts' ∧ RelTs E' ts' vs
  | [], [], k, hk, _ => ⟨[], hk, trivial⟩
  | x :: ts, v :: vs, k, hk, h => by
    unfold killTs at hk
    obtain ⟨x', hk', hx⟩ := killV_rel ht hk h.1
    obtain ⟨ts', hk'', hts⟩ := killTs_rel ht hk' h.2
    exact ⟨_, hk'', hx, hts⟩
  | [], _ :: _, _, _, h => h.elim
  | _ :: _, [], _, _, h => h.elim

def killVf (it : Nat) : XV → XV
  | .c x => .c (killC it x)
  | .a l => .a (l.map (killC it))
  | _ => .un
theorem killV_eq (it : Nat) (x : XV) (k : XV → Prop) : killV it x k = k (killVf it x) := by
  cases x <;> simp only [killV, forceC_eq, killL_eq, killVf]
theorem killTs_eq (it : Nat) : ∀ (l : List XV) (k : List XV → Prop), killTs it l k = k (l.map (killVf it))
  | [], _ => rfl
  | x :: l, k => by simp only [killTs, killV_eq, killTs_eq it l, List.map_cons]
theorem killVf_rels {E E' : Env} {it : Nat} (ht : Turn E E' it) {ts : List XV} {vs : List Value} (h : RelTs E ts vs) : RelTs E' (ts.map (killVf it)) vs := by
  obtain ⟨ts', hk, hr⟩ := killTs_rel (k := fun l => l = ts.map (killVf it)) ht (by rw [killTs_eq]) h
  exact hk ▸ hr
def killIt (it : Nat) : It → It
  | .cells ty cs => .cells ty (cs.map (killC it))
  | .held vs xs => .held vs (xs.map (killVf it))
  | .prow e z as (some (i, cs)) => .prow e z as (some (i, cs.map (killC it)))
  | x => x
theorem killH_eq (it : Nat) : ∀ (h : List It) (k : List It → Prop), killH it h k = k (h.map (killIt it))
  | [], _ => rfl
  | .prow e z as (some (i, cs)) :: l, k => by simp only [killH, killL_eq, killH_eq it l, List.map_cons, killIt]
  | .prow e z as none :: l, k => by simp only [killH, killH_eq it l, List.map_cons, killIt]
  | .dead :: l, k => by simp only [killH, killH_eq it l, List.map_cons, killIt]
  | .cells _ _ :: l, k => by simp only [killH, killL_eq, killH_eq it l, List.map_cons, killIt]
  | .row _ _ _ :: l, k => by simp only [killH, killH_eq it l, List.map_cons, killIt]
  | .obj _ :: l, k => by simp only [killH, killH_eq it l, List.map_cons, killIt]
  | .abs _ :: l, k => by simp only [killH, killH_eq it l, List.map_cons, killIt]
  | .held _ _ :: l, k => by simp only [killH, killTs_eq, killH_eq it l, List.map_cons, killIt]

theorem RelL.ofSt {E E' : Env} (hb : E'.bs = E.bs) : ∀ {l : List XC} {vs : List Value}, (∀ x ∈ l, St x) → RelL E l vs → RelL E' l vs
  | [], [], _, _ => trivial
  | x :: l, v :: vs, hs, h => ⟨RelC.stable (by rw [hb]; exact fun _ hb => ⟨hb, rfl⟩) x v (hs x (by simp)) h.1, RelL.ofSt hb (fun y hy => hs y (by simp [hy])) h.2⟩
  | [], _ :: _, _, h => h.elim
  | _ :: _, [], _, h => h.elim

section
variable {P : Program} {T : Tab} (hT : TabOk P T) {E : Env} {h : List It} {w0 : Org} {w : World} {F : Nat → Prop}

theorem Ow_kill {E E' : Env} {it k : Nat} (x : It) (hb : E'.blk = E.blk) (he : E'.ext k = E.ext k) (hs : E'.sl k = E.sl k) : Ow E' k (killIt it x) = Ow E k x := by
  funext b
  cases x with
  | prow e z as o => cases o <;> simp [Ow, killIt, he]
  | _ => simp [Ow, killIt, hb, he, hs]
/-- An item's memory has turned, perhaps lies elsewhere: what it owned, or new blocks, it owns now. -/
theorem Heap.turnTo (hp : Heap w0 F E h w) {w' : World} {it : Nat} {x y : It} {E' : Env} (hx : h[it]? = some x) (hsz : w.heap.size ≤ w'.heap.size) (ho : w'.os = w.os) (ht : w'.tape = w.tape) (hu : w'.output = w.output)
    (hk : ∀ b, b < w.heap.size → ¬ Ow E it x b → w'.heap[b]? = w.heap[b]?) (hn : E'.n = E.n) (hbs : E'.bs = E.bs) (hbl : E'.blk = E.blk) (hext : ∀ k, k ≠ it → E'.ext k = E.ext k) (hsl : ∀ k, k ≠ it → E'.sl k = E.sl k)
    (hown : ∀ b, Ow E' it y b → (Ow E it x b ∨ w.heap.size ≤ b) ∧ b < w'.heap.size) (hi : ItOk E' w' it y) : Heap w0 F E' ((h.map (killIt it)).set it y) w' := by
  have hltit := (List.getElem?_eq_some_iff.1 hx).1
  let Ek : Env := { E' with ext := E.ext }
  have htk : Turn E Ek it := ⟨hn, hbs, hbl, rfl, hsl⟩
  have hc : EnvC Ek E' := ⟨Nat.le_refl _, fun _ _ => rfl, fun _ _ => rfl, fun _ h => ⟨h, rfl⟩⟩
  have at_ : ∀ {k : Nat} {z : It}, ((h.map (killIt it)).set it y)[k]? = some z → (k ≠ it ∧ ∃ x, h[k]? = some x ∧ z = killIt it x) ∨ (k = it ∧ z = y) := by
    intro k z hz
    by_cases he : it = k
    · subst he; rw [List.getElem?_set_self (by simpa using hltit)] at hz; exact .inr ⟨rfl, by simpa using hz.symm⟩
    · rw [List.getElem?_set_ne he, List.getElem?_map, Option.map_eq_some_iff] at hz
      obtain ⟨x, hx, rfl⟩ := hz
      exact .inl ⟨fun e => he e.symm, x, hx, rfl⟩
  have owk : ∀ {k : Nat} (x : It), k ≠ it → Ow E' k (killIt it x) = Ow E k x := fun x hk => Ow_kill x hbl (hext _ hk) (hsl _ hk)
  have keep : ∀ {k b : Nat} {x' : It}, k ≠ it → h[k]? = some x' → Ow E k x' b → w'.heap[b]? = w.heap[b]? := fun hk' hx' hb => hk _ (hp.own _ _ _ hx' hb).1 fun hb' => hk' (hp.sep _ _ _ _ _ hx' hx hb hb')
  refine ⟨?_, ?_, ?_, by simp [hn, hp.n], ?_, ?_, ?_, ?_⟩
  · rw [hbs]
    intro k hB
    have h1 := hp.bs k hB
    exact ⟨Nat.lt_of_lt_of_le h1.1 hsz, (hk k h1.1 fun hb => (hp.own it x k hx hb).2.1 hB).trans h1.2⟩
  · rw [hbs]; exact hp.le
  · rw [hbs]; exact hp.nb
  · intro k z hz
    rcases at_ hz with ⟨hne, x', hx', rfl⟩ | ⟨rfl, rfl⟩
    · have h1 := (hp.ok k x' hx').of_block (w' := w') (fun b hb => keep hne hx' hb)
      cases x' with
      | dead => trivial
      | cells ty cs =>
        obtain ⟨vs, hb, hrel⟩ := h1
        exact ⟨vs, by rw [hbl]; exact hb, (killL_rel htk hrel).monoC hc⟩
      | row e2 z2 xs2 =>
        obtain ⟨us, ho2, hr2, hl2, hs2⟩ := h1
        exact ⟨us, by rw [hsl k hne]; exact ho2, RelL.ofSt (E := E) (E' := E') hbs hs2 hr2, hl2, hs2⟩
      | obj Φ =>
        obtain ⟨o, h2, h3⟩ := h1
        exact ⟨o, by rw [hbl]; exact h2, h3⟩
      | abs A =>
        show A.is E'.bs (E'.sl k) (E'.ext k) w'
        rw [hsl k hne, hext k hne, hbs]; exact h1
      | held vs xs => exact (killVf_rels htk h1).monoC hc
      | prow e2 z2 as o =>
        obtain ⟨ys, Ss, h2⟩ := h1
        have key : ∀ o', (∀ i cs, o' = some (i, cs) → ∃ cs0, o = some (i, cs0) ∧ cs = cs0.map (killC it)) → (o' = none → o = none) → PRow E' w' k e2 z2 as o' ys Ss := fun o' ho1 ho2 => by
          have hel : ∀ (i : Nat) (a : AbsL), as[i]? = some a → (∀ cs, o' ≠ some (i, cs)) → a.is E'.bs ((ys.drop (i * z2)).take z2) (Ss i) w' := fun i a ha hno => by
            rw [hbs]
            refine h2.el i a ha fun cs e => ?_
            cases ho' : o' with
            | none => rw [ho2 ho'] at e; cases e
            | some p =>
              obtain ⟨cs0, e0, _⟩ := ho1 p.1 p.2 ho'
              rw [e0] at e; cases e
              exact hno p.2 (by rw [ho'])
          have hop : ∀ (i : Nat) (cs : List XC), o' = some (i, cs) → i < as.length ∧ cs.length = z2 ∧ RelL E' cs ((ys.drop (i * z2)).take z2) := fun i cs e => by
            obtain ⟨cs0, e0, rfl⟩ := ho1 i cs e
            obtain ⟨g1, g2, g3⟩ := h2.op i cs0 e0
            exact ⟨g1, by simpa using g2, (killL_rel htk g3).monoC hc⟩
          exact ⟨by rw [hsl k hne]; exact h2.row, hel, hop, h2.sep, by rw [hsl k hne, hext k hne]; exact h2.own, by rw [hsl k hne, hext k hne]; exact h2.blk⟩
        cases o with
        | none => exact ⟨ys, Ss, key none (fun i cs e => by cases e) (fun _ => rfl)⟩
        | some p => exact ⟨ys, Ss, key (some (p.1, p.2.map (killC it))) (fun i cs e => by cases e; exact ⟨p.2, rfl, rfl⟩) (fun e => by cases e)⟩
    · exact hi
  · intro k z b hz hb
    rcases at_ hz with ⟨hne, x', hx', rfl⟩ | ⟨rfl, rfl⟩
    · rw [owk x' hne] at hb
      have h1 := hp.own k x' b hx' hb
      rw [hbs]
      exact ⟨Nat.lt_of_lt_of_le h1.1 hsz, h1.2⟩
    · obtain ⟨h1, h2⟩ := hown b hb
      rw [hbs]
      rcases h1 with h1 | h1
      · exact ⟨h2, (hp.own _ x b hx h1).2⟩
      · exact ⟨h2, fun hB => by have := (hp.bs _ hB).1; omega, .inl (Nat.le_trans hp.fr.size h1)⟩
  · intro j k z z' b hz hz' hb hb'
    rcases at_ hz with ⟨hj, x1, hx1, rfl⟩ | ⟨e1, rfl⟩ <;> rcases at_ hz' with ⟨hk', x2, hx2, rfl⟩ | ⟨e3, e4⟩
    · rw [owk x1 hj] at hb
      rw [owk x2 hk'] at hb'
      exact hp.sep j k x1 x2 b hx1 hx2 hb hb'
    · exfalso
      rw [owk x1 hj] at hb
      subst e3; subst e4
      rcases (hown b hb').1 with h1 | h1
      · exact hj (hp.sep _ _ _ _ _ hx1 hx hb h1)
      · have := (hp.own j x1 _ hx1 hb).1; omega
    · exfalso
      rw [owk x2 hk'] at hb'
      subst e1
      rcases (hown b hb).1 with h1 | h1
      · exact hk' (hp.sep _ _ _ _ _ hx2 hx hb' h1)
      · have := (hp.own k x2 _ hx2 hb').1; omega
    · rw [e1, e3]
  · refine ⟨ho.trans hp.fr.os, ht.trans hp.fr.tape, hu.trans hp.fr.output, Nat.le_trans hp.fr.size hsz, fun k hk' hF => ?_⟩
    refine (hk k (Nat.lt_of_lt_of_le hk' hp.fr.size) fun hb => ?_).trans (hp.fr.block k hk' hF)
    rcases (hp.own it x k hx hb).2.2 with h1 | h1
    · omega
    · exact hF h1

/-- The row of an item has grown, perhaps in another block. -/
theorem Heap.turn (hp : Heap w0 F E h w) {w' : World} {it e z : Nat} {xs ys : List (List XC)} {v' : Value} (hx : h[it]? = some (.row e z xs)) (hg : w.grownBy w' (E.sl it).ownBlock)
    (hv : v'.ownBlock = (E.sl it).ownBlock ∨ v'.ownBlock = some w.heap.size) (hlt : ∀ b, v'.ownBlock = some b → b < w'.heap.size)
    {ys' : List Value} (ho : w'.ownsRow 0 e z v' ys.length ys') (hr : ∀ E', Turn E E' it → RelL E' ys.flatten ys') (hl : ∀ l ∈ ys, l.length = z) (hst : ∀ x ∈ ys.flatten, St x) :
    ∃ E', Turn E E' it ∧ Heap w0 F E' ((h.map (killIt it)).set it (.row e z ys)) w' ∧ E'.sl it = v' := by
  let E' : Env := { E with sl := fun k => if k = it then v' else E.sl k }
  have ht : Turn E E' it := ⟨rfl, rfl, rfl, rfl, fun k hk => by simp [E', hk]⟩
  have hsl : E'.sl it = v' := by simp [E']
  refine ⟨E', ht, hp.turnTo hx hg.size hg.os hg.tape hg.output (fun b hb hno => hg.block b hb fun e => hno e.symm) rfl rfl rfl (fun _ _ => rfl) (fun k hk => ht.sl k hk) (fun b hb => ?_) ⟨ys', by rw [hsl]; exact ho, hr E' ht, hl, hst⟩, hsl⟩
  simp only [Ow, hsl] at hb
  refine ⟨?_, hlt b hb⟩
  rcases hv with e1 | e1
  · rw [e1] at hb; exact .inl hb
  · rw [e1] at hb; cases hb; exact .inr (Nat.le_refl _)
end
end Go.Eng

/- The engine, part I: every operation that makes memory or writes it, under one name; nothing of any program is proved here. -/
namespace Go.Eng
open Go Go.RowKit
set_option linter.unusedSimpArgs false
set_option linter.unusedVariables false

def allSt : List XC → Bool
  | [] => true
  | x :: l => (match stB x with | true => allSt l | false => false)
theorem allSt_iff : ∀ {l : List XC}, allSt l = true → ∀ x ∈ l, St x
  | y :: l, h, x, hx => by
    unfold allSt at h
    split at h
    · rename_i h1
      rcases List.mem_cons.1 hx with rfl | hx
      · exact stB_iff h1
      · exact allSt_iff h x hx
    · cases h

def chunk (z : Nat) : Nat → List XC → List (List XC)
  | 0, _ => []
  | n + 1, l => l.take z :: chunk z n (l.drop z)
theorem chunk_flat (z : Nat) : ∀ (n : Nat) (l : List XC), l.length = n * z → (chunk z n l).flatten = l ∧ (∀ x ∈ chunk z n l, x.length = z) ∧ (chunk z n l).length = n
  | 0, l, h => by simp at h; subst h; simp [chunk]
  | n + 1, l, h => by
    have h' : l.length = n * z + z := by rw [h, Nat.succ_mul]
    obtain ⟨h1, h2, h3⟩ := chunk_flat z n (l.drop z) (by simp; omega)
    refine ⟨by simp [chunk, h1], ?_, by simp [chunk, h3]⟩
    intro x hx
    simp only [chunk, List.mem_cons] at hx
    rcases hx with rfl | hx
    · simp; omega
    · exact h2 x hx
def forceLL : List (List XC) → (List (List XC) → Prop) → Prop
  | [], k => k []
  | a :: l, k => forceL a fun a => forceLL l fun l => k (a :: l)
theorem forceLL_eq : ∀ (l : List (List XC)) (k : List (List XC) → Prop), forceLL l k = k l
  | [], _ => rfl
  | a :: l, k => by simp only [forceLL, forceL_eq, forceLL_eq l]

def rowsOf (n z : Nat) (f : Nat → Nat → XC) : List (List XC) := (List.range n).map fun i => (List.range z).map (f i)
def bytesOf (s : ByteArray) : List (List XC) := s.data.toList.map fun b => [.i .u8 b.toNat]

/-- The rows that are appended. -/
def srcX (ei : TI) (h : List It) (x : XV) (k : List (List XC) → Prop) : Prop :=
  match x with
  | .c (.ow it) => (match itemAt h it with | .row _ z ys => when (Nat.beq z ei.size) (k ys) | _ => False)
  | .c (.rs n z f) => when (Nat.beq z ei.size) (k (rowsOf n z f))
  | .c (.v (.slice none 0 0)) => k []
  | _ => False

abbrev KE := XV → List XV → List It → Prop

/-- The rows of a slice whose capacity is its length. -/
def tightX (ei : TI) (h : List It) (x : XV) (k : List (List XC) → Prop) : Prop :=
  match x with
  | .c (.ts n z f) => when (Nat.beq z ei.size) (k (rowsOf n z f))
  | .c (.sp it off n 0) => when (Nat.beq 1 ei.size) (match itemAt h it with
    | .cells _ cs => when (Nat.ble (off + n) cs.length && allSt cs) (k (((cs.drop off).take n).map fun c => [c]))
    | _ => False)
  | _ => False
/-- What is appended onto it lies in a row of its own. -/
def appT (e : TypeId) (ei : TI) (xs ys : List (List XC)) (d : XV) (ts : List XV) (h : List It) (k : KE) : Prop :=
  (ys.length = 0 → k d ts h) ∧ (ys.length ≠ 0 → xs.length + ys.length ≤ 1000000000 ∧ lenK h fun n => snocH h (.row e ei.size (xs ++ ys)) fun h' => k (.c (.ow n)) ts h')

def appX (T : Tab) (t : TypeId) (dst src : XV) (ts : List XV) (h : List It) (k : KE) : Prop :=
  match T t with
  | some ti => (match ti.kd with
    | .sl e => (match T e with
      | some ei => when (Nat.blt 0 ei.size && Nat.ble ei.bytes 100000) (srcX ei h src fun ys => (match dst with
        | .c (.v (.slice none 0 0)) => ys.length ≤ 1000000000 ∧ lenK h fun n => snocH h (.row e ei.size ys) fun h' => k (.c (.ow n)) ts h'
        | .c (.ow it) => (match itemAt h it with
          | .row e' z xs => when (Nat.beq e' e && Nat.beq z ei.size) (xs.length + ys.length ≤ 1000000000 ∧ killTs it ts fun ts => killH it h fun h => setH h it (.row e' z (xs ++ ys)) fun h => k (.c (.ow it)) ts h)
          | .prow e' z as none => when (Nat.beq e' e && Nat.beq z ei.size) (as.length + ys.length ≤ 1000000000 ∧ killTs it ts fun ts => killH it h fun h => setH h it (.prow e' z (as ++ ys.map StL) none) fun h => k (.c (.ow it)) ts h)
          | _ => False)
        | .c (.ts n z f) => tightX ei h (.c (.ts n z f)) fun xs => appT e ei xs ys (.c (.ts n z f)) ts h k
        | .c (.sp it off n z) => tightX ei h (.c (.sp it off n z)) fun xs => appT e ei xs ys (.c (.sp it off n z)) ts h k
        | _ => False))
      | none => False)
    | _ => False)
  | none => False

def storeX (T : Tab) (t : TypeId) (a x : XV) (ts : List XV) (h : List It) (k : KE) : Prop :=
  match T t, cells x with
  | some ti, some l => (match a with
    | .c (.p it off) => (match itemAt h it with
      | .cells ty cs => when (Nat.beq l.length ti.size && Nat.ble (off + ti.size) cs.length) (forceL (putL cs off l) fun cs => setH h it (.cells ty cs) fun h => k .un ts h)
      | _ => False)
    | .c (.q it i z off) => (match itemAt h it with
      | .row e z' xs => when (Nat.beq z z' && Nat.beq l.length ti.size && Nat.ble (off + ti.size) z && allSt l) (∃ cs, xs[i]? = some cs ∧ setH h it (.row e z (xs.set i (putL cs off l))) fun h => k .un ts h)
      | .prow e z' as (some (i', cs)) => when (Nat.beq z z' && Nat.beq l.length ti.size && Nat.ble (off + ti.size) z) (i = i' ∧ forceL (putL cs off l) fun cs => setH h it (.prow e z as (some (i', cs))) fun h => k .un ts h)
      | .prow e z' as none => when (Nat.beq z z' && Nat.beq l.length ti.size && Nat.beq off 0 && Nat.beq ti.size z && allSt l) (i < as.length ∧ setH h it (.prow e z (as.set i (StL l)) none) fun h => k .un ts h)
      | _ => False)
    | _ => False)
  | _, _ => False

def repX (n : Nat) (l : List XC) : List XC := (List.replicate n l).flatten

/-- What an operation that makes memory, or writes it, leaves. -/
def effX (T : Tab) (ts : List XV) (h : List It) (op : Op) (k : KE) : Prop :=
  match op with
  | .alloc t => (match T t with
    | some ti => forceL (zeroX ti.zero) fun z => lenK h fun n => snocH h (.cells t z) fun h' => k (.c (.p n 0)) ts h'
    | none => False)
  | .box t x => (match cells (opv ts x) with
    | some l => forceL l fun l => lenK h fun n => snocH h (.cells t l) fun h' => k (.c (.p n 0)) ts h'
    | none => False)
  | .buildSlice t n ps => (match T t with
    | some ti => (match ti.kd with
      | .sl e => (match T e with
        | some ei => when (Nat.blt 0 (n * ei.size) && Nat.ble (n * ei.size) 10000) (forceL (repX n (zeroX ei.zero)) fun z =>
            fillX (fun i => some (i * ei.size, ei.size)) (ps.toList.map fun p => (p.1, opv ts p.2)) z fun r => when (Nat.beq r.length (n * ei.size) && allSt r)
              (forceLL (chunk ei.size n r) fun xs => lenK h fun m => snocH h (.row e ei.size xs) fun h' => k (.c (.ow m)) ts h'))
        | none => False)
      | _ => False)
    | none => False)
  | .makeSlice t n c => (match T t, opv ts n, opv ts c with
    | some ti, .c n, .c c => (match ti.kd, asI n, asI c with
      | .sl e, some (_, _, n), some (_, _, c) => (match T e with
        | some ei => when (Nat.blt 0 ei.size && Nat.ble ei.bytes 100000 && allSt (zeroX ei.zero)) ((0 ≤ n ∧ n ≤ c ∧ c ≤ 1000000000) ∧ lenK h fun m => snocH h (.row e ei.size (List.replicate n.toNat (zeroX ei.zero))) fun h' => k (.c (.ow m)) ts h')
        | none => False)
      | _, _, _ => False)
    | _, _, _ => False)
  | .store t a x => storeX T t (opv ts a) (opv ts x) ts h k
  | .call c => (match c.callee, c.args.toList, c.argTypes.toList with
    | .builtin .append, [d, s], [t, t'] => when (Nat.beq t t') (appX T t (opv ts d) (opv ts s) ts h k)
    | _, _, _ => False)
  | _ => False

section
variable {P : Program} {T : Tab} (hT : TabOk P T) {E : Env} {h : List It} {w0 : Org} {w : World} {F : Nat → Prop}

/-- But for one item's block, and for new blocks, memory is as it was. -/
def Keep (E : Env) (h : List It) (t : Option Nat) (w w' : World) : Prop :=
  w.heap.size ≤ w'.heap.size ∧ ∀ b, b < w.heap.size → (∀ (k : Nat) (x : It), t = some k → h[k]? = some x → ¬ Ow E k x b) → w'.heap[b]? = w.heap[b]?
/-- Whatever else there was stands where it stood; what is new lies behind. -/
structure After (E : Env) (h : List It) (t : Option Nat) (sz : Nat) (E' : Env) (h' : List It) : Prop where
  bs : E'.bs = E.bs
  n : h.length ≤ h'.length
  nw : ∀ (k : Nat) (y : It) (b : Nat), h'[k]? = some y → Ow E' k y b → (∃ x, h[k]? = some x ∧ Ow E k x b) ∨ (sz ≤ b ∧ (t = some k ∨ h.length ≤ k))
theorem After.push {E : Env} {h : List It} {t : Option Nat} {sz : Nat} {x : It} {b : Nat} {v : Value} (hn : E.n = h.length) (hb : ∀ c, Ow (E.push b v) E.n x c → sz ≤ c) : After E h t sz (E.push b v) (h ++ [x]) :=
  ⟨rfl, by simp, fun k y c hy hc => by
    by_cases hk : k < h.length
    · rw [List.getElem?_append_left hk] at hy
      rw [Ow_mono (Env.push_le E b v) (by omega)] at hc
      exact .inl ⟨y, hy, hc⟩
    · have hk' : k = h.length := by
        have := (List.getElem?_eq_some_iff.1 hy).1
        simp at this; omega
      subst hk'
      simp at hy
      subst hy
      exact .inr ⟨hb c (by rw [hn]; exact hc), .inr (Nat.le_refl _)⟩⟩
theorem After.set {E : Env} {h : List It} {t : Option Nat} {sz it : Nat} {x y : It} (hx : h[it]? = some x) (hb : Ow E it y = Ow E it x) : After E h t sz E (h.set it y) :=
  ⟨rfl, by simp, fun k z b hz hzb => by
    by_cases he : it = k
    · subst he
      rw [List.getElem?_set_self (List.getElem?_eq_some_iff.1 hx).1] at hz
      cases hz
      exact .inl ⟨x, hx, by rw [← hb]; exact hzb⟩
    · rw [List.getElem?_set_ne he] at hz
      exact .inl ⟨z, hz, hzb⟩⟩
theorem After.turnTo {E E' : Env} {h : List It} {it sz : Nat} {x y : It} (hx : h[it]? = some x) (hbs : E'.bs = E.bs) (hbl : E'.blk = E.blk) (hext : ∀ k, k ≠ it → E'.ext k = E.ext k) (hsl : ∀ k, k ≠ it → E'.sl k = E.sl k)
    (hown : ∀ b, Ow E' it y b → Ow E it x b ∨ sz ≤ b) : After E h (some it) sz E' ((h.map (killIt it)).set it y) :=
  ⟨hbs, by simp, fun k u b hu hub => by
    by_cases he : it = k
    · subst he
      rw [List.getElem?_set_self (by simpa using (List.getElem?_eq_some_iff.1 hx).1)] at hu
      cases hu
      rcases hown b hub with h1 | h1
      · exact .inl ⟨_, hx, h1⟩
      · exact .inr ⟨h1, .inl rfl⟩
    · rw [List.getElem?_set_ne he, List.getElem?_map, Option.map_eq_some_iff] at hu
      obtain ⟨x', hx', rfl⟩ := hu
      rw [Ow_kill x' hbl (hext k (fun e => he e.symm)) (hsl k (fun e => he e.symm))] at hub
      exact .inl ⟨x', hx', hub⟩⟩
theorem After.turn {E E' : Env} {h : List It} {it sz : Nat} {e z : Nat} {xs ys : List (List XC)} (ht : Turn E E' it) (hx : h[it]? = some (.row e z xs)) (hv : (E'.sl it).ownBlock = (E.sl it).ownBlock ∨ (E'.sl it).ownBlock = some sz) :
    After E h (some it) sz E' ((h.map (killIt it)).set it (.row e z ys)) :=
  After.turnTo hx ht.bs ht.blk (fun k _ => by rw [ht.ext]) ht.sl fun b hb => by
    simp only [Ow] at hb ⊢
    rcases hv with h1 | h1
    · rw [h1] at hb; exact .inl hb
    · rw [h1] at hb; cases hb; exact .inr (Nat.le_refl _)
/-- The item that a pointer, or a slice, is into. -/
def tchV : XV → Option Nat
  | .c (.p it _) => some it
  | .c (.q it _ _ _) => some it
  | .c (.ow it) => some it
  | _ => none
/-- The item that an operation writes. -/
def tchOp (ts : List XV) : Op → Option Nat
  | .store _ a _ => tchV (opv ts a)
  | .call c => (match c.callee, c.args.toList with
    | .builtin .append, [d, _] => tchV (opv ts d)
    | _, _ => none)
  | _ => none
/-- An operation has been carried out. -/
def Done (P : Program) (w0 : Org) (F : Nat → Prop) (E : Env) (h : List It) (t : Option Nat) (s : Sem Next) (w : World) (vs : List Value) (k : KE) : Prop :=
  ∃ nx u w' x ts' h' E', (nx = .value u ∨ (nx = .skip ∧ u = undef)) ∧ s.run P w = .ok nx w' ∧ k x ts' h' ∧ RelV E' x u ∧ RelTs E' ts' vs ∧ Heap w0 F E' h' w' ∧ Keep E h t w w' ∧ After E h t w.heap.size E' h'

theorem srcX_sound {e : TypeId} {ei : TI} {x : XV} {u : Value} {k : List (List XC) → Prop} (hh : srcX ei h x k) (hx : RelV E x u) (hp : Heap w0 F E h w) :
    ∃ ys A m c us, k ys ∧ u = .slice A m c ∧ m = ys.length ∧ us.length = m * ei.size ∧ (∀ j v, us[j]? = some v → ∃ ad, A = some ad ∧ w.cell? (ad.add j) = some v) ∧
      (∀ E', E'.bs = E.bs → RelL E' ys.flatten us) ∧ (∀ l ∈ ys, l.length = ei.size) ∧ ∀ x ∈ ys.flatten, St x := by
  unfold srcX at hh
  split at hh
  · rename_i it
    split at hh
    case h_2 => exact hh.elim
    rename_i e' z ys hit
    replace hh := when_iff hh
    obtain ⟨hz, hk⟩ := hh
    have hz := Nat.eq_of_beq_eq_true hz
    subst hz
    obtain ⟨us, how, hr, hl, hs⟩ := hp.ok it _ (itemAt_eq _ _ hit (by simp))
    obtain ⟨_, rfl, _⟩ := hx
    have hR : ∀ E', E'.bs = E.bs → RelL E' ys.flatten us := fun E' hE => RelL.ofSt hE hs hr
    rcases how.2 with ⟨hsl, h0⟩ | ⟨g, cap, cur, hsl, hrest⟩
    · have hus : us = [] := List.eq_nil_of_length_eq_zero (by rw [how.1, h0]; simp)
      exact ⟨ys, none, 0, 0, us, hk, hsl, h0.symm, by simp [hus], by simp [hus], hR, hl, hs⟩
    · exact ⟨ys, _, _, _, us, hk, hsl, rfl, how.1, fun j v hv => ⟨_, rfl, how.cells (by simp [hsl, Value.ownBlock]) j v hv⟩, hR, hl, hs⟩
  · rename_i n z f
    replace hh := when_iff hh
    obtain ⟨hz, hk⟩ := hh
    have hz := Nat.eq_of_beq_eq_true hz
    subst hz
    obtain ⟨A, c, rfl, hnc, hm, hc⟩ := hx
    have hc' : ∀ i j, ∃ u, i < n → j < ei.size → ∃ ad, A = some ad ∧ E.bs.B ad.block ∧ E.bs.wb.cell? (ad.add (i * ei.size + j)) = some u ∧ St (f i j) ∧ RelC E (f i j) u := fun i j => by
      by_cases hi : i < n
      · obtain ⟨ad, e1, hcell⟩ := hc i hi
        by_cases hj : j < ei.size
        · obtain ⟨hb, u, h1, h2, h3⟩ := hcell j hj
          exact ⟨u, fun _ _ => ⟨ad, e1, hb, h1, h2, h3⟩⟩
        · exact ⟨undef, fun _ h' => absurd h' hj⟩
      · exact ⟨undef, fun h' => absurd h' hi⟩
    obtain ⟨G, hG⟩ := Classical.axiomOfChoice fun i => Classical.axiomOfChoice (hc' i)
    let us : List Value := ((List.range n).map fun i => (List.range ei.size).map (G i)).flatten
    have hlen : us.length = n * ei.size := by
      have hl1 : ∀ l ∈ ((List.range n).map fun i => (List.range ei.size).map (G i)), l.length = ei.size := by
        intro l hl; simp only [List.mem_map, List.mem_range] at hl; obtain ⟨i, _, rfl⟩ := hl; simp
      have : ∀ (L : List (List Value)), (∀ l ∈ L, l.length = ei.size) → L.flatten.length = L.length * ei.size := by
        intro L
        induction L with
        | nil => simp
        | cons a L ih => intro hL; simp [ih fun l hl => hL l (by simp [hl]), hL a (by simp), Nat.succ_mul, Nat.add_comm]
      simpa [us] using this _ hl1
    have hat : ∀ i j, i < n → j < ei.size → us[i * ei.size + j]? = some (G i j) := by
      intro i j hi hj
      have hfl : ∀ (L : List (List Value)) (i : Nat) (cs : List Value), (∀ l ∈ L, l.length = ei.size) → L[i]? = some cs → (L.flatten.drop (i * ei.size)).take ei.size = cs := by
        intro L
        induction L with
        | nil => intro i cs _ h'; simp at h'
        | cons a L ih =>
          intro i cs hL hi'
          have ha := hL a (by simp)
          cases i with
          | zero => simp at hi'; subst hi'; simp [← ha]
          | succ i =>
            have := ih i cs (fun l hl' => hL l (by simp [hl'])) (by simpa using hi')
            rw [List.flatten_cons, Nat.succ_mul, Nat.add_comm, ← List.drop_drop, ← ha, List.drop_left, ha]; exact this
      have h1 := hfl ((List.range n).map fun i => (List.range ei.size).map (G i)) i ((List.range ei.size).map (G i)) (by
        intro l hl; simp only [List.mem_map, List.mem_range] at hl; obtain ⟨i, _, rfl⟩ := hl; simp) (by simp [hi])
      have h2 : ((us.drop (i * ei.size)).take ei.size)[j]? = some (G i j) := by
        show (((((List.range n).map fun i => (List.range ei.size).map (G i)).flatten).drop (i * ei.size)).take ei.size)[j]? = some (G i j)
        rw [h1]; simp [hj]
      rw [List.getElem?_take, if_pos hj, List.getElem?_drop] at h2
      exact h2
    refine ⟨_, A, n, c, us, hk, rfl, by simp [rowsOf], hlen, ?_, ?_, ?_, ?_⟩
    · intro j v hv
      have hj : j < n * ei.size := by rw [← hlen]; exact (List.getElem?_eq_some_iff.1 hv).1
      have hz0 : 0 < ei.size := by
        rcases Nat.eq_zero_or_pos ei.size with h0 | h0
        · rw [h0] at hj; simp at hj
        · exact h0
      have hi : j / ei.size < n := (Nat.div_lt_iff_lt_mul hz0).2 hj
      have hr : j % ei.size < ei.size := Nat.mod_lt _ hz0
      obtain ⟨ad, e1, hb, h1, _⟩ := hG _ _ hi hr
      have hdm : j / ei.size * ei.size + j % ei.size = j := by rw [Nat.mul_comm]; exact Nat.div_add_mod j ei.size
      have := hat _ _ hi hr
      rw [hdm] at this h1
      rw [this] at hv; cases hv
      exact ⟨ad, e1, (Base.cell hp.bs (by rw [block_add]; exact hb)).trans h1⟩
    · intro E' hE
      have key : ∀ (L : List Nat), (∀ i ∈ L, i < n) → RelL E' (L.map fun i => (List.range ei.size).map (f i)).flatten (L.map fun i => (List.range ei.size).map (G i)).flatten := by
        intro L
        induction L with
        | nil => intro _; trivial
        | cons i L ih =>
          intro hL
          simp only [List.map_cons, List.flatten_cons]
          refine RelL.append ?_ (ih fun i hi => hL i (by simp [hi]))
          have key2 : ∀ (J : List Nat), (∀ j ∈ J, j < ei.size) → RelL E' (J.map (f i)) (J.map (G i)) := by
            intro J
            induction J with
            | nil => intro _; trivial
            | cons j J ih =>
              intro hJ
              obtain ⟨_, _, _, _, hs, hr⟩ := hG i j (hL i (by simp)) (hJ j (by simp))
              exact ⟨RelC.stable (by rw [hE]; exact fun _ hb => ⟨hb, rfl⟩) _ _ hs hr, ih fun j hj => hJ j (by simp [hj])⟩
          exact key2 _ fun j hj => by simpa using hj
      exact key _ fun i hi => by simpa using hi
    · intro l hl; simp only [rowsOf, List.mem_map, List.mem_range] at hl; obtain ⟨i, _, rfl⟩ := hl; simp
    · intro x hx
      simp only [rowsOf, List.mem_flatten, List.mem_map, List.mem_range] at hx
      obtain ⟨l, ⟨i, hi, rfl⟩, hx⟩ := hx
      simp only [List.mem_map, List.mem_range] at hx
      obtain ⟨j, hj, rfl⟩ := hx
      obtain ⟨_, _, _, _, hs, _⟩ := hG i j hi hj
      exact hs
  · have : u = .slice none 0 0 := hx.1
    exact ⟨[], none, 0, 0, [], hh, this, rfl, by simp, by simp, fun _ _ => trivial, by simp, by simp⟩
  · exact hh.elim

end
theorem run_append_nil_src {P : Program} (w : World) (t ty e : TypeId) (i : TypeInfo) (size base : Nat) (ht : P.underlying t = some (.slice e)) (hi : P.info? e = some i)
    (v : Value) (n : Nat) (xs : List Value) (hown : w.ownsRow base e size v n xs) (c : Nat) : (Builtin.append_ #[t, t] ty #[v, .slice none 0 c]).run P w = .ok v w := by
  rcases hown.2 with ⟨rfl, rfl⟩ | ⟨g, cap, cur, rfl, _, _, hnc, _⟩
  · simp [Builtin.append_, run_underlying ht, sizeOf, typeInfo, hi, Builtin.lenOf, Builtin.firstCells]
  · simp [Builtin.append_, run_underlying ht, sizeOf, typeInfo, hi, Builtin.lenOf, Builtin.firstCells, hnc, storeCells]

theorem run_app {P : Program} {w : World} {t ty e : TypeId} {ei : TI} (hu : P.underlying t = some (.slice e)) (hs : TIs P e ei) (hz : 0 < ei.size) (hb : ei.bytes ≤ 100000)
    {v : Value} {n m c : Nat} {xs us : List Value} {A : Option Addr} (hown : w.ownsRow 0 e ei.size v n xs) (hl : us.length = m * ei.size)
    (hc : ∀ j u, us[j]? = some u → ∃ ad, A = some ad ∧ w.cell? (ad.add j) = some u) (h1 : ∀ u ∈ us, u.oneCell' = true) (hle : n + m ≤ 1000000000) :
    ∃ v' w', (Builtin.append_ #[t, t] ty #[v, .slice A m c]).run P w = .ok v' w' ∧ w'.ownsRow 0 e ei.size v' (n + m) (xs ++ us) ∧ w.grownBy w' v.ownBlock ∧
      (v'.ownBlock = v.ownBlock ∨ v'.ownBlock = some w.heap.size) := by
  obtain ⟨i, hi, hsz, hby, z, hz0, hzc, _, hzs⟩ := hs.info
  cases A with
  | none =>
    have hus : us = [] := by
      cases us with
      | nil => rfl
      | cons u us => obtain ⟨ad, e, _⟩ := hc 0 u rfl; cases e
    subst hus
    have hm : m = 0 := by
      rcases Nat.eq_zero_or_pos m with h0 | h0
      · exact h0
      · have := Nat.mul_pos h0 hz; simp at hl; omega
    subst hm
    exact ⟨v, w, run_append_nil_src w t ty e i ei.size 0 hu hi v n xs hown c, by simpa using hown, World.grownBy.refl w _, .inl rfl⟩
  | some ad =>
    obtain ⟨v', w', hrun, h2, h3, _, h5⟩ := run_append_own_at (P := P) w 0 t ty e i z ei.size ei.bytes hu hi hz0 hsz hby hzs hz v n xs hown ad m c us hl
      (fun j u hj => by obtain ⟨ad', e, h'⟩ := hc j u hj; cases e; exact h') h1 (by simp only [maxLen]; omega)
      (Nat.le_trans (Nat.mul_le_mul hle hb) (by omega)) (Nat.zero_le _)
    exact ⟨v', w', hrun, h2, h3, h5⟩

theorem run_append_nothing' {P : Program} (w : World) (t ty e : TypeId) (i : TypeInfo) (ht : P.underlying t = some (.slice e)) (hi : P.info? e = some i)
    (B A : Option Addr) (n c : Nat) : (Builtin.append_ #[t, t] ty #[.slice B n n, .slice A 0 c]).run P w = .ok (.slice B n n) w := by
  have hf : ∀ a : Addr, (Builtin.firstCells i.size 0 (.slice (some a) 0 c)).run P w = .ok #[] w := fun a => by
    simpa using run_firstCells_some (P := P) w i.size 0 a 0 c [] (by simp) (by simp)
  cases B <;> cases A <;> simp [Builtin.append_, run_underlying ht, sizeOf, typeInfo, hi, Builtin.lenOf, run_firstCells_none, hf, storeCells]

theorem run_app_tight {P : Program} {w : World} {t ty e : TypeId} {ei : TI} (hu : P.underlying t = some (.slice e)) (hs : TIs P e ei) (hz : 0 < ei.size) (hb : ei.bytes ≤ 100000)
    {n m c : Nat} {xs us : List Value} {A B : Option Addr} (hol : xs.length = n * ei.size) (ho : ∀ j u, xs[j]? = some u → ∃ ad, B = some ad ∧ w.cell? (ad.add j) = some u) (hl : us.length = m * ei.size)
    (hc : ∀ j u, us[j]? = some u → ∃ ad, A = some ad ∧ w.cell? (ad.add j) = some u) (hm : m ≠ 0) (hle : n + m ≤ 1000000000) :
    ∃ v' w', (Builtin.append_ #[t, t] ty #[.slice B n n, .slice A m c]).run P w = .ok v' w' ∧ w'.ownsRow 0 e ei.size v' (n + m) (xs ++ us) ∧ w.grownBy w' none ∧ v'.ownBlock = some w.heap.size := by
  obtain ⟨i, hi, hsz, hby, z, hz0, hzc, _, hzs⟩ := hs.info
  have hlen : (xs ++ us).length = (n + m) * ei.size := by rw [List.length_append, hol, hl, Nat.add_mul]
  have h63 : n + m ≤ maxLen := by simp only [maxLen]; omega
  have hbytes : (n + m) * ei.bytes ≤ 140737488355328 := Nat.le_trans (Nat.mul_le_mul hle hb) (by omega)
  obtain ⟨u, hu0⟩ : ∃ u, us[0]? = some u := by
    have h1 : 0 < us.length := by rw [hl]; exact Nat.mul_pos (by omega) hz
    exact ⟨us[0], List.getElem?_eq_getElem h1⟩
  obtain ⟨ad, rfl, _⟩ := hc 0 u hu0
  have hc' : ∀ j u, us[j]? = some u → w.cell? (ad.add j) = some u := fun j u hj => by obtain ⟨ad', e, h'⟩ := hc j u hj; cases e; exact h'
  have key : ∃ old, old < n + m ∧ (Builtin.append_ #[t, t] ty #[.slice B n n, .slice (some ad) m c]).run P w =
      .ok (.slice (some ⟨w.heap.size, 0, none⟩) (n + m) (grownCap w (n + m) old e)) (w.drew.alloc (.cells (xs.toArray ++ us.toArray ++ Builtin.zeroCells z.cells (grownCap w (n + m) old e - (n + m))) e)) := by
    cases B with
    | none =>
      have hx : xs = [] := by
        cases xs with
        | nil => rfl
        | cons x xs => obtain ⟨_, e, _⟩ := ho 0 x rfl; cases e
      subst hx
      have hn : n = 0 := by
        rcases Nat.eq_zero_or_pos n with h0 | h0
        · exact h0
        · have := Nat.mul_pos h0 hz; simp at hol; omega
      subst hn
      refine ⟨0, by omega, ?_⟩
      have hr := run_append_nil (P := P) w t ty e i z hu hi hz0 ad m c us (by rw [hsz]; exact hl) hc' (by omega) (by omega) (by rw [hby]; simp at hbytes; omega)
      simpa using hr
    | some b =>
      have ho' : ∀ j u, xs[j]? = some u → w.cell? (b.add j) = some u := fun j u hj => by obtain ⟨ad', e, h'⟩ := ho j u hj; cases e; exact h'
      exact ⟨n, by omega, run_append_grow (P := P) w t ty e i z hu hi hz0 b n n xs (by rw [hsz]; exact hol) ho' ad m c us (by rw [hsz]; exact hl) hc' (by omega) (by omega) (growslice_fits (by omega) (by rw [hby]; exact hbytes))⟩
  obtain ⟨old, ho1, hrun⟩ := key
  have hge := grownCap_ge w (n + m) old e
  have hcm : grownCap w (n + m) old e ≤ maxLen := grownCap_le_maxLen w (n + m) old e h63
  refine ⟨_, _, hrun, ⟨hlen, .inr ⟨w.heap.size, _, _, rfl, Nat.zero_le _, heap_alloc_new w.drew _, hge, hcm, ?_, ?_⟩⟩, ⟨rfl, rfl, rfl, by simp, fun k hk _ => heap_alloc_old w.drew _ k hk⟩, rfl⟩
  · simp only [Array.size_append, List.size_toArray, size_zeroCells, hzs, hol, hl, ← Nat.add_mul]
    congr 1
    omega
  · simp only [Array.toList_append, List.append_assoc]
    rw [← List.append_assoc, ← hlen]
    exact List.take_left

section
variable {P : Program} {T : Tab} (hT : TabOk P T) {E : Env} {h : List It} {w0 : Org} {w : World} {F : Nat → Prop}
theorem tightX_sound {e : TypeId} {ei : TI} {x : XV} {u : Value} {k : List (List XC) → Prop} (hh : tightX ei h x k) (hx : RelV E x u) (hp : Heap w0 F E h w) :
    ∃ xs B n ol, k xs ∧ u = .slice B n n ∧ n = xs.length ∧ ol.length = n * ei.size ∧ (∀ j v, ol[j]? = some v → ∃ ad, B = some ad ∧ w.cell? (ad.add j) = some v) ∧
      (∀ E', E'.bs = E.bs → RelL E' xs.flatten ol) ∧ (∀ l ∈ xs, l.length = ei.size) ∧ ∀ x ∈ xs.flatten, St x := by
  unfold tightX at hh
  split at hh
  · rename_i n z f
    obtain ⟨A, rfl, h2, h3⟩ := hx
    have hx' : RelV E (.c (.rs n z f)) (.slice A n n) := ⟨A, n, rfl, Nat.le_refl _, h2, h3⟩
    obtain ⟨ys, A', m, c, us, hk, e1, hm, h4, h5, h6, h7, h8⟩ := srcX_sound (e := e) (ei := ei) (x := .c (.rs n z f)) (k := k) hh hx' hp
    cases e1
    exact ⟨ys, A, n, us, hk, rfl, hm, h4, h5, h6, h7, h8⟩
  · rename_i it off n
    replace hh := when_iff hh
    obtain ⟨hz, hh⟩ := hh
    have hz := Nat.eq_of_beq_eq_true hz
    split at hh
    case h_2 => exact hh.elim
    rename_i ty cs hit
    replace hh := when_iff hh
    obtain ⟨hb, hk⟩ := hh
    simp only [Bool.and_eq_true] at hb
    have hle := Nat.le_of_ble_eq_true hb.1
    have hst := allSt_iff hb.2
    obtain ⟨cur, hcur, hrel⟩ := hp.ok it _ (itemAt_eq _ _ hit (by simp))
    obtain ⟨hn, c, rfl, _, hc⟩ := hx
    have hc : c = n := by omega
    subst hc
    have hlen := hrel.len
    have hfl : ∀ l : List XC, (l.map fun c => [c]).flatten = l := fun l => by induction l with
      | nil => rfl
      | cons a l ih => simp [ih]
    refine ⟨_, _, c, (cur.toList.drop off).take c, hk, rfl, by simp; omega, by simp [← hz] at *; omega, fun j v hv => ⟨_, rfl, ?_⟩, fun E' hE => ?_, ?_, ?_⟩
    · rw [List.getElem?_take] at hv
      split at hv
      · rw [List.getElem?_drop] at hv
        rw [add_lit, cell_of_row w _ _ cur ty (0, 0) hcur]
        simpa using hv
      · cases hv
    · rw [hfl]
      exact RelL.ofSt hE (fun x hx => hst x (List.mem_of_mem_drop (List.mem_of_mem_take hx))) ((hrel.drop off).take c)
    · intro l hl
      obtain ⟨c, _, rfl⟩ := List.mem_map.1 hl
      simpa using hz
    · intro x hx
      rw [hfl] at hx
      exact hst x (List.mem_of_mem_drop (List.mem_of_mem_take hx))
  · exact hh.elim

theorem appT_sound {t ty e : TypeId} {ei : TI} {d : XV} {xs ys : List (List XC)} {A B : Option Addr} {n c : Nat} {ol ul : List Value} {ts : List XV} {vs : List Value} {k : KE}
    (hu : P.underlying t = some (.slice e)) (hs : TIs P e ei) (hz : 0 < ei.size) (hby : ei.bytes ≤ 100000)
    (hh : appT e ei xs ys d ts h k) (hd : RelV E d (.slice B n n)) (hn : n = xs.length) (hol : ol.length = n * ei.size) (ho : ∀ j v, ol[j]? = some v → ∃ ad, B = some ad ∧ w.cell? (ad.add j) = some v)
    (hRo : ∀ E', E'.bs = E.bs → RelL E' xs.flatten ol) (hlo : ∀ l ∈ xs, l.length = ei.size) (hso : ∀ x ∈ xs.flatten, St x)
    (hul : ul.length = ys.length * ei.size) (hc : ∀ j v, ul[j]? = some v → ∃ ad, A = some ad ∧ w.cell? (ad.add j) = some v)
    (hR : ∀ E', E'.bs = E.bs → RelL E' ys.flatten ul) (hlen : ∀ l ∈ ys, l.length = ei.size) (hst : ∀ x ∈ ys.flatten, St x) (hr : RelTs E ts vs) (hp : Heap w0 F E h w) :
    Done P w0 F E h (tchV d) (do let v ← Builtin.append_ #[t, t] ty #[.slice B n n, .slice A ys.length c]; pure (.value v)) w vs k := by
  obtain ⟨i, hi, _⟩ := hs.info
  by_cases hy : ys.length = 0
  · have hk := hh.1 hy
    refine ⟨_, .slice B n n, w, _, _, _, E, .inl rfl, ?_, hk, hd, hr, hp, ⟨Nat.le_refl _, fun b _ _ => rfl⟩, ⟨rfl, Nat.le_refl _, fun k y b hy hb => .inl ⟨y, hy, hb⟩⟩⟩
    rw [hy]
    simp [run_append_nothing' (P := P) w t ty e i hu hi B A n c]
  · obtain ⟨hle, hk⟩ := hh.2 hy
    rw [lenK_eq, snocH_eq] at hk
    obtain ⟨v', w', hrun, hown, hg, hv⟩ := run_app_tight (P := P) (ty := ty) (c := c) hu hs hz hby hol ho hul hc hy (by omega)
    have hE := Env.push_le E 0 v'
    have hownb : ∀ b, v'.ownBlock = some b → w.heap.size ≤ b ∧ b < w'.heap.size := fun b hb' => by
      refine ⟨?_, (hown.lt b hb').2⟩
      rw [hv] at hb'; cases hb'; exact Nat.le_refl _
    have hp' := hp.push (x := .row e ei.size (xs ++ ys)) (b := 0) (v := v') (S := fun _ => False) ⟨hg.os, hg.tape, hg.output, hg.size, fun k hk _ => hg.block k hk (by simp)⟩
      ⟨ol ++ ul, by simpa [Env.push, hn] using hown, by rw [List.flatten_append]; exact (hRo (E.push 0 v') rfl).append (hR (E.push 0 v') rfl), fun l hl => by rcases List.mem_append.1 hl with hl | hl; exact hlo l hl; exact hlen l hl,
        fun x hx => by rw [List.flatten_append] at hx; rcases List.mem_append.1 hx with hx | hx; exact hso x hx; exact hst x hx⟩ (fun b hb' => hownb b (by simpa [Ow, Env.push] using hb'))
    refine ⟨_, v', w', _, _, _, _, .inl rfl, ?_, hk, ⟨?_, ?_, ?_⟩, hr.mono hE, hp', ⟨hg.size, fun b hb _ => hg.block b hb (by simp)⟩, ?_⟩
    · simp [hrun]
    · rw [← hp.n]; simp [Env.push]
    · simp [Env.push, hp.n]
    · rcases hown.2 with ⟨rfl, _⟩ | ⟨g, cap, cur, rfl, _⟩ <;> rfl
    · have ha := After.push (E := E) (h := h) (t := tchV d) (sz := w.heap.size) (x := .row e ei.size (xs ++ ys)) (b := 0) (v := v') hp.n (fun c hc => (hownb c (by simpa [Ow, Env.push] using hc)).1)
      exact ha
include hT in
theorem appX_sound {t ty : TypeId} {d s : XV} {ud us : Value} {ts : List XV} {vs : List Value} {k : KE} (hh : appX T t d s ts h k) (hd : RelV E d ud) (hs : RelV E s us) (hr : RelTs E ts vs) (hp : Heap w0 F E h w) :
    Done P w0 F E h (tchV d) (do let v ← Builtin.append_ #[t, t] ty #[ud, us]; pure (.value v)) w vs k := by
  unfold appX at hh
  split at hh
  case h_2 => exact hh.elim
  rename_i ti ht
  split at hh
  case h_2 => exact hh.elim
  rename_i e hkd
  have hu := mkKd_sl ((TIs.of (hT _ _ ht)).kd.symm.trans hkd)
  split at hh
  case h_2 => exact hh.elim
  rename_i ei hte
  have hts := TIs.of (hT _ _ hte)
  replace hh := when_iff hh
  obtain ⟨hb, hh⟩ := hh
  simp only [Bool.and_eq_true] at hb
  have hz : 0 < ei.size := by
    have : 0 + 1 ≤ ei.size := by simpa [Nat.blt, Nat.ble_eq] using hb.1
    omega
  have hby := Nat.le_of_ble_eq_true hb.2
  obtain ⟨ys, A, m, c, ul, hh2, rfl, rfl, hul, hc, hR, hlen, hst⟩ := srcX_sound (e := e) hh hs hp
  clear hh
  have hh := hh2
  clear hh2
  split at hh
  · obtain ⟨hle, hh⟩ := hh
    rw [lenK_eq, snocH_eq] at hh
    have : ud = .slice none 0 0 := hd.1
    subst this
    obtain ⟨v', w', hrun, ho, hg, hv⟩ := run_app (P := P) (ty := ty) (c := c) hu hts hz hby (World.ownsRow_nil w 0 e ei.size) hul hc (hR E rfl).all (by omega)
    simp only [Nat.zero_add, List.nil_append] at ho
    have hE := Env.push_le E 0 v'
    have hown : ∀ b, v'.ownBlock = some b → w.heap.size ≤ b ∧ b < w'.heap.size := fun b hb' => by
      refine ⟨?_, (ho.lt b hb').2⟩
      rcases hv with e1 | e1
      · rw [e1] at hb'; simp [Value.ownBlock] at hb'
      · rw [e1] at hb'; cases hb'; exact Nat.le_refl _
    have hp' := hp.push (x := .row e ei.size ys) (b := 0) (v := v') (S := fun _ => False) ⟨hg.os, hg.tape, hg.output, hg.size, fun k hk _ => hg.block k hk (by simp [Value.ownBlock])⟩
      ⟨ul, by simpa [Env.push] using ho, hR _ rfl, hlen, hst⟩ (fun b hb' => hown b (by simpa [Ow, Env.push] using hb'))
    refine ⟨_, v', w', _, _, _, _, .inl rfl, ?_, hh, ⟨?_, ?_, ?_⟩, hr.mono hE, hp', ⟨hg.size, fun b hb _ => hg.block b hb (by simp [Value.ownBlock])⟩, After.push hp.n (fun c hc => (hown c (by simpa [Ow, Env.push] using hc)).1)⟩
    · simp [hrun]
    · rw [← hp.n]; simp [Env.push]
    · simp [Env.push, hp.n]
    · rcases ho.2 with ⟨rfl, _⟩ | ⟨g, cap, cur, rfl, _⟩ <;> rfl
  · rename_i it
    split at hh
    case h_3 => exact hh.elim
    case h_2 e' z as hit =>
      replace hh := when_iff hh
      obtain ⟨hez, hle, hh⟩ := hh
      simp only [Bool.and_eq_true] at hez
      have he := Nat.eq_of_beq_eq_true hez.1
      have hz' := Nat.eq_of_beq_eq_true hez.2
      subst he; subst hz'
      have hi := itemAt_eq _ _ hit (by simp)
      obtain ⟨zs, Ss, hpr⟩ := hp.ok it _ hi
      obtain ⟨hn, rfl, _⟩ := hd
      obtain ⟨v', w', hrun, ho, hg, hv⟩ := run_app (P := P) (ty := ty) (c := c) hu hts hz hby hpr.row hul hc (hR E rfl).all hle
      let E' : Env := { E with sl := fun k => if k = it then v' else E.sl k, ext := fun k => if k = it then (fun b => v'.ownBlock = some b ∨ (E.ext it b ∧ (E.sl it).ownBlock ≠ some b)) else E.ext k }
      have hsl : E'.sl it = v' := by simp [E']
      have hext : ∀ b, E'.ext it b ↔ v'.ownBlock = some b ∨ (E.ext it b ∧ (E.sl it).ownBlock ≠ some b) := fun b => by simp [E']
      have hslk : ∀ k, k ≠ it → E'.sl k = E.sl k := fun k hk => by simp [E', hk]
      have hextk : ∀ k, k ≠ it → E'.ext k = E.ext k := fun k hk => by simp [E', hk]
      let Ek : Env := { E' with ext := E.ext }
      have htk : Turn E Ek it := ⟨rfl, rfl, rfl, rfl, hslk⟩
      have hce : EnvC Ek E' := ⟨Nat.le_refl _, fun _ _ => rfl, fun _ _ => rfl, fun _ h => ⟨h, rfl⟩⟩
      have hlen0 : zs.length = as.length * ei.size := hpr.row.1
      have hlt : ∀ i b, Ss i b → b < w.heap.size := fun i b hb => (hp.own it _ b hi (hpr.own i b hb).1).1
      have hSs : ∀ i, i < as.length → (fun b => i < as.length ∧ Ss i b) = Ss i := fun i hi => by funext b; exact propext ⟨fun h => h.2, fun h => ⟨hi, h⟩⟩
      have hpr' : PRow E' w' it e' ei.size (as ++ ys.map StL) none (zs ++ ul) (fun i b => i < as.length ∧ Ss i b) := by
        refine ⟨by rw [hsl]; simpa using ho, fun i a ha _ => ?_, fun i cs e => (by cases e), fun i j b h1 h2 => hpr.sep i j b h1.2 h2.2, fun i b hb => ?_, fun b hb => (hext b).2 (.inl (by rw [← hsl]; exact hb))⟩
        · by_cases hil : i < as.length
          · rw [List.getElem?_append_left hil] at ha
            have h1 := hpr.el i a ha (fun cs e => by cases e)
            have hle2 : i * ei.size + ei.size ≤ zs.length := by rw [hlen0, ← Nat.succ_mul]; exact Nat.mul_le_mul_right _ hil
            have htake : ((zs ++ ul).drop (i * ei.size)).take ei.size = (zs.drop (i * ei.size)).take ei.size := by
              rw [List.drop_append, show i * ei.size - zs.length = 0 by omega, List.drop_zero, List.take_append_of_le_length (by rw [List.length_drop]; omega)]
            rw [htake, hSs i hil]
            exact a.st (fun _ h => ⟨h, rfl⟩) (fun b hb => hg.block b (hlt i b hb) fun e => (hpr.own i b hb).2 e.symm) h1
          · rw [List.getElem?_append_right (by omega), List.getElem?_map, Option.map_eq_some_iff] at ha
            obtain ⟨l, hl, rfl⟩ := ha
            have hdrop : (zs ++ ul).drop (i * ei.size) = ul.drop ((i - as.length) * ei.size) := by
              have h3 : i * ei.size = zs.length + (i - as.length) * ei.size := by rw [hlen0, ← Nat.add_mul]; congr 1; omega
              rw [h3, List.drop_append, List.drop_of_length_le (by omega)]; simp
            have hfl := flatten_at ys (i - as.length) l hlen hl
            refine ⟨fun x hx => hst x (List.mem_flatten.2 ⟨l, List.mem_of_getElem? hl, hx⟩), E', rfl, ?_⟩
            rw [hdrop, ← hfl]
            exact ((hR E' rfl).drop _).take _
        · have h1 := hpr.own i b hb.2
          refine ⟨(hext b).2 (.inr h1), ?_⟩
          rw [hsl]
          rcases hv with e1 | e1
          · rw [e1]; exact h1.2
          · rw [e1]; intro e2; cases e2; exact Nat.lt_irrefl _ (hlt i _ hb.2)
      have hvown : ∀ b, E'.ext it b → (E.ext it b ∨ w.heap.size ≤ b) ∧ b < w'.heap.size := fun b hb => by
        rcases (hext b).1 hb with h1 | h1
        · refine ⟨?_, (ho.lt b h1).2⟩
          rcases hv with e1 | e1
          · rw [e1] at h1; exact .inl (hpr.blk b h1)
          · rw [e1] at h1; cases h1; exact .inr (Nat.le_refl _)
        · exact ⟨.inl h1.1, Nat.lt_of_lt_of_le (hp.own it _ b hi h1.1).1 hg.size⟩
      have hp' := hp.turnTo (E' := E') (y := .prow e' ei.size (as ++ ys.map StL) none) hi hg.size hg.os hg.tape hg.output (fun b hb hno => hg.block b hb fun e => hno (hpr.blk b e.symm)) rfl rfl rfl hextk hslk hvown ⟨_, _, hpr'⟩
      obtain ⟨ts', hh, hts'⟩ := killTs_rel htk hh hr
      rw [killH_eq, setH_eq] at hh
      refine ⟨_, v', w', _, _, _, E', .inl rfl, ?_, hh, ⟨hn, hsl.symm, ?_⟩, hts'.monoC hce, hp', ⟨hg.size, fun b hb hne => hg.block b hb (fun e => hne it _ rfl hi (hpr.blk b e.symm))⟩, After.turnTo hi rfl rfl hextk hslk (fun b hb => (hvown b hb).1)⟩
      · simp [hrun]
      · rcases ho.2 with ⟨rfl, _⟩ | ⟨g, cap, cur, rfl, _⟩ <;> rfl
    rename_i e' z xs hit
    replace hh := when_iff hh
    obtain ⟨hez, hle, hh⟩ := hh
    simp only [Bool.and_eq_true] at hez
    have he := Nat.eq_of_beq_eq_true hez.1
    have hz' := Nat.eq_of_beq_eq_true hez.2
    subst he; subst hz'
    have hi := itemAt_eq _ _ hit (by simp)
    obtain ⟨zs, how, hrz, hlz, hsz⟩ := hp.ok it _ hi
    obtain ⟨hn, rfl, _⟩ := hd
    obtain ⟨v', w', hrun, ho, hg, hv⟩ := run_app (P := P) (ty := ty) (c := c) hu hts hz hby how hul hc (hR E rfl).all hle
    obtain ⟨E', htn, hp', hsl⟩ := hp.turn (ys := xs ++ ys) hi hg hv (fun b hb' => (ho.lt b hb').2) (by simpa using ho)
      (fun E' htn => by rw [List.flatten_append]; exact (RelL.ofSt htn.bs hsz hrz).append (hR E' htn.bs))
      (fun l hl => by rcases List.mem_append.1 hl with hl | hl; exact hlz l hl; exact hlen l hl)
      (fun x hx => by rw [List.flatten_append] at hx; rcases List.mem_append.1 hx with hx | hx; exact hsz x hx; exact hst x hx)
    obtain ⟨ts', hh, hts'⟩ := killTs_rel htn hh hr
    rw [killH_eq, setH_eq] at hh
    refine ⟨_, v', w', _, _, _, E', .inl rfl, ?_, hh, ⟨?_, ?_, ?_⟩, hts', hp', ⟨hg.size, fun b hb hne => hg.block b hb (fun e => hne it _ rfl hi e.symm)⟩, After.turn htn hi (by rw [hsl]; exact hv)⟩
    · simp [hrun]
    · rw [htn.n]; exact hn
    · exact hsl.symm
    · rcases ho.2 with ⟨rfl, _⟩ | ⟨g, cap, cur, rfl, _⟩ <;> rfl
  · obtain ⟨xs, B, n', ol, hk, rfl, hn, hol, ho, hRo, hlo, hso⟩ := tightX_sound (e := e) hh hd hp
    exact appT_sound hu hts hz hby hk hd hn hol ho hRo hlo hso hul hc hR hlen hst hr hp
  · obtain ⟨xs, B, n', ol, hk, rfl, hn, hol, ho, hRo, hlo, hso⟩ := tightX_sound (e := e) hh hd hp
    exact appT_sound hu hts hz hby hk hd hn hol ho hRo hlo hso hul hc hR hlen hst hr hp
  · exact hh.elim
end
end Go.Eng

/- The engine, part J: stores and new memory are right; nothing of any program is proved here. -/
namespace Go.Eng
open Go Go.RowKit
set_option linter.unusedSimpArgs false
set_option linter.unusedVariables false
section
variable {P : Program} {T : Tab} (hT : TabOk P T) {E : Env} {h : List It} {w0 : Org} {w : World} {F : Nat → Prop}

theorem setRow_other' (w : World) (g k : Nat) (cs : Array Value) (hk : k ≠ g) : (w.setRow g cs).heap[k]? = w.heap[k]? := setRow_other w g k cs hk

theorem flatten_put {z off : Nat} {l : List XC} : ∀ (xs : List (List XC)) (i : Nat) (cs : List XC), (∀ l ∈ xs, l.length = z) → xs[i]? = some cs → off + l.length ≤ z →
    (xs.set i (putL cs off l)).flatten = putL xs.flatten (i * z + off) l
  | x :: xs, 0, cs, hl, hi, hc => by
    have hx := hl x (by simp)
    simp at hi; subst hi
    simp only [List.set_cons_zero, List.flatten_cons, putL, Nat.zero_mul, Nat.zero_add, List.append_assoc]
    rw [List.take_append, List.drop_append, show off - x.length = 0 by omega, show off + l.length - x.length = 0 by omega]
    simp
  | x :: xs, i + 1, cs, hl, hi, hc => by
    have hx := hl x (by simp)
    have ih := flatten_put xs i cs (fun l hl' => hl l (by simp [hl'])) (by simpa using hi) hc
    rw [List.set_cons_succ, List.flatten_cons, List.flatten_cons, ih]
    unfold putL
    rw [List.take_append (l₁ := x), List.drop_append (l₁ := x), List.take_of_length_le (l := x) (by rw [hx, Nat.succ_mul]; omega), List.drop_of_length_le (l := x) (by rw [hx, Nat.succ_mul]; omega),
      show (i + 1) * z + off - x.length = i * z + off by rw [hx, Nat.succ_mul]; omega, show (i + 1) * z + off + l.length - x.length = i * z + off + l.length by rw [hx, Nat.succ_mul]; omega]
    simp

theorem take_splice {α : Type} (cur us : List α) (o n : Nat) (h1 : o + us.length ≤ n) (h2 : n ≤ cur.length) :
    (cur.take o ++ us ++ cur.drop (o + us.length)).take n = (cur.take n).take o ++ us ++ (cur.take n).drop (o + us.length) := by
  apply List.ext_getElem?
  intro j
  simp only [List.getElem?_take, List.getElem?_append, List.length_append, List.length_take, List.getElem?_drop]
  rw [show min o cur.length = o by omega, show min o (min n cur.length) = o by omega]
  by_cases hj : j < n
  · rw [if_pos hj]
    by_cases h3 : j < o
    · simp [h3, hj, show j < o + us.length by omega]
    · by_cases h4 : j < o + us.length
      · simp [h3, h4]
      · simp [h4, show o + us.length + (j - (o + us.length)) < n by omega]
  · rw [if_neg hj]
    simp [show ¬ j < o + us.length by omega, show ¬ (o + us.length + (j - (o + us.length)) < n) by omega]

include hT in
theorem storeX_sound {t : TypeId} {a x : XV} {ua u : Value} {ts : List XV} {vs : List Value} {k : KE} (hh : storeX T t a x ts h k) (ha : RelV E a ua) (hx : RelV E x u) (hr : RelTs E ts vs) (hp : Heap w0 F E h w) :
    Done P w0 F E h (tchV a) (do Instr.storeAt t ua u; pure .skip) w vs k := by
  unfold storeX at hh
  split at hh
  case h_2 => exact hh.elim
  rename_i ti l ht hcl
  have hs := TIs.of (hT _ _ ht)
  have hru := cells_rel hcl hx
  split at hh
  · rename_i it off
    split at hh
    case h_2 => exact hh.elim
    rename_i ty cs hit
    replace hh := when_iff hh
    obtain ⟨hb, hh⟩ := hh
    rw [forceL_eq, setH_eq] at hh
    simp only [Bool.and_eq_true] at hb
    have hlz : l.length = ti.size := Nat.eq_of_beq_eq_true hb.1
    have hle := Nat.le_of_ble_eq_true hb.2
    have hi := itemAt_eq _ _ hit (by simp)
    obtain ⟨cur, hcur, hrel⟩ := hp.ok it _ hi
    obtain ⟨hn, rfl⟩ := ha
    have hus : u.cells.size = ti.size := by rw [← Array.length_toList, ← hru.len, hlz]
    have hcl2 : cs.length = cur.size := by rw [hrel.len, Array.length_toList]
    have hrun := run_storeVar (P := P) hs w (E.blk it) off ty cur u hcur hus hru.all (by omega)
    have hput := RelL.put off hrel hru
    have hlen2 : u.cells.toList.length = ti.size := by rw [Array.length_toList]; exact hus
    rw [hlen2] at hput
    refine ⟨.skip, undef, w.setRow (E.blk it) (cur.toList.take off ++ u.cells.toList ++ cur.toList.drop (off + ti.size)).toArray, .un, ts, _, E, .inr ⟨rfl, rfl⟩, ?_, hh, trivial, hr, ?_, ⟨by simp [World.setRow], fun b hb hne => setRow_other' w _ b _ (fun e => hne it _ rfl hi (by rw [e]; rfl))⟩, After.set hi rfl⟩
    · simp [Instr.storeAt, Instr.sureAddr, hrun]
    · refine hp.put hi rfl (fun c hc => hc.symm) ⟨_, setRow_heap w (E.blk it) cur _ ty _ hcur, by simpa using hput⟩ ?_ rfl rfl rfl (fun k hk => setRow_other' w _ k _ hk)
      simp [World.setRow]
  · rename_i it i z off
    -- a store into a row of packs
    have pst : ∀ {e : TypeId} {as as' : List AbsL} {o o' : Option (Nat × List XC)}, h[it]? = some (.prow e z as o) → as'.length = as.length → l.length = ti.size → off + ti.size ≤ z → i < as.length → k .un ts (h.set it (.prow e z as' o')) →
        (∀ (ys : List Value) (Ss : Nat → Nat → Prop) (w' : World), PRow E w it e z as o ys Ss → (∀ b, (E.sl it).ownBlock ≠ some b → w'.heap[b]? = w.heap[b]?) → ys.length = as.length * z →
          w'.ownsRow 0 e z (E.sl it) as.length (ys.take (i * z + off) ++ u.cells.toList ++ ys.drop (i * z + off + ti.size)) →
          ∃ Ss', PRow E w' it e z as' o' (ys.take (i * z + off) ++ u.cells.toList ++ ys.drop (i * z + off + ti.size)) Ss') → Done P w0 F E h (some it) (do Instr.storeAt t ua u; pure .skip) w vs k := by
      intro e as as' o o' hi hlen hlz hle hilt hk hpr'
      obtain ⟨ys, Ss, hpr⟩ := hp.ok it _ hi
      obtain ⟨hn, g, n, c, hsl, rfl⟩ := ha
      rcases hpr.row.2 with ⟨hnil, _⟩ | ⟨g', cap, cur, hsl', h0, hg, hnc, hcm, hcs2, htake⟩
      · rw [hsl] at hnil; cases hnil
      rw [hsl] at hsl'
      simp only [Value.slice.injEq, Option.some.injEq, Addr.mk.injEq, and_true] at hsl'
      obtain ⟨rfl, rfl, rfl⟩ := hsl'
      have hiz : i * z + z ≤ as.length * z := by rw [← Nat.succ_mul]; exact Nat.mul_le_mul_right z hilt
      have hcz : as.length * z ≤ c * z := Nat.mul_le_mul_right z hnc
      have hus : u.cells.size = ti.size := by rw [← Array.length_toList, ← hru.len, hlz]
      have hlen2 : u.cells.toList.length = ti.size := by rw [Array.length_toList]; exact hus
      have hrun := run_storeVar (P := P) hs w g (i * z + off) e cur u hg hus hru.all (by omega)
      have hys : ys.length = as.length * z := hpr.row.1
      let w' := w.setRow g (cur.toList.take (i * z + off) ++ u.cells.toList ++ cur.toList.drop (i * z + off + ti.size)).toArray
      have hown : w'.ownsRow 0 e z (E.sl it) as.length (ys.take (i * z + off) ++ u.cells.toList ++ ys.drop (i * z + off + ti.size)) := by
        refine ⟨?_, .inr ⟨g, c, _, by simpa using hsl, Nat.zero_le _, setRow_heap w g cur _ e _ hg, by simpa using hnc, hcm, ?_, ?_⟩⟩
        · simp only [List.length_append, List.length_take, List.length_drop, hlen2]; omega
        · simp only [List.size_toArray, List.length_append, List.length_take, List.length_drop, Array.length_toList, hlen2]; omega
        · rw [← htake, ← hlen2]
          simp only [List.size_toArray]
          exact take_splice cur.toList u.cells.toList (i * z + off) (as.length * z) (by omega) (show as.length * z ≤ cur.toList.length by have e : cur.toList.length = cur.size := Array.length_toList; rw [e, hcs2]; exact hcz)
      have hoth : ∀ b, (E.sl it).ownBlock ≠ some b → w'.heap[b]? = w.heap[b]? := fun b hb => setRow_other' w _ b _ (fun e => hb (by rw [e, hsl]; rfl))
      obtain ⟨Ss', hpr2⟩ := hpr' ys Ss w' hpr hoth hys hown
      refine ⟨.skip, undef, w', .un, ts, _, E, .inr ⟨rfl, rfl⟩, ?_, hk, trivial, hr, ?_, ⟨by simp [w', World.setRow], fun b hb hne => hoth b (fun e => hne it _ rfl hi (hpr.blk b e))⟩, After.set hi rfl⟩
      · simp [Instr.storeAt, Instr.sureAddr, hrun, w']
      · exact hp.putTo hi (fun c hc => hc) ⟨_, Ss', hpr2⟩ (by simp [w', World.setRow]) rfl rfl rfl (fun b hb => hoth b fun e => hb (hpr.blk b e))
    -- what the other elements lie in
    have other : ∀ {ys us : List Value} {j : Nat}, us.length = ti.size → off + ti.size ≤ z → (i + 1) * z ≤ ys.length → j ≠ i → ((ys.take (i * z + off) ++ us ++ ys.drop (i * z + off + ti.size)).drop (j * z)).take z = (ys.drop (j * z)).take z := by
      intro ys us j hus hle hiz hne
      apply List.ext_getElem?
      intro q
      simp only [List.getElem?_take, List.getElem?_drop, List.getElem?_append, List.length_append, List.length_take]
      have hiz' : i * z + z ≤ ys.length := by rw [← Nat.succ_mul]; exact hiz
      split
      case isFalse => rfl
      rename_i hq
      rw [show min (i * z + off) ys.length = i * z + off by omega]
      rcases Nat.lt_or_gt_of_ne hne with hlt | hgt
      · have : j * z + z ≤ i * z := by rw [← Nat.succ_mul]; exact Nat.mul_le_mul_right z hlt
        rw [if_pos (by omega), if_pos (by omega), if_pos (by omega)]
      · have : i * z + z ≤ j * z := by rw [← Nat.succ_mul]; exact Nat.mul_le_mul_right z hgt
        rw [if_neg (by omega)]
        congr 1; omega
    have here : ∀ {ys us : List Value}, us.length = ti.size → off + ti.size ≤ z → (i + 1) * z ≤ ys.length → ((ys.take (i * z + off) ++ us ++ ys.drop (i * z + off + ti.size)).drop (i * z)).take z = ((ys.drop (i * z)).take z).take off ++ us ++ ((ys.drop (i * z)).take z).drop (off + us.length) := by
      intro ys us hus hle hiz
      have hiz' : i * z + z ≤ ys.length := by rw [← Nat.succ_mul]; exact hiz
      apply List.ext_getElem?
      intro q
      simp only [List.getElem?_take, List.getElem?_drop, List.getElem?_append, List.length_append, List.length_take, List.length_drop]
      rw [show min (i * z + off) ys.length = i * z + off by omega, show min off (min z (ys.length - i * z)) = off by omega]
      by_cases hq : q < z
      · rw [if_pos hq]
        by_cases h1 : q < off
        · rw [if_pos (by omega), if_pos (by omega), if_pos (by omega), if_pos (by omega), if_pos (by omega), if_pos (by omega), if_pos (by omega)]
        · by_cases h2 : q < off + us.length
          · rw [if_pos (by omega), if_neg (by omega), if_pos h2, if_neg h1]
            congr 1; omega
          · rw [if_neg (by omega), if_neg h2, if_pos (by omega)]
            congr 1; omega
      · rw [if_neg hq, if_neg (by omega), if_neg (by omega)]
    split at hh
    case h_4 => exact hh.elim
    case h_2 e z' as i' cs hit =>
      replace hh := when_iff hh
      obtain ⟨hb, rfl, hh⟩ := hh
      rw [forceL_eq, setH_eq] at hh
      simp only [Bool.and_eq_true] at hb
      obtain ⟨⟨hz, hlz⟩, hle⟩ := hb
      have hz := Nat.eq_of_beq_eq_true hz
      subst hz
      have hlz : l.length = ti.size := Nat.eq_of_beq_eq_true hlz
      have hle := Nat.le_of_ble_eq_true hle
      have hi := itemAt_eq _ _ hit (by simp)
      have hus : u.cells.toList.length = ti.size := by rw [← hru.len, hlz]
      have hilt : i < as.length := by obtain ⟨_, _, hpr⟩ := hp.ok it _ hi; exact (hpr.op _ _ rfl).1
      refine pst hi rfl hlz hle hilt hh fun ys Ss w' hpr hoth hys hown => ⟨Ss, ?_⟩
      have hiz : (i + 1) * z ≤ ys.length := by rw [hys]; exact Nat.mul_le_mul_right z hilt
      refine ⟨hown, fun j a ha hno => ?_, fun j cs' e => ?_, hpr.sep, hpr.own, hpr.blk⟩
      · have hj : j ≠ i := fun e => hno _ (by rw [e])
        rw [other hus hle hiz hj]
        exact a.st (fun _ h => ⟨h, rfl⟩) (fun b hb => hoth b (hpr.own j b hb).2) (hpr.el j a ha fun cs'' e => by cases e; exact hj rfl)
      · cases e
        obtain ⟨g1, g2, g3⟩ := hpr.op i cs rfl
        have hput := RelL.put off g3 hru
        rw [here hus hle hiz]
        exact ⟨g1, by simp only [putL, List.length_append, List.length_take, List.length_drop]; omega, hput⟩
    case h_3 e z' as hit =>
      replace hh := when_iff hh
      obtain ⟨hb, hilt, hh⟩ := hh
      rw [setH_eq] at hh
      simp only [Bool.and_eq_true] at hb
      obtain ⟨⟨⟨⟨hz, hlz⟩, ho0⟩, htz⟩, hst⟩ := hb
      have hz := Nat.eq_of_beq_eq_true hz
      subst hz
      have hlz : l.length = ti.size := Nat.eq_of_beq_eq_true hlz
      have ho0 := Nat.eq_of_beq_eq_true ho0
      have htz := Nat.eq_of_beq_eq_true htz
      have hle : off + ti.size ≤ z := by omega
      have hi := itemAt_eq _ _ hit (by simp)
      have hus : u.cells.toList.length = ti.size := by rw [← hru.len, hlz]
      refine pst hi (by simp) hlz hle hilt hh fun ys Ss w' hpr hoth hys hown => ⟨fun j b => j ≠ i ∧ Ss j b, ?_⟩
      have hiz : (i + 1) * z ≤ ys.length := by rw [hys]; exact Nat.mul_le_mul_right z hilt
      refine ⟨by rw [List.length_set]; exact hown, fun j a ha hno => ?_, fun j cs' e => (by cases e), fun j j' b h1 h2 => hpr.sep j j' b h1.2 h2.2, fun j b hb => hpr.own j b hb.2, hpr.blk⟩
      by_cases hj : j = i
      · subst hj
        rw [List.getElem?_set_self hilt] at ha
        cases ha
        rw [here hus hle hiz, ho0, List.take_zero, List.nil_append, List.drop_of_length_le (by rw [List.length_take]; omega), List.append_nil]
        exact ⟨allSt_iff hst, E, rfl, hru⟩
      · rw [List.getElem?_set_ne (fun e => hj e.symm)] at ha
        rw [other hus hle hiz hj]
        have hSs : (fun b => j ≠ i ∧ Ss j b) = Ss j := by funext b; exact propext ⟨fun h => h.2, fun h => ⟨hj, h⟩⟩
        rw [hSs]
        exact a.st (fun _ h => ⟨h, rfl⟩) (fun b hb => hoth b (hpr.own j b hb).2) (hpr.el j a ha fun cs'' e => (by cases e))
    rename_i e z' xs hit
    replace hh := when_iff hh
    obtain ⟨hb, cs, hcs, hh⟩ := hh
    rw [setH_eq] at hh
    simp only [Bool.and_eq_true] at hb
    obtain ⟨⟨⟨hz, hlz⟩, hle⟩, hst⟩ := hb
    have hz := Nat.eq_of_beq_eq_true hz
    subst hz
    have hlz : l.length = ti.size := Nat.eq_of_beq_eq_true hlz
    have hle := Nat.le_of_ble_eq_true hle
    have hi := itemAt_eq _ _ hit (by simp)
    obtain ⟨ys, how, hrel, hl, hs2⟩ := hp.ok it _ hi
    obtain ⟨hn, g, n, c, hsl, rfl⟩ := ha
    rcases how.2 with ⟨hnil, _⟩ | ⟨g', cap, cur, hsl', h0, hg, hnc, hcm, hcs2, htake⟩
    · rw [hsl] at hnil; cases hnil
    rw [hsl] at hsl'
    simp only [Value.slice.injEq, Option.some.injEq, Addr.mk.injEq, and_true] at hsl'
    obtain ⟨rfl, rfl, rfl⟩ := hsl'
    have hilt : i < xs.length := (List.getElem?_eq_some_iff.1 hcs).1
    have hiz : i * z + z ≤ xs.length * z := by rw [← Nat.succ_mul]; exact Nat.mul_le_mul_right z hilt
    have hcz : xs.length * z ≤ c * z := Nat.mul_le_mul_right z hnc
    have hus : u.cells.size = ti.size := by rw [← Array.length_toList, ← hru.len, hlz]
    have hlen2 : u.cells.toList.length = ti.size := by rw [Array.length_toList]; exact hus
    have hrun := run_storeVar (P := P) hs w g (i * z + off) e cur u hg hus hru.all (by omega)
    have hfl := flatten_put (l := l) (off := off) xs i cs hl hcs (by omega)
    have hput := RelL.put (i * z + off) hrel hru
    rw [hlen2, ← hfl] at hput
    refine ⟨.skip, undef, w.setRow g (cur.toList.take (i * z + off) ++ u.cells.toList ++ cur.toList.drop (i * z + off + ti.size)).toArray, .un, ts, _, E, .inr ⟨rfl, rfl⟩, ?_, hh, trivial, hr, ?_, ⟨by simp [World.setRow], fun b hb hne => setRow_other' w _ b _ (fun e => hne it _ rfl hi (by rw [e]; simp [Ow, hsl, Value.ownBlock]))⟩, After.set hi rfl⟩
    · simp [Instr.storeAt, Instr.sureAddr, hrun]
    · have hb1 : ∀ y, Ow E it (.row e z y) g := fun y => by simp [Ow, hsl, Value.ownBlock]
      refine hp.put hi (hb1 _) (fun c hc => by simp [Ow, hsl, Value.ownBlock] at hc; exact hc.symm) ⟨ys.take (i * z + off) ++ u.cells.toList ++ ys.drop (i * z + off + ti.size), ⟨?_, .inr ⟨g, c, _, by simpa using hsl, Nat.zero_le _, setRow_heap w g cur _ e _ hg, by simpa using hnc, hcm, ?_, ?_⟩⟩, hput, ?_, ?_⟩
        ?_ rfl rfl rfl (fun k hk => setRow_other' w _ k _ hk)
      · have := how.1
        simp only [List.length_append, List.length_take, List.length_drop, List.length_set, hlen2]; omega
      · simp only [List.size_toArray, List.length_append, List.length_take, List.length_drop, Array.length_toList, hlen2]; omega
      · have hys : ys.length = xs.length * z := how.1
        rw [← htake, ← hlen2]
        simp only [List.size_toArray, List.length_set]
        exact take_splice cur.toList u.cells.toList (i * z + off) (xs.length * z) (by omega) (show xs.length * z ≤ cur.toList.length by have e : cur.toList.length = cur.size := Array.length_toList; rw [e, hcs2]; exact hcz)
      · intro y hy
        rcases List.mem_or_eq_of_mem_set hy with h1 | rfl
        · exact hl y h1
        · have := hl cs (List.mem_of_getElem? hcs)
          simp only [putL, List.length_append, List.length_take, List.length_drop]; omega
      · intro y hy
        rw [hfl] at hy
        simp only [putL, List.mem_append] at hy
        rcases hy with (h1 | h1) | h1
        · exact hs2 y (List.mem_of_mem_take h1)
        · exact allSt_iff hst y h1
        · exact hs2 y (List.mem_of_mem_drop h1)
      · simp [World.setRow]
  · exact hh.elim

theorem Heap.pushRow (hp : Heap w0 F E h w) {e : TypeId} {z n cap : Nat} {cur : Array Value} {xs : List (List XC)} (hn : n = xs.length) (hnc : n ≤ cap) (hm : cap ≤ maxLen) (hs : cur.size = cap * z)
    (hr : RelL E xs.flatten (cur.toList.take (n * z))) (hl : ∀ l ∈ xs, l.length = z) (hst : ∀ x ∈ xs.flatten, St x) :
    ∃ E', Heap w0 F E' (h ++ [.row e z xs]) (w.alloc (.cells cur e)) ∧ EnvLe E E' ∧ RelC E' (.ow h.length) (.slice (some ⟨w.heap.size, 0, none⟩) n cap) ∧ ∀ t, After E h t w.heap.size E' (h ++ [.row e z xs]) := by
  let v : Value := .slice (some ⟨w.heap.size, 0, none⟩) n cap
  have hle : n * z ≤ cap * z := Nat.mul_le_mul_right z hnc
  refine ⟨E.push 0 v, hp.push (Fr.alloc w _) ⟨cur.toList.take (n * z), ⟨?_, .inr ⟨w.heap.size, cap, cur, ?_, Nat.zero_le _, heap_alloc_new w _, by omega, hm, hs, ?_⟩⟩, hr.mono (Env.push_le _ _ _), hl, hst⟩ (fun b hb => ?_), Env.push_le _ _ _, ?_, fun _ => After.push hp.n (fun c hc => by simp [Ow, Env.push, v, Value.ownBlock] at hc; omega)⟩
  · rw [List.length_take, Array.length_toList, hs, ← hn]; omega
  · simp [Env.push, v, hn]
  · rw [hn]
  · simp [Ow, Env.push, v, Value.ownBlock] at hb
    subst hb; simp
  · exact ⟨by rw [← hp.n]; simp [Env.push], by simp [Env.push, hp.n, v], rfl⟩

theorem Heap.pushCells (hp : Heap w0 F E h w) {t : TypeId} {cs : List XC} {vs : Array Value} (hr : RelL E cs vs.toList) :
    ∃ E', Heap w0 F E' (h ++ [.cells t cs]) (w.alloc (.cells vs t)) ∧ EnvLe E E' ∧ RelC E' (.p h.length 0) (.pointer (some ⟨w.heap.size, 0, none⟩)) ∧ ∀ t', After E h t' w.heap.size E' (h ++ [.cells t cs]) :=
  ⟨E.push w.heap.size undef, hp.alloc t hr, Env.push_le _ _ _, ⟨by rw [← hp.n]; simp [Env.push], by simp [Env.push, hp.n]⟩, fun _ => After.push hp.n (fun c hc => by simp [Ow, Env.push] at hc; omega)⟩

theorem repX_rel {E : Env} {l : List XC} {us : List Value} (hr : RelL E l us) : ∀ n, RelL E (repX n l) (List.replicate n us).flatten
  | 0 => trivial
  | n + 1 => by simp only [repX, List.replicate_succ, List.flatten_cons]; exact hr.append (repX_rel hr n)

theorem madeRow (z : Array Value) (hz : 0 < z.size) : ∀ n, ((Array.range (n * z.size)).map (fun i => z[i % z.size]!)).toList = (List.replicate n z.toList).flatten := by
  intro n
  simp only [Array.toList_map, Array.toList_range]
  induction n with
  | zero => simp
  | succ n ih =>
    rw [List.replicate_succ', List.flatten_append, ← ih, Nat.succ_mul, List.range_add, List.map_append]
    congr 1
    simp only [List.flatten_cons, List.flatten_nil, List.append_nil, List.map_map]
    apply List.ext_getElem?
    intro i
    by_cases hi : i < z.size
    · simp [hi, Nat.mul_add_mod_self_right, Nat.add_mod, Nat.mod_eq_of_lt hi]
    · simp [hi]

theorem keep_alloc (E : Env) (h : List It) (t : Option Nat) (w : World) (o : Obj) : Keep E h t w (w.alloc o) :=
  ⟨(Fr.alloc w o).size, fun b hb _ => (Fr.alloc w o).block b hb (fun x => x)⟩

include hT in
theorem effX_sound {ts : List XV} {o : Oper} {a : Act} {k : KE} (hh : effX T ts h o.op k) (hr : RelTs E ts a.tmps.toList) (hp : Heap w0 F E h w) :
    Done P w0 F E h (tchOp ts o.op) (execOp a.eval o) w a.tmps.toList k := by
  have ev := fun x => opv_rel (E := E) hr x
  unfold effX at hh
  unfold execOp
  split at hh <;> rename_i hop
  case h_7 => exact hh.elim
  all_goals (simp only [hop])
  · rename_i t
    split at hh
    case h_2 => exact hh.elim
    rename_i ti ht
    have hs := TIs.of (hT _ _ ht)
    rw [forceL_eq, lenK_eq, snocH_eq] at hh
    obtain ⟨z, hz, hzc⟩ := run_zero hs w
    obtain ⟨E', hp', hE, hv, haf⟩ := hp.pushCells (t := t) (vs := z.cells) (cs := zeroX ti.zero) (by rw [hzc]; exact zeroX_rel E _ hs.zone)
    refine ⟨_, _, _, _, _, _, E', .inl rfl, ?_, hh, hv, hr.mono hE, hp', keep_alloc E h _ w _, haf _⟩
    simp [Instr.alloc, hz, newVar, newRow]
  · rename_i t x
    split at hh
    case h_2 => exact hh.elim
    rename_i l hl
    rw [forceL_eq, lenK_eq, snocH_eq] at hh
    obtain ⟨E', hp', hE, hv, haf⟩ := hp.pushCells (t := t) (vs := (a.eval x).cells) (cs := l) (cells_rel hl (ev x))
    refine ⟨_, _, _, _, _, _, E', .inl rfl, ?_, hh, hv, hr.mono hE, hp', keep_alloc E h _ w _, haf _⟩
    simp [Instr.box, newVar, newRow]
  · rename_i t n ps
    split at hh
    case h_2 => exact hh.elim
    rename_i ti ht
    split at hh
    case h_2 => exact hh.elim
    rename_i e hkd
    have hu := mkKd_sl ((TIs.of (hT _ _ ht)).kd.symm.trans hkd)
    split at hh
    case h_2 => exact hh.elim
    rename_i ei hte
    have hs := TIs.of (hT _ _ hte)
    replace hh := when_iff hh
    obtain ⟨hb, hh⟩ := hh
    simp only [Bool.and_eq_true] at hb
    have hpos : 0 < n * ei.size := by
      have : 0 + 1 ≤ n * ei.size := by simpa [Nat.blt, Nat.ble_eq] using hb.1
      omega
    have hsmall := Nat.le_of_ble_eq_true hb.2
    rw [forceL_eq] at hh
    obtain ⟨z, hz, hzc⟩ := run_zero hs w
    have hzs : z.cells.size = ei.size := by rw [← Array.length_toList, hzc, hs.zlen]
    have hz0 : 0 < z.cells.size := by rw [hzs]; exact Nat.pos_of_mul_pos_left hpos
    have hmade := madeRow z.cells hz0 n
    rw [hzs] at hmade
    have hrz : RelL E (repX n (zeroX ei.zero)) ((Array.range (n * ei.size)).map (fun i => z.cells[i % ei.size]!)).toList := by
      rw [hmade, hzc]; exact repX_rel (zeroX_rel E _ hs.zone) n
    obtain ⟨r, vs, hh, hf, hrel, hsz⟩ := fillX_sound (us := (ps.map fun p => (p.1, a.eval p.2)).toList) hh (by simp [Function.comp_def]) (fun i x u hx hu => by
      simp only [List.map_map, Array.toList_map] at hx hu
      simp only [List.getElem?_map, Option.map_eq_some_iff] at hx hu
      obtain ⟨p, hp', rfl⟩ := hx
      obtain ⟨p', hp'', rfl⟩ := hu
      rw [hp'] at hp''; cases hp''
      exact ev _) hrz
    replace hh := when_iff hh
    obtain ⟨hb2, hh⟩ := hh
    rw [forceLL_eq, lenK_eq, snocH_eq] at hh
    simp only [Bool.and_eq_true] at hb2
    have hrl : r.length = n * ei.size := Nat.eq_of_beq_eq_true hb2.1
    obtain ⟨hfl, hcl, hcn⟩ := chunk_flat ei.size n r hrl
    have hn : n ≤ 10000 := Nat.le_trans (Nat.le_mul_of_pos_right n (Nat.pos_of_mul_pos_left hpos)) hsmall
    obtain ⟨E', hp', hE, hv, haf⟩ := hp.pushRow (e := e) (z := ei.size) (n := n) (cap := n) (cur := vs) (xs := chunk ei.size n r) hcn.symm (Nat.le_refl _) (by simp only [maxLen]; omega)
      (by rw [hsz]; simp) (by rw [hfl, List.take_of_length_le (by rw [Array.length_toList, hsz]; simp)]; exact hrel) hcl (by rw [hfl]; exact allSt_iff hb2.2)
    refine ⟨_, _, _, _, _, _, E', .inl rfl, ?_, hh, hv, hr.mono hE, hp', keep_alloc E h _ w _, haf _⟩
    have hno : ¬ (n * ei.size > 2 ^ 24) := by omega
    have hne : ¬ (n * ei.size = 0) := by omega
    simp only [Instr.buildSlice, Sem.run_bind, run_underlying hu, Result.andThen_ok, run_size hs, Sem.run_ite, hno, hne, if_false, Sem.run_pure, hz, hzs]
    simp only [hf, newRow]
    simp
  · rename_i t n c
    split at hh
    case h_2 => exact hh.elim
    rename_i ti xn xc ht hn hc
    split at hh
    case h_2 => exact hh.elim
    rename_i e l1 k1 n' l2 k2 c' hkd h1 h2
    have hu := mkKd_sl ((TIs.of (hT _ _ ht)).kd.symm.trans hkd)
    split at hh
    case h_2 => exact hh.elim
    rename_i ei hte
    have hs := TIs.of (hT _ _ hte)
    replace hh := when_iff hh
    obtain ⟨hb, hin, hh⟩ := hh
    rw [lenK_eq, snocH_eq] at hh
    simp only [Bool.and_eq_true] at hb
    have hpos : 0 < ei.size := by
      have : 0 + 1 ≤ ei.size := by simpa [Nat.blt, Nat.ble_eq] using hb.1.1
      omega
    have hby := Nat.le_of_ble_eq_true hb.1.2
    have hvn := ev n
    have hvc := ev c
    rw [hn] at hvn
    rw [hc] at hvc
    have hvn := asI_rel h1 hvn
    have hvc := asI_rel h2 hvc
    obtain ⟨i, hi, hsz, hbi, z, hz0, hzc, _, hzs⟩ := hs.info
    have hmz : ((madeCells z.cells (c'.toNat * ei.size)).toList) = (List.replicate c'.toNat z.cells.toList).flatten := by
      have := madeRow z.cells (by rw [hzs]; exact hpos) c'.toNat
      rw [hzs] at this
      rw [← this]; simp [madeCells, hzs]
    have hbytes : (i.bytes : Int) * c' ≤ 281474976710656 := by
      have h3 : ei.bytes * c'.toNat ≤ 100000000000000 := Nat.le_trans (Nat.mul_le_mul hby (show c'.toNat ≤ 1000000000 by omega)) (by decide)
      have h4 : ((ei.bytes * c'.toNat : Nat) : Int) ≤ ((100000000000000 : Nat) : Int) := Int.ofNat_le.2 h3
      rw [Int.natCast_mul, Int.toNat_of_nonneg (by omega)] at h4
      rw [hbi]; omega
    have hrun := run_make (P := P) w t e i z hu hi hz0 k1 k2 n' c' hin.1 hin.2.1 hbytes (by omega)
    have hrep : ∀ (n : Nat) (l : List Value), l.length = ei.size → ((List.replicate n l).flatten).length = n * ei.size := fun n l hl => by simp [hl]
    have htk : (madeCells z.cells (c'.toNat * ei.size)).toList.take (n'.toNat * ei.size) = (List.replicate n'.toNat z.cells.toList).flatten := by
      rw [hmz, show c'.toNat = n'.toNat + (c'.toNat - n'.toNat) by omega, ← List.replicate_append_replicate, List.flatten_append, List.take_left' (hrep _ _ (by rw [Array.length_toList, hzs]))]
    obtain ⟨E', hp', hE, hv, haf⟩ := hp.pushRow (e := e) (z := ei.size) (n := n'.toNat) (cap := c'.toNat) (cur := madeCells z.cells (c'.toNat * ei.size)) (xs := List.replicate n'.toNat (zeroX ei.zero)) (by simp) (by omega)
      (by simp only [maxLen]; omega) (by simp [madeCells]) (by rw [htk, hzc]; exact repX_rel (zeroX_rel E _ hs.zone) _) (by intro l hl; rw [List.eq_of_mem_replicate hl]; simp [zeroX, hs.zlen])
      (by intro x hx
          obtain ⟨l, hl, hx⟩ := List.mem_flatten.1 hx
          rw [List.eq_of_mem_replicate hl] at hx
          exact allSt_iff hb.2 x hx)
    refine ⟨_, _, _, _, _, _, E', .inl rfl, ?_, hh, hv, hr.mono hE, hp', keep_alloc E h _ w _, haf _⟩
    rw [hvn, hvc]
    simp [hrun, hsz]
  · exact storeX_sound hT hh (ev _) (ev _) hr hp
  · rename_i c
    obtain ⟨callee, args, argTypes⟩ := c
    simp only at hh
    split at hh
    · rename_i d s t t' e2 e3
      obtain rfl : args = #[d, s] := by cases args; simpa using e2
      obtain rfl : argTypes = #[t, t'] := by cases argTypes; simpa using e3
      replace hh := when_iff hh
      obtain ⟨ht, hh⟩ := hh
      have ht := Nat.eq_of_beq_eq_true ht
      subst ht
      have := appX_sound (ty := o.type) hT hh (ev d) (ev s) hr hp
      simpa [resolve, invoke, builtin, tchOp] using this
    · exact hh.elim
end
end Go.Eng

/- The engine, part Ja: a row of the run's own that turns no more, lent or laid aside for good; nothing of any program is proved here. -/
namespace Go.Eng
open Go Go.RowKit
set_option linter.unusedSimpArgs false
set_option linter.unusedVariables false

def nthL : List (List XC) → Nat → List XC
  | [], _ => []
  | a :: _, 0 => a
  | _ :: l, n + 1 => nthL l n
def cell2 (xs : List (List XC)) (i j : Nat) : XC := nthC (nthL xs i) j
def rsOf (xs : List (List XC)) (z : Nat) : XC := .rs xs.length z (cell2 xs)

theorem nthL_eq : ∀ (l : List (List XC)) (i : Nat), nthL l i = (l[i]?).getD []
  | [], _ => rfl
  | _ :: _, 0 => rfl
  | _ :: l, n + 1 => by simp [nthL, nthL_eq l n]
theorem nthC_getD : ∀ (l : List XC) (i : Nat), nthC l i = (l[i]?).getD .un
  | [], _ => rfl
  | _ :: _, 0 => rfl
  | _ :: l, n + 1 => by simp [nthC, nthC_getD l n]
theorem flat_at {z : Nat} : ∀ {xs : List (List XC)}, (∀ l ∈ xs, l.length = z) → ∀ i j, i < xs.length → j < z → xs.flatten[i * z + j]? = some (cell2 xs i j)
  | [], _, i, j, hi, _ => by simp at hi
  | x :: xs, hl, 0, j, _, hj => by
    have hx := hl x (by simp)
    rw [List.flatten_cons, Nat.zero_mul, Nat.zero_add, List.getElem?_append_left (by omega)]
    simp only [cell2, nthL, nthC_getD]
    rw [List.getElem?_eq_getElem (by omega)]; rfl
  | x :: xs, hl, i + 1, j, hi, hj => by
    have hx := hl x (by simp)
    rw [List.flatten_cons, List.getElem?_append_right (by rw [hx, Nat.succ_mul]; omega), hx, Nat.succ_mul]
    have : i * z + z + j - z = i * z + j := by omega
    rw [this, flat_at (fun l h => hl l (by simp [h])) i j (by simpa using hi) hj]
    rfl

/-- Blocks more that don't turn. -/
def Env.more (E : Env) (w : World) (B : Nat → Prop) : Env := { E with bs := ⟨w, fun b => E.bs.B b ∨ B b⟩ }

section
variable {E : Env} {h : List It} {w0 : Org} {w : World} {F : Nat → Prop} {B : Nat → Prop}

theorem Heap.le_more (hp : Heap w0 F E h w) : EnvLe E (E.more w B) :=
  ⟨Nat.le_refl _, fun _ _ => rfl, fun _ _ => rfl, fun _ _ => rfl, fun b hb => ⟨.inl hb, (hp.bs b hb).2⟩⟩

/-- A row, as a slice that doesn't turn. -/
theorem Heap.rs_of (hp : Heap w0 F E h w) {it e z : Nat} {xs : List (List XC)} (hx : h[it]? = some (.row e z xs)) (hB : ∀ b, (E.sl it).ownBlock = some b → B b) : RelC (E.more w B) (rsOf xs z) (E.sl it) := by
  obtain ⟨ys, how, hr, hl, hst⟩ := hp.ok it _ hx
  rcases how.2 with ⟨hsl, h0⟩ | ⟨g, cap, cur, hsl, _, _, hnc, hm, _, _⟩
  · refine ⟨none, 0, by rw [hsl, h0], by omega, by simp [maxLen], fun i hi => by omega⟩
  · refine ⟨_, _, hsl, hnc, hm, fun i hi => ⟨_, rfl, fun j hj => ?_⟩⟩
    have hf := flat_at hl i j hi hj
    obtain ⟨u, hu, hru⟩ := hr.get _ hf
    refine ⟨.inr (hB g (by simp [hsl, Value.ownBlock])), u, how.cells (by simp [hsl, Value.ownBlock]) _ _ hu, hst _ (List.mem_of_getElem? hf), RelC.mono hp.le_more _ _ hru⟩

/-! ### for good -/
def frzC (it : Nat) (r : XC) (x : XC) : XC :=
  match x with
  | .ow k => (match Nat.beq k it with | true => r | false => .ow k)
  | x => x
def frzL (it : Nat) (r : XC) : List XC → (List XC → Prop) → Prop
  | [], k => k []
  | x :: l, k => forceC (frzC it r x) fun x => frzL it r l fun l => k (x :: l)
theorem frzL_eq (it : Nat) (r : XC) : ∀ (l : List XC) (k : List XC → Prop), frzL it r l k = k (l.map (frzC it r))
  | [], _ => rfl
  | x :: l, k => by simp only [frzL, forceC_eq, frzL_eq it r l, List.map_cons]
def frzV (it : Nat) (r : XC) (x : XV) (k : XV → Prop) : Prop :=
  match x with
  | .c x => forceC (frzC it r x) fun x => k (.c x)
  | .a l => frzL it r l fun l => k (.a l)
  | x => k x
def frzTs (it : Nat) (r : XC) : List XV → (List XV → Prop) → Prop
  | [], k => k []
  | x :: l, k => frzV it r x fun x => frzTs it r l fun l => k (x :: l)
def frzH (it : Nat) (r : XC) : List It → (List It → Prop) → Prop
  | [], k => k []
  | x :: l, k => (match x with
    | .cells ty cs => frzL it r cs fun cs => frzH it r l fun l => k (.cells ty cs :: l)
    | .held vs xs => frzTs it r xs fun xs => frzH it r l fun l => k (.held vs xs :: l)
    | .prow e z as (some (i, cs)) => frzL it r cs fun cs => frzH it r l fun l => k (.prow e z as (some (i, cs)) :: l)
    | x => frzH it r l fun l => k (x :: l))
def frzVf (it : Nat) (r : XC) : XV → XV
  | .c x => .c (frzC it r x)
  | .a l => .a (l.map (frzC it r))
  | x => x
theorem frzV_eq (it : Nat) (r : XC) (x : XV) (k : XV → Prop) : frzV it r x k = k (frzVf it r x) := by
  cases x <;> simp only [frzV, forceC_eq, frzL_eq, frzVf]
theorem frzTs_eq (it : Nat) (r : XC) : ∀ (l : List XV) (k : List XV → Prop), frzTs it r l k = k (l.map (frzVf it r))
  | [], _ => rfl
  | x :: l, k => by simp only [frzTs, frzV_eq, frzTs_eq it r l, List.map_cons]
def frzIt (it : Nat) (r : XC) : It → It
  | .cells ty cs => .cells ty (cs.map (frzC it r))
  | .held vs xs => .held vs (xs.map (frzVf it r))
  | .prow e z as (some (i, cs)) => .prow e z as (some (i, cs.map (frzC it r)))
  | x => x
theorem frzH_eq (it : Nat) (r : XC) : ∀ (h : List It) (k : List It → Prop), frzH it r h k = k (h.map (frzIt it r))
  | [], _ => rfl
  | .prow e z as (some (i, cs)) :: l, k => by simp only [frzH, frzL_eq, frzH_eq it r l, List.map_cons, frzIt]
  | .prow e z as none :: l, k => by simp only [frzH, frzH_eq it r l, List.map_cons, frzIt]
  | .dead :: l, k => by simp only [frzH, frzH_eq it r l, List.map_cons, frzIt]
  | .cells _ _ :: l, k => by simp only [frzH, frzL_eq, frzH_eq it r l, List.map_cons, frzIt]
  | .row _ _ _ :: l, k => by simp only [frzH, frzH_eq it r l, List.map_cons, frzIt]
  | .obj _ :: l, k => by simp only [frzH, frzH_eq it r l, List.map_cons, frzIt]
  | .abs _ :: l, k => by simp only [frzH, frzH_eq it r l, List.map_cons, frzIt]
  | .held _ _ :: l, k => by simp only [frzH, frzTs_eq, frzH_eq it r l, List.map_cons, frzIt]

variable {E' : Env} {it : Nat} {r : XC}
theorem frzC_rel (hle : EnvLe E E') (hr : RelC E' r (E.sl it)) {x : XC} {v : Value} (h : RelC E x v) : RelC E' (frzC it r x) v := by
  unfold frzC
  split
  · rename_i k
    split
    · rename_i hb
      have := Nat.eq_of_beq_eq_true hb
      subst this
      rw [h.2.1]; exact hr
    · exact RelC.mono hle _ _ h
  · exact RelC.mono hle _ _ h
theorem frzL_rel (hle : EnvLe E E') (hr : RelC E' r (E.sl it)) : ∀ {l : List XC} {vs : List Value}, RelL E l vs → RelL E' (l.map (frzC it r)) vs
  | [], [], _ => trivial
  | _ :: _, _ :: _, h => ⟨frzC_rel hle hr h.1, frzL_rel hle hr h.2⟩
  | [], _ :: _, h => h.elim
  | _ :: _, [], h => h.elim
theorem frzV_rel (hle : EnvLe E E') (hr : RelC E' r (E.sl it)) {x : XV} {v : Value} {k : XV → Prop} (hk : frzV it r x k) (h : RelV E x v) : ∃ x', k x' ∧ RelV E' x' v := by
  unfold frzV at hk
  split at hk
  · rw [forceC_eq] at hk; exact ⟨_, hk, frzC_rel hle hr h⟩
  · rw [frzL_eq] at hk
    obtain ⟨vs, rfl, hl⟩ := h
    exact ⟨_, hk, vs, rfl, frzL_rel hle hr hl⟩
  · exact ⟨_, hk, h.mono hle⟩
theorem frzTs_rel (hle : EnvLe E E') (hr : RelC E' r (E.sl it)) : ∀ {ts : List XV} {vs : List Value} {k : List XV → Prop}, frzTs it r ts k → RelTs E ts vs → ∃ ts', k ts' ∧ RelTs E' ts' vs
  | [], [], k, hk, _ => ⟨[], hk, trivial⟩
  | x :: ts, v :: vs, k, hk, h => by
    unfold frzTs at hk
    obtain ⟨x', hk', hx⟩ := frzV_rel hle hr hk h.1
    obtain ⟨ts', hk'', hts⟩ := frzTs_rel hle hr hk' h.2
    exact ⟨_, hk'', hx, hts⟩
  | [], _ :: _, _, _, h => h.elim
  | _ :: _, [], _, _, h => h.elim

theorem Heap.freezeTo (hp : Heap w0 F E h w) {it : Nat} {x : It} (hx : h[it]? = some x) (hrs : RelC (E.more w (Ow E it x)) r (E.sl it)) :
    EnvLe E (E.more w (Ow E it x)) ∧ Heap w0 F (E.more w (Ow E it x)) ((h.map (frzIt it r)).set it .dead) w := by
  have hle : EnvLe E (E.more w (Ow E it x)) := hp.le_more
  refine ⟨hle, ?_⟩
  have hltit := (List.getElem?_eq_some_iff.1 hx).1
  have at_ : ∀ {k : Nat} {y : It}, ((h.map (frzIt it r)).set it .dead)[k]? = some y → (k ≠ it ∧ ∃ x, h[k]? = some x ∧ y = frzIt it r x) ∨ (k = it ∧ y = .dead) := by
    intro k y hy
    by_cases he : it = k
    · subst he; rw [List.getElem?_set_self (by simpa using hltit)] at hy; exact .inr ⟨rfl, by simpa using hy.symm⟩
    · rw [List.getElem?_set_ne he, List.getElem?_map, Option.map_eq_some_iff] at hy
      obtain ⟨x, hx, rfl⟩ := hy
      exact .inl ⟨fun e => he e.symm, x, hx, rfl⟩
  have hbl : ∀ k x', Ow (E.more w (Ow E it x)) k (frzIt it r x') = Ow E k x' := fun k x' => by
    cases x' with
    | prow e z as o => cases o <;> rfl
    | _ => rfl
  refine ⟨?_, ?_, ?_, by simp [Env.more, hp.n], ?_, ?_, ?_, hp.fr⟩
  · rintro k (hB | hB)
    · exact ⟨(hp.bs k hB).1, rfl⟩
    · exact ⟨(hp.own it _ k hx hB).1, rfl⟩
  · exact hp.le.trans hle.bs
  · rintro b (hB | hB)
    · exact hp.nb b hB
    · exact .inr (hp.own it _ b hx hB).2.2
  · intro k y hy
    rcases at_ hy with ⟨_, x', hx', rfl⟩ | ⟨_, rfl⟩
    · have h1 := hp.ok k x' hx'
      cases x' with
      | cells ty cs =>
        obtain ⟨vs, hv, hr⟩ := h1
        exact ⟨vs, hv, frzL_rel hle hrs hr⟩
      | dead => trivial
      | row e z xs => exact h1.mono hle (hp.blkLt hx')
      | obj Φ => exact h1
      | abs A => exact ItOk.mono (x := .abs A) hle (hp.blkLt hx') h1
      | held us qs =>
        obtain ⟨ts', hk, hr⟩ := frzTs_rel (k := fun l => l = qs.map (frzVf it r)) hle hrs (by rw [frzTs_eq]) h1
        subst hk
        exact hr
      | prow e z as o =>
        cases o with
        | none => exact ItOk.mono (x := .prow e z as none) hle (hp.blkLt hx') h1
        | some p =>
          obtain ⟨ys, Ss, h2⟩ := h1
          have h3 := h2.mono hle (hp.blkLt hx')
          refine ⟨ys, Ss, h3.row, fun i a ha hno => h3.el i a ha fun cs e => hno (cs.map (frzC it r)) (by cases e; rfl), fun i cs e => ?_, h3.sep, h3.own, h3.blk⟩
          cases e
          obtain ⟨g1, g2, g3⟩ := h2.op p.1 p.2 rfl
          exact ⟨g1, by simpa using g2, frzL_rel hle hrs g3⟩
    · trivial
  · intro k y b hy hb
    rcases at_ hy with ⟨hk, x', hx', rfl⟩ | ⟨_, rfl⟩
    · rw [hbl] at hb
      have h1 := hp.own k x' b hx' hb
      refine ⟨h1.1, ?_, h1.2.2⟩
      rintro (hB | hB)
      · exact h1.2.1 hB
      · exact hk (hp.sep _ _ _ _ _ hx' hx hb hB)
    · simp [Ow] at hb
  · intro j k y y' b hy hy' hb hb'
    rcases at_ hy with ⟨_, x', hx1, rfl⟩ | ⟨_, rfl⟩
    · rcases at_ hy' with ⟨_, x'', hx2, rfl⟩ | ⟨_, rfl⟩
      · rw [hbl] at hb hb'
        exact hp.sep _ _ _ _ _ hx1 hx2 hb hb'
      · simp [Ow] at hb'
    · simp [Ow] at hb
theorem Heap.freeze (hp : Heap w0 F E h w) {it e z : Nat} {xs : List (List XC)} (hx : h[it]? = some (.row e z xs)) :
    ∃ E', EnvLe E E' ∧ RelC E' (rsOf xs z) (E.sl it) ∧ Heap w0 F E' ((h.map (frzIt it (rsOf xs z))).set it .dead) w := by
  have hrs : RelC (E.more w (Ow E it (.row e z xs))) (rsOf xs z) (E.sl it) := hp.rs_of hx (fun b hb => hb)
  obtain ⟨h1, h2⟩ := hp.freezeTo hx hrs
  exact ⟨_, h1, hrs, h2⟩

/-- What is known of an element, once all turns no more. -/
def fzAt : List AbsL → Nat → List XC
  | [], _ => []
  | a :: _, 0 => a.fz
  | _ :: l, n + 1 => fzAt l n
theorem fzAt_eq : ∀ {l : List AbsL} {i : Nat} {a : AbsL}, l[i]? = some a → fzAt l i = a.fz
  | a :: l, 0, b, h => by simp at h; subst h; rfl
  | _ :: l, i + 1, b, h => fzAt_eq (l := l) (by simpa using h)
  | [], _, _, h => by simp at h
def rsP (as : List AbsL) (z : Nat) : XC := .rs as.length z (fun i j => nthC (fzAt as i) j)
/-- A row of packs, as a slice that doesn't turn. -/
theorem PRow.rs_of {E : Env} {w : World} {k e z : Nat} {as : List AbsL} {ys : List Value} {Ss : Nat → Nat → Prop} (hp : PRow E w k e z as none ys Ss) (hb : E.bs.ok w) {B : Nat → Prop} (hB : ∀ b, E.ext k b → B b) : RelC (E.more w B) (rsP as z) (E.sl k) := by
  rcases hp.row.2 with ⟨hsl, h0⟩ | ⟨g, cap, cur, hsl, _, _, hnc, hm, _, _⟩
  · refine ⟨none, 0, by rw [hsl, h0], by omega, by simp [maxLen], fun i hi => by omega⟩
  · refine ⟨_, _, hsl, hnc, hm, fun i hi => ⟨_, rfl, fun j hj => ?_⟩⟩
    have ha := List.getElem?_eq_getElem hi
    have h1 := hp.el i _ ha (fun cs e => by cases e)
    have h2 := AbsL.fzOk _ h1 (E.more w B) (fun b hb' => ⟨.inl hb', (hb b hb').2⟩) (fun b hb' => ⟨.inr (hB b (hp.own i b hb').1), rfl⟩)
    have hlen : ((ys.drop (i * z)).take z).length = z := by
      have := hp.row.1
      have hle : i * z + z ≤ as.length * z := by rw [← Nat.succ_mul]; exact Nat.mul_le_mul_right z hi
      rw [List.length_take, List.length_drop]; omega
    have hjl : j < (as[i]).fz.length := by rw [h2.len, hlen]; exact hj
    have hf : (as[i]).fz[j]? = some (nthC (as[i]).fz j) := by rw [nthC_getD, List.getElem?_eq_getElem hjl]; rfl
    obtain ⟨u, hu, hru⟩ := h2.get _ hf
    rw [List.getElem?_take, if_pos hj, List.getElem?_drop] at hu
    refine ⟨.inr (hB g (hp.blk g (by simp [hsl, Value.ownBlock]))), u, hp.row.cells (by simp [hsl, Value.ownBlock]) _ _ hu, ?_, ?_⟩
    · show St (nthC (fzAt as i) j)
      rw [fzAt_eq ha]
      exact (as[i]).fzSt _ (List.mem_of_getElem? hf)
    · show RelC _ (nthC (fzAt as i) j) u
      rw [fzAt_eq ha]; exact hru

/-- One own row is laid aside for good. -/
def frz (it : Nat) (ts : List XV) (h : List It) (k : List XV → List It → Prop) : Prop :=
  match itemAt h it with
  | .row _ z xs => frzTs it (rsOf xs z) ts fun ts => frzH it (rsOf xs z) h fun h => setH h it .dead fun h => k ts h
  | .prow _ z as none => frzTs it (rsP as z) ts fun ts => frzH it (rsP as z) h fun h => setH h it .dead fun h => k ts h
  | _ => False
def firstOw : List XC → Option Nat
  | [] => none
  | .ow it :: _ => some it
  | _ :: l => firstOw l
def owOf : XV → Option Nat
  | .c (.ow it) => some it
  | .a l => firstOw l
  | _ => none
/-- The own rows among these operands are laid aside: what they go into keeps them. -/
def frzOps : Nat → List Operand → List XV → List It → (List XV → List It → Prop) → Prop
  | 0, _, _, _, _ => False
  | _ + 1, [], ts, h, k => k ts h
  | n + 1, o :: l, ts, h, k => (match owOf (opv ts o) with
    | none => frzOps n l ts h k
    | some it => frz it ts h fun ts h => frzOps n (o :: l) ts h k)

theorem frz_sound {ts : List XV} {vs : List Value} {k : List XV → List It → Prop} {it : Nat} (hh : frz it ts h k) (hr : RelTs E ts vs) (hp : Heap w0 F E h w) :
    ∃ ts' h' E', k ts' h' ∧ RelTs E' ts' vs ∧ Heap w0 F E' h' w := by
  unfold frz at hh
  split at hh
  case h_3 => exact hh.elim
  · rename_i e z xs hit
    obtain ⟨E', hle, hrs, hp'⟩ := hp.freeze (itemAt_eq _ _ hit (by simp))
    obtain ⟨ts', hk, hr'⟩ := frzTs_rel hle hrs hh hr
    rw [frzH_eq, setH_eq] at hk
    exact ⟨ts', _, E', hk, hr', hp'⟩
  · rename_i e z as hit
    have hx := itemAt_eq _ _ hit (by simp)
    obtain ⟨ys, Ss, hpr⟩ := hp.ok it _ hx
    have hrs : RelC (E.more w (Ow E it (.prow e z as none))) (rsP as z) (E.sl it) := hpr.rs_of hp.bs (fun b hb => hb)
    obtain ⟨hle, hp'⟩ := hp.freezeTo hx hrs
    obtain ⟨ts', hk, hr'⟩ := frzTs_rel hle hrs hh hr
    rw [frzH_eq, setH_eq] at hk
    exact ⟨ts', _, _, hk, hr', hp'⟩
theorem frzOps_sound {vs : List Value} {k : List XV → List It → Prop} : ∀ (n : Nat) {l : List Operand} {ts : List XV} {h : List It} {E : Env}, frzOps n l ts h k → RelTs E ts vs → Heap w0 F E h w →
    ∃ ts' h' E', k ts' h' ∧ RelTs E' ts' vs ∧ Heap w0 F E' h' w
  | 0, _, _, _, _, hh, _, _ => hh.elim
  | n + 1, [], ts, h, E, hh, hr, hp => ⟨ts, h, E, hh, hr, hp⟩
  | n + 1, o :: l, ts, h, E, hh, hr, hp => by
    unfold frzOps at hh
    split at hh
    · exact frzOps_sound n hh hr hp
    · obtain ⟨ts', h', E', hk, hr', hp'⟩ := frz_sound hh hr hp
      exact frzOps_sound n hk hr' hp'
end

/-- What an operation keeps for good. -/
def keptBy (h : List It) (ts : List XV) : Op → List Operand
  | .buildSlice _ _ ps => ps.toList.map (·.2)
  | .store _ a x => (match opv ts a with | .c (.q it _ _ _) => (match itemAt h it with | .prow _ _ _ (some _) => [] | _ => [x]) | _ => [])
  | _ => []
end Go.Eng

/- The engine, part K: operations in a row, and code; nothing of any program is proved here. -/
namespace Go.Eng
open Go Go.RowKit
set_option linter.unusedSimpArgs false
set_option linter.unusedVariables false

structure Cx where
  P : Program
  T : Tab
  js : List Nat
  rd : Option Nat

def FnOk (P : Program) (f : FuncId) : Prop := ∃ fn, P.funcs[f]? = some fn ∧ (fn.name == "runtime.NumGoroutine") = false ∧ fn.body.isSome = true

/-- A call of a Go function, left to its contract. -/
@[irreducible] def CallX (C : Cx) (f : FuncId) (args : List XV) (ts : List XV) (h : List It) (k : KE) : Prop :=
  FnOk C.P f ∧ ∀ w0 F E w vs us, RelTs E ts vs → RelTs E args us → Heap w0 F E h w →
    Calls C.P f us.toArray w fun e w' => ∃ u x ts' h' E', e = .returned u ∧ k x ts' h' ∧ RelV E' x u ∧ RelTs E' ts' vs ∧ Heap w0 F E' h' w'

/-- A call of yield, left to a law: a round of the loop whose record is l. -/
@[irreducible] def YieldX (C : Cx) (l : Nat) (args : List XV) (ts : List XV) (h : List It) (k : KE) : Prop :=
  ∀ w0 F E w vs us, RelTs E ts vs → RelTs E args us → Heap w0 F E h w →
    ∃ fn tmps assign body, (Instr.yield l us.toArray).run C.P w = .ok (.round l fn tmps assign body) w ∧
      RoundIn (fen C.rd) 0 C.P l fn tmps assign body w fun e w' => ∃ u x ts' h' E', e = .returned u ∧ k x ts' h' ∧ RelV E' x u ∧ RelTs E' ts' vs ∧ Heap w0 F E' h' w'
/-- Is it a loop's yield? -/
def yieldOf : XV → Option Nat
  | .c (.v (.func (.yield l) fs cs)) => (match fs.toList, cs.toList with | [], [] => some l | _, _ => none)
  | _ => none

def kindOf : Op → Nat
  | .alloc _ | .box _ _ | .buildSlice _ _ _ | .makeSlice _ _ _ | .store _ _ _ => 1
  | .call c => (match c.callee with
    | .builtin .append => 1
    | .value _ => 2
    | _ => 0)
  | _ => 0

def capL : Nat → Nat → (Nat → XC) → List XV
  | 0, _, _ => []
  | n + 1, o, c => .c (c o) :: capL n (o + 1) c

def fnOf (x : XV) (args : List XV) (k : FuncId → List XV → Prop) : Prop :=
  match x with
  | .c (.v (.func (.func f) fs cs)) => (match fs.toList, cs.toList with | [], [] => k f args | _, _ => False)
  | .c (.fn f n caps) => k f (args ++ capL n 0 caps)
  | _ => False

/-- Literals and others alike: as a contract states arguments. -/
def lowC : XC → XC
  | .il k n => .i k n
  | .bt => .b true
  | .bf => .b false
  | x => x
def lowL : List XC → (List XC → Prop) → Prop
  | [], k => k []
  | x :: l, k => forceC (lowC x) fun x => lowL l fun l => k (x :: l)
def lowV (x : XV) (k : XV → Prop) : Prop :=
  match x with
  | .c x => forceC (lowC x) fun x => k (.c x)
  | .a l => lowL l fun l => k (.a l)
  | x => forceV x k
def lowTs : List XV → (List XV → Prop) → Prop
  | [], k => k []
  | x :: l, k => lowV x fun x => lowTs l fun l => k (x :: l)
theorem lowC_rel {E : Env} {x : XC} {v : Value} (h : RelC E x v) : RelC E (lowC x) v := by cases x <;> exact h
theorem lowL_rel {E : Env} : ∀ {l : List XC} {vs : List Value} {k : List XC → Prop}, lowL l k → RelL E l vs → ∃ l', k l' ∧ RelL E l' vs
  | [], [], _, hk, _ => ⟨_, hk, trivial⟩
  | x :: l, v :: vs, k, hk, h => by
    unfold lowL at hk
    rw [forceC_eq] at hk
    obtain ⟨l', hk', hl⟩ := lowL_rel hk h.2
    exact ⟨_, hk', lowC_rel h.1, hl⟩
  | [], _ :: _, _, _, h => h.elim
  | _ :: _, [], _, _, h => h.elim
theorem lowV_rel {E : Env} {x : XV} {v : Value} {k : XV → Prop} (hk : lowV x k) (h : RelV E x v) : ∃ x', k x' ∧ RelV E x' v := by
  unfold lowV at hk
  split at hk
  · rw [forceC_eq] at hk; exact ⟨_, hk, lowC_rel h⟩
  · obtain ⟨vs, rfl, hl⟩ := h
    obtain ⟨l', hk', hl'⟩ := lowL_rel hk hl
    exact ⟨_, hk', vs, rfl, hl'⟩
  · rw [forceV_eq] at hk; exact ⟨_, hk, h⟩
theorem lowTs_rel {E : Env} : ∀ {l : List XV} {vs : List Value} {k : List XV → Prop}, lowTs l k → RelTs E l vs → ∃ l', k l' ∧ RelTs E l' vs
  | [], [], _, hk, _ => ⟨_, hk, trivial⟩
  | x :: l, v :: vs, k, hk, h => by
    unfold lowTs at hk
    obtain ⟨x', hk', hx⟩ := lowV_rel hk h.1
    obtain ⟨l', hk'', hl⟩ := lowTs_rel hk' h.2
    exact ⟨_, hk'', hx, hl⟩
  | [], _ :: _, _, _, h => h.elim
  | _ :: _, [], _, _, h => h.elim

def callGo (C : Cx) (ts : List XV) (h : List It) (op : Op) (k : KE) : Prop :=
  match op with
  | .call c => (match c.callee with
    | .value f => (match yieldOf (opv ts f) with
      | some l => lowTs (c.args.toList.map (opv ts)) fun args => YieldX C l args ts h k
      | none => fnOf (opv ts f) (c.args.toList.map (opv ts)) fun f args => lowTs args fun args => CallX C f args ts h k)
    | _ => False)
  | _ => False

abbrev KS := List XV → List It → Prop

/-- The value goes to its slot. -/
def fin (dst : Option Tmp) (x : XV) (ts : List XV) (h : List It) (k : KS) : Prop :=
  match dst with
  | some d => forceV x fun x => setK ts d x fun ts => k ts h
  | none => k ts h
theorem fin_eq (dst : Option Tmp) (x : XV) (ts : List XV) (h : List It) (k : KS) : fin dst x ts h k = k (match dst with | some d => ts.set d x | none => ts) h := by
  cases dst <;> simp only [fin, forceV_eq, setK_eq]

/-- Operations that are left to laws of their own: maps, conversions of texts, what goes into an abstract item. -/
def absAt (h : List It) (x : XV) : Bool :=
  match x with
  | .c (.q it _ _ _) => (match itemAt h it with | .abs _ => true | _ => false)
  | .c (.p it _) => (match itemAt h it with | .abs _ => true | _ => false)
  | .c (.ow it) => (match itemAt h it with | .abs _ => true | _ => false)
  | _ => false
/-- A slice or a map that is held against nil. -/
def nilCmpB (x y : XV) : Bool :=
  match x with
  | .c (.rs _ _ _) => (match y with | .c (.v _) => true | _ => false)
  | .c (.ts _ _ _) => (match y with | .c (.v _) => true | _ => false)
  | .c (.ow _) => (match y with | .c (.v _) => true | _ => false)
  | .c (.v (.slice _ _ _)) => (match y with | .c (.v _) => true | _ => false)
  | .c (.v (.map _)) => (match y with | .c (.v _) => true | _ => false)
  | _ => false
def hookB (T : Tab) (ts : List XV) (h : List It) (op : Op) : Bool :=
  match op with
  | .lookup _ _ _ _ | .mapUpdate _ _ _ _ | .mapEntry _ _ _ | .entryStore _ _ _ _ | .makeMap _ _ | .range _ _ | .next _ _ | .entry _ => true
  | .buildSlice _ 0 _ => true
  | .binOp _ _ x y _ => nilCmpB (opv ts x) (opv ts y)
  | .call c => (match c.callee with
    | .builtin .delete | .builtin .copy | .builtin .clear | .builtin .cap => true
    | .builtin .len => (match c.args.toList with | [x] => absAt h (opv ts x) | _ => false)
    | .builtin .append => (match c.args.toList with
      | [x, _] => (match opv ts x with | .c (.ow it) => (match itemAt h it with | .abs _ => true | _ => false) | .c (.rs _ _ _) => true | _ => false)
      | _ => false)
    | _ => false)
  | .convert s d _ => (match T s, T d with
    | some { kd := .sl _, .. }, some { kd := .str, .. } => true
    | some { kd := .str, .. }, some { kd := .sl _, .. } => true
    | _, _ => false)
  | .slice _ x _ _ _ => (match opv ts x with | .c (.ow _) => true | .c (.sw _ _ _ _) => true | _ => false)
  | .load _ a => absAt h (opv ts a)
  | .store _ a _ => absAt h (opv ts a)
  | .indexAddr _ x _ => absAt h (opv ts x)
  | .fieldAddr _ x _ => absAt h (opv ts x)
  | _ => false
/-- An operation left to its own law. -/
@[irreducible] def OpX (C : Cx) (o : Oper) (ts : List XV) (h : List It) (k : KE) : Prop :=
  (∀ c, o.op ≠ .defer c) ∧ ∀ (w0 : Org) (F : Nat → Prop) (E : Env) (w : World) (a : Act), RelTs E ts a.tmps.toList → Heap w0 F E h w →
    ∃ nx u w' x ts' h' E', (nx = .value u ∨ (nx = .skip ∧ u = undef)) ∧ (execOp a.eval o).run C.P w = .ok nx w' ∧ k x ts' h' ∧ RelV E' x u ∧ RelTs E' ts' a.tmps.toList ∧ Heap w0 F E' h' w'

def opX (C : Cx) (o : Oper) (ts : List XV) (h : List It) (k : KS) : Prop :=
  match hookB C.T ts h o.op with
  | true => OpX C o ts h fun x ts h => fin o.dst x ts h k
  | false => match kindOf o.op with
  | 0 => valX C.T ts h (fun _ => true) o.op fun x => fin o.dst x ts h k
  | 1 => frzOps 200 (keptBy h ts o.op) ts h fun ts h => effX C.T ts h o.op fun x ts h => fin o.dst x ts h k
  | _ => callGo C ts h o.op fun x ts h => fin o.dst x ts h k

theorem put_rel {E : Env} {ts : List XV} {a : Act} {x : XV} {u : Value} (dst : Option Tmp) (hr : RelTs E ts a.tmps.toList) (hx : RelV E x u) :
    RelTs E (match dst with | some d => ts.set d x | none => ts) (a.put dst u).tmps.toList := by
  cases dst with
  | none => exact hr
  | some d => simp only [Act.put, Array.toList_setIfInBounds]; exact hr.set d hx

theorem same_refl {E : Env} {h : List It} {w : World} {w0 : Org} {F : Nat → Prop} (hp : Heap w0 F E h w) (rd : Nat → Bool) : Same E h rd w w := ⟨hp.bs, fun _ _ _ _ _ _ => rfl⟩

section
variable {C : Cx} (hT : TabOk C.P C.T)

theorem capL_rel {E : Env} {vs : Array Value} : ∀ (n o : Nat) {caps : Nat → XC}, o + n = vs.size → (∀ j, j < vs.size → ∃ u, vs[j]? = some u ∧ RelC E (caps j) u) → RelTs E (capL n o caps) (vs.toList.drop o)
  | 0, o, caps, hn, _ => by rw [List.drop_of_length_le (by simp; omega)]; trivial
  | n + 1, o, caps, hn, hc => by
    obtain ⟨u, hu, hr⟩ := hc o (by omega)
    have : vs.toList.drop o = u :: vs.toList.drop (o + 1) := by
      rw [List.drop_eq_getElem_cons (by simp; omega)]
      congr 1
      have := (Array.getElem?_eq_some_iff.1 hu).2
      simpa using this
    rw [this]
    exact ⟨hr, capL_rel n (o + 1) (by omega) hc⟩

theorem RelTs.append {E : Env} : ∀ {l l' : List XV} {vs vs' : List Value}, RelTs E l vs → RelTs E l' vs' → RelTs E (l ++ l') (vs ++ vs')
  | [], _, [], _, _, h => h
  | _ :: _, _, _ :: _, _, h, h' => ⟨h.1, RelTs.append h.2 h'⟩
  | [], _, _ :: _, _, h, _ => h.elim
  | _ :: _, _, [], _, h, _ => h.elim

theorem opvs_rel {E : Env} {ts : List XV} {a : Act} (hr : RelTs E ts a.tmps.toList) : ∀ (l : List Operand), RelTs E (l.map (opv ts)) (l.map a.eval)
  | [] => trivial
  | x :: l => ⟨opv_rel hr x, opvs_rel hr l⟩

theorem valX_noDefer {T : Tab} {ts : List XV} {h : List It} {rd : Nat → Bool} {op : Op} {k : XV → Prop} (hh : valX T ts h rd op k) : ∀ c, op ≠ .defer c := fun c e => by
  subst e; exact hh
theorem effX_noDefer {T : Tab} {ts : List XV} {h : List It} {op : Op} {k : KE} (hh : effX T ts h op k) : ∀ c, op ≠ .defer c := fun c e => by
  subst e; exact hh
theorem put_defers (a : Act) (d : Option Tmp) (u : Value) : (a.put d u).defers = a.defers := by cases d <;> rfl

include hT in
theorem opX_sound {w0 : Org} {F : Nat → Prop} {o : Oper} {ts : List XV} {h : List It} {k : KS} {K : Act → World → Prop} {Q : Exit → Act → World → Prop} {a : Act} {w : World} (hh : opX C o ts h k) (hc : Cfg w0 F ts h a w)
    (hK : ∀ ts' h' a' w', k ts' h' → Cfg w0 F ts' h' a' w' → K a' w') : o.wpIn (fen C.rd) 0 C.P a w K Q := by
  obtain ⟨w1, F1, hsub, hd, E, hr, hp⟩ := hc
  unfold opX at hh
  split at hh
  · unfold OpX at hh
    obtain ⟨hnd, hh⟩ := hh
    obtain ⟨nx, u, w', x, ts', h', E', hnx, hrun, hk, hx, hr', hp'⟩ := hh w1 F1 E w a hr hp
    rw [fin_eq] at hk
    refine fen_oper (.inr hnd) ?_
    unfold Oper.wp
    rw [hrun]
    rcases hnx with rfl | ⟨rfl, rfl⟩
    · exact hK _ _ _ _ hk ⟨w1, F1, hsub, by rw [put_defers]; exact hd, E', put_rel (a := a) o.dst hr' hx, hp'⟩
    · exact hK _ _ _ _ hk ⟨w1, F1, hsub, by rw [put_defers]; exact hd, E', put_rel (a := a) o.dst hr' hx, hp'⟩
  split at hh
  · refine fen_oper (.inr (valX_noDefer hh)) ?_
    obtain ⟨x, u, hk, hx, hrun⟩ := valX_sound hT hh hr hp
    rw [fin_eq] at hk
    unfold Oper.wp
    rw [hrun w (same_refl hp _)]
    exact hK _ _ _ _ hk ⟨w1, F1, hsub, by rw [put_defers]; exact hd, E, put_rel o.dst hr hx, hp⟩
  · replace hh := frzOps_sound 200 hh hr hp
    obtain ⟨ts1, h1, E1, hh, hr, hp⟩ := hh
    refine fen_oper (.inr (effX_noDefer hh)) ?_
    obtain ⟨nx, u, w', x, ts', h', E', hnx, hrun, hk, hx, hr', hp', _, _⟩ := effX_sound hT hh hr hp
    rw [fin_eq] at hk
    unfold Oper.wp
    rw [hrun]
    rcases hnx with rfl | ⟨rfl, rfl⟩
    · exact hK _ _ _ _ hk ⟨w1, F1, hsub, by rw [put_defers]; exact hd, E', put_rel (a := a) o.dst hr' hx, hp'⟩
    · exact hK _ _ _ _ hk ⟨w1, F1, hsub, by rw [put_defers]; exact hd, E', put_rel (a := a) o.dst hr' hx, hp'⟩
  · unfold callGo at hh
    split at hh
    case h_2 => exact hh.elim
    rename_i c hop
    obtain ⟨callee, args, argTypes⟩ := c
    simp only at hh
    have hnd : ∀ c, o.op ≠ .defer c := fun c e => by rw [hop] at e; cases e
    split at hh
    case h_2 => exact hh.elim
    rename_i f
    have hf := opv_rel hr f
    have hargs := opvs_rel hr args.toList
    split at hh
    · rename_i l hy
      obtain ⟨xs, hcall, hxs⟩ := lowTs_rel hh hargs
      unfold YieldX at hcall
      obtain ⟨fn, tmps, assign, body, hrun, hround⟩ := hcall w1 F1 E w a.tmps.toList _ hr hxs hp
      unfold yieldOf at hy
      split at hy
      case h_2 => cases hy
      rename_i l' fs cs e
      rw [e] at hf
      split at hy
      case h_2 => cases hy
      rename_i e1 e2
      cases hy
      have hfs : fs = #[] := by cases fs; simpa using e1
      have hcs : cs = #[] := by cases cs; simpa using e2
      subst hfs; subst hcs
      have hv : a.eval f = .func (.yield l) #[] #[] := hf.1
      have hm : Array.map a.eval args = (List.map a.eval args.toList).toArray := by rw [← Array.toList_map, Array.toArray_toList]
      refine ⟨fun _ _ => trivial, ?_⟩
      rw [Oper.semAt_eq _ _ _ hnd]
      have hex : (execOp a.eval o).run C.P w = .ok (.round l fn tmps assign body) w := by
        unfold execOp
        rw [hop]
        simp only [resolve, hv, Deferred.ofValue, invoke, Sem.run_bind, Sem.run_pure, Result.andThen_ok, hm]
        simpa using hrun
      rw [hex]
      refine ⟨fun h => by simp [fen] at h, hround.mono fun e w' he => ?_⟩
      obtain ⟨u, x, ts', h', E', rfl, hk, hx, hr', hp'⟩ := he
      rw [fin_eq] at hk
      exact hK _ _ _ _ hk ⟨w1, F1, hsub, by rw [put_defers]; exact hd, E', put_rel (a := a) o.dst hr' hx, hp'⟩
    refine fen_oper (.inr hnd) ?_
    have key : ∀ (g : FuncId) (xs : List XV) (us : List Value), (lowTs xs fun xs => CallX C g xs ts h (fun x ts h => fin o.dst x ts h k)) → RelTs E xs us →
        (execOp a.eval o).run C.P w = (callFunc g us.toArray).run C.P w → o.wp C.P a w K Q := by
      intro g xs us hcall hxs hex
      obtain ⟨xs, hcall, hxs⟩ := lowTs_rel hcall hxs
      unfold CallX at hcall
      obtain ⟨⟨fn, hfn, hname, hbody⟩, hcall⟩ := hcall
      have hrun : (callFunc g us.toArray).run C.P w = .ok (.enter g us.toArray) w := by
        cases hb : fn.body with
        | none => rw [hb] at hbody; cases hbody
        | some b =>
          have hne : ¬ fn.name = "runtime.NumGoroutine" := by simpa using hname
          simp [callFunc, hfn, hne, hb]
      unfold Oper.wp
      rw [hex, hrun]
      simp only [Oper.upon]
      refine (hcall w1 F1 E w a.tmps.toList us hr hxs hp).mono fun e w' he => ?_
      obtain ⟨u, x, ts', h', E', rfl, hk, hx, hr', hp'⟩ := he
      rw [fin_eq] at hk
      exact hK _ _ _ _ hk ⟨w1, F1, hsub, by rw [put_defers]; exact hd, E', put_rel (a := a) o.dst hr' hx, hp'⟩
    unfold fnOf at hh
    split at hh
    · rename_i g fs cs e
      rw [e] at hf
      split at hh
      · rename_i e1 e2
        have hfs : fs = #[] := by cases fs; simpa using e1
        have hcs : cs = #[] := by cases cs; simpa using e2
        subst hfs; subst hcs
        have hv : a.eval f = .func (.func g) #[] #[] := hf.1
        refine key g _ _ hh hargs ?_
        unfold execOp
        rw [hop]
        have hm : Array.map a.eval args = (List.map a.eval args.toList).toArray := by rw [← Array.toList_map, Array.toArray_toList]
        simp [resolve, hv, Deferred.ofValue, invoke, hm]
      · exact hh.elim
    · rename_i g n caps e
      rw [e] at hf
      obtain ⟨vs, hv, hn, hc⟩ := hf
      refine key g _ _ hh (hargs.append (by have := capL_rel (E := E) (vs := vs) n 0 (caps := caps) (by omega) (fun j hj => hc j (by omega)); simpa using this)) ?_
      unfold execOp
      rw [hop]
      simp only [resolve, hv, Deferred.ofValue, invoke, Sem.run_bind, Sem.run_pure, Result.andThen_ok]
      have hm : Array.map a.eval args ++ vs = (List.map a.eval args.toList ++ vs.toList).toArray := by rw [← Array.toList_map, ← Array.toList_append, Array.toArray_toList]
      simp [hm]
    · exact hh.elim
end
end Go.Eng

/- The engine, part L: guarded operations, code, loops, scopes, functions; nothing of any program is proved here. -/
namespace Go.Eng
open Go Go.RowKit
set_option linter.unusedSimpArgs false
set_option linter.unusedVariables false

def dstAt : List Oper → Nat → Option Tmp
  | [], _ => none
  | o :: _, 0 => o.dst
  | _ :: l, n + 1 => dstAt l n
theorem dstAt_eq : ∀ (l : List Oper) (n : Nat), dstAt l n = (l[n]?).bind (·.dst)
  | [], _ => rfl
  | _ :: _, 0 => rfl
  | _ :: l, n + 1 => by simp [dstAt, dstAt_eq l n]

def bitX (b : Bool) : XV := match b with | true => .c .bt | false => .c .bf

def opsX (C : Cx) (all : List Oper) : List Oper → List XV → List It → KS → Prop
  | [], ts, h, k => k ts h
  | o :: rest, ts, h, k => (match o.guard with
    | none => opX C o ts h fun ts h => opsX C all rest ts h k
    | some (j, want) => (match dstAt all j with
      | none => False
      | some d => (match get ts d, want with
        | .c .bt, true => opX C o ts h fun ts h => opsX C all rest ts h k
        | .c .bf, false => opX C o ts h fun ts h => opsX C all rest ts h k
        | .c .bt, false => fin o.dst (.t []) ts h fun ts h => opsX C all rest ts h k
        | .c .bf, true => fin o.dst (.t []) ts h fun ts h => opsX C all rest ts h k
        | .t [], _ => fin o.dst (.t []) ts h fun ts h => opsX C all rest ts h k
        | .c (.b x), true => (x = true → setK ts d (.c .bt) fun ts => opX C o ts h fun ts h => opsX C all rest ts h k) ∧
            (x = false → setK ts d (.c .bf) fun ts => fin o.dst (.t []) ts h fun ts h => opsX C all rest ts h k)
        | .c (.b x), false => (x = true → setK ts d (.c .bt) fun ts => fin o.dst (.t []) ts h fun ts h => opsX C all rest ts h k) ∧
            (x = false → setK ts d (.c .bf) fun ts => opX C o ts h fun ts h => opsX C all rest ts h k)
        | _, _ => False)))

theorem RelTs.set_self {E : Env} : ∀ {ts : List XV} {vs : List Value} (d : Nat) {x : XV}, RelTs E ts vs → RelV E x (vs.getD d undef) → RelTs E (ts.set d x) vs
  | [], [], _, _, _, _ => trivial
  | _ :: _, _ :: _, 0, _, h, hx => ⟨hx, h.2⟩
  | _ :: _, _ :: _, d + 1, _, h, hx => ⟨h.1, RelTs.set_self d h.2 (by simpa using hx)⟩
  | [], _ :: _, _, _, h, _ => h.elim
  | _ :: _, [], _, _, h, _ => h.elim

theorem undef_rel (E : Env) : RelV E (.t []) undef := ⟨#[], rfl, trivial⟩

/-- What the guard of an operation sees. -/
theorem yielded_of {all : List Oper} {a : Act} {j : Nat} {d : Tmp} {b : Bool} (hd : dstAt all j = some d) (hv : a.tmps.toList.getD d undef = .bool b) : yielded all.toArray a.tmps j = some b := by
  rw [dstAt_eq] at hd
  have hv' : a.tmps[d]? = some (.bool b) := by
    rw [List.getD_eq_getElem?_getD] at hv
    cases h : a.tmps.toList[d]? with
    | none => rw [h] at hv; simp [undef] at hv
    | some v => rw [h] at hv; simp at hv; subst hv; simpa using h
  unfold yielded
  simp [hd, hv']
theorem yielded_undef {all : List Oper} {a : Act} {j : Nat} {d : Tmp} (hd : dstAt all j = some d) (hv : a.tmps.toList.getD d undef = undef) : yielded all.toArray a.tmps j = none := by
  rw [dstAt_eq] at hd
  unfold yielded
  simp only [List.getElem?_toArray, hd, Option.bind_some]
  rw [List.getD_eq_getElem?_getD] at hv
  cases h : a.tmps[d]? with
  | none => rfl
  | some v =>
    have : a.tmps.toList[d]? = some v := by simpa using h
    rw [this] at hv; simp at hv; subst hv; rfl

theorem wanted_of {o : Oper} {j : Nat} {want : Bool} (hg : o.guard = some (j, want)) (y : Nat → Option Bool) : Region.wanted o y = (y j == some want) := by simp [Region.wanted, hg]

section
variable {C : Cx} (hT : TabOk C.P C.T)

include hT in
theorem opsX_sound {w0 : Org} {F : Nat → Prop} {Q : Exit → Act → World → Prop} {all : List Oper} : ∀ {l : List Oper} {ts : List XV} {h : List It} {k : KS} {a : Act} {w : World}, opsX C all l ts h k → Cfg w0 F ts h a w →
    (∀ ts' h' a' w', k ts' h' → Cfg w0 F ts' h' a' w' → Q .normal a' w') → wpListIn (fen C.rd) 0 C.P all.toArray Q l a w
  | [], ts, h, k, a, w, hh, hc, hK => hK _ _ _ _ hh hc
  | o :: rest, ts, h, k, a, w, hh, hc, hK => by
    have run : ∀ {ts : List XV}, (opX C o ts h fun ts h => opsX C all rest ts h k) → Cfg w0 F ts h a w → o.wpIn (fen C.rd) 0 C.P a w (wpListIn (fen C.rd) 0 C.P all.toArray Q rest) Q :=
      fun hh hc => opX_sound hT hh hc fun ts' h' a' w' hk hc' => opsX_sound hk hc' hK
    have skip : ∀ {ts : List XV}, (fin o.dst (.t []) ts h fun ts h => opsX C all rest ts h k) → Cfg w0 F ts h a w → (∀ f, o.about C.P w a.eval = some f → (fen C.rd).fn f) ∧ wpListIn (fen C.rd) 0 C.P all.toArray Q rest (a.put o.dst undef) w := by
      intro ts hh hc
      rw [fin_eq] at hh
      obtain ⟨w1, F1, hsub, hd, E, hr, hp⟩ := hc
      exact ⟨fun _ _ => trivial, opsX_sound hh ⟨w1, F1, hsub, by rw [put_defers]; exact hd, E, put_rel o.dst hr (undef_rel E), hp⟩ hK⟩
    unfold opsX at hh
    unfold wpListIn
    split at hh
    · rename_i hg
      rw [if_pos (by simp [Region.wanted, hg])]
      exact run hh hc
    · rename_i j want hg
      split at hh
      case h_1 => exact hh.elim
      rename_i d hd
      rw [wanted_of hg]
      obtain ⟨w1, F1, hsub, hdef, E, hr, hp⟩ := id hc
      have hv := hr.get d
      split at hh
      · rename_i e; rw [e] at hv
        rw [yielded_of hd (show _ = Value.bool true from hv), if_pos (by simp)]; exact run hh hc
      · rename_i e; rw [e] at hv
        rw [yielded_of hd (show _ = Value.bool false from hv), if_pos (by simp)]; exact run hh hc
      · rename_i e; rw [e] at hv
        rw [yielded_of hd (show _ = Value.bool true from hv), if_neg (by simp)]; exact skip hh hc
      · rename_i e; rw [e] at hv
        rw [yielded_of hd (show _ = Value.bool false from hv), if_neg (by simp)]; exact skip hh hc
      · rename_i e; rw [e] at hv
        obtain ⟨vs, hvs, hws⟩ := hv
        have : vs = #[] := by
          cases vs with
          | mk l => cases l with
            | nil => rfl
            | cons _ _ => exact hws.elim
        subst this
        rw [yielded_undef hd hvs, if_neg (by simp)]; exact skip hh hc
      · rename_i x e; rw [e] at hv
        have hv : _ = Value.bool x := hv
        rw [yielded_of hd hv]
        cases x
        · have h1 := hh.2 rfl
          rw [setK_eq] at h1
          rw [if_neg (by simp)]
          exact skip h1 ⟨w1, F1, hsub, hdef, E, hr.set_self d (show RelC E .bf _ from hv), hp⟩
        · have h1 := hh.1 rfl
          rw [setK_eq] at h1
          rw [if_pos (by simp)]
          exact run h1 ⟨w1, F1, hsub, hdef, E, hr.set_self d (show RelC E .bt _ from hv), hp⟩
      · rename_i x e; rw [e] at hv
        have hv : _ = Value.bool x := hv
        rw [yielded_of hd hv]
        cases x
        · have h1 := hh.2 rfl
          rw [setK_eq] at h1
          rw [if_pos (by simp)]
          exact run h1 ⟨w1, F1, hsub, hdef, E, hr.set_self d (show RelC E .bf _ from hv), hp⟩
        · have h1 := hh.1 rfl
          rw [setK_eq] at h1
          rw [if_neg (by simp)]
          exact skip h1 ⟨w1, F1, hsub, hdef, E, hr.set_self d (show RelC E .bt _ from hv), hp⟩
      · exact hh.elim
end

/-! ### code -/
inductive Ex where
  | normal
  | ret
  | exit (n : Nat)
  | goto (n : Nat)
def Ex.conc : Ex → Exit
  | .normal => .normal
  | .ret => .ret
  | .exit n => .exit n
  | .goto n => .goto n
abbrev KQ := Ex → List XV → List It → Prop

def QOk (w0 : Org) (F : Nat → Prop) (Q : KQ) (Q' : Exit → Act → World → Prop) : Prop := ∀ e ts h a w, Q e ts h → Cfg w0 F ts h a w → Q' e.conc a w

def seqQ (next : KS) (Q : KQ) : KQ
  | .normal, t, h => next t h
  | .ret, t, h => Q .ret t h
  | .exit n, t, h => Q (.exit n) t h
  | .goto n, t, h => Q (.goto n) t h
def blockQ (id : Nat) (Q : KQ) : KQ
  | .normal, t, h => Q .normal t h
  | .ret, t, h => Q .ret t h
  | .exit n, t, h => (match Nat.beq n id with | true => Q .normal t h | false => Q (.exit n) t h)
  | .goto n, t, h => Q (.goto n) t h

/-- A loop, left to its invariant. -/
@[irreducible] def LoopX (C : Cx) (b : Code) (Q : KQ) (ts : List XV) (h : List It) : Prop :=
  ∀ w0 F Q' a w, QOk w0 F Q Q' → Cfg w0 F ts h a w → (Code.loop b).wpIn (fen C.rd) 0 C.P Q' a w
/-- A scope with labels. -/
@[irreducible] def ScopeX (C : Cx) (b : Code) (Q : KQ) (ts : List XV) (h : List It) : Prop :=
  ∀ w0 F Q' a w, QOk w0 F Q Q' → Cfg w0 F ts h a w → (Code.scope b).wpIn (fen C.rd) 0 C.P Q' a w
/-- A statement whose order is drawn. -/
@[irreducible] def DrawX (C : Cx) (id : Nat) (ops : List Oper) (Q : KS) (ts : List XV) (h : List It) : Prop :=
  ∀ w0 F Q' a w, (∀ ts' h' a' w', Q ts' h' → Cfg w0 F ts' h' a' w' → Q' .normal a' w') → Cfg w0 F ts h a w → (Code.region id ops.toArray true).wpIn (fen C.rd) 0 C.P Q' a w
/-- A range over a function. -/
@[irreducible] def RangeX (C : Cx) (f : Operand) (params : Array Tmp) (assign body : Code) (Q : KQ) (ts : List XV) (h : List It) : Prop :=
  ∀ w0 F Q' a w, QOk w0 F Q Q' → Cfg w0 F ts h a w → (Code.rangeFunc f params assign body).wpIn (fen C.rd) 0 C.P Q' a w

/-- Two pieces one behind the other, of which the first begins where a cut is wanted. -/
@[irreducible] def SeqX (C : Cx) (x y : Code) (Q : KQ) (ts : List XV) (h : List It) : Prop :=
  ∀ w0 F Q' a w, QOk w0 F Q Q' → Cfg w0 F ts h a w → (Code.seq x y).wpIn (fen C.rd) 0 C.P Q' a w
def firstId : Code → Option Nat
  | .region id _ _ => some id
  | .seq a _ => firstId a
  | .block _ b => firstId b
  | .loop b => firstId b
  | .scope b => firstId b
  | _ => none
def memJ (n : Nat) : List Nat → Bool
  | [] => false
  | a :: l => (match Nat.beq n a with | true => true | false => memJ n l)
def cutB (js : List Nat) (c : Code) : Bool := match js with
  | [] => false
  | js => (match firstId c with | some n => memJ n js | none => false)

/-- Operations in a row ahead of which a stop is wanted (its number, and 100000 more, among the cuts). -/
@[irreducible] def RegX (C : Cx) (id : Nat) (ops : List Oper) (Q : KQ) (ts : List XV) (h : List It) : Prop :=
  ∀ w0 F Q' a w, QOk w0 F Q Q' → Cfg w0 F ts h a w → (Code.region id ops.toArray false).wpIn (fen C.rd) 0 C.P Q' a w
def regB (js : List Nat) (id : Nat) : Bool := match js with
  | [] => false
  | js => memJ (Nat.add id 100000) js

/-- A jump ahead of which a stop is wanted (its label, and 200000 more, among the cuts). -/
@[irreducible] def GotoX (C : Cx) (n : Nat) (Q : KQ) (ts : List XV) (h : List It) : Prop :=
  ∀ w0 F Q' a w, QOk w0 F Q Q' → Cfg w0 F ts h a w → (Code.goto n).wpIn (fen C.rd) 0 C.P Q' a w
def gotoB (js : List Nat) (n : Nat) : Bool := match js with
  | [] => false
  | js => memJ (Nat.add n 200000) js

def codeX (C : Cx) : Code → KQ → List XV → List It → Prop
  | .skip, Q, t, h => Q .normal t h
  | .label _, Q, t, h => Q .normal t h
  | .ret, Q, t, h => Q .ret t h
  | .exit n, Q, t, h => Q (.exit n) t h
  | .goto n, Q, t, h => (match gotoB C.js n with
    | true => GotoX C n Q t h
    | false => Q (.goto n) t h)
  | .region id ops false, Q, t, h => (match regB C.js id with
    | true => RegX C id ops.toList Q t h
    | false => opsX C ops.toList ops.toList t h (Q .normal))
  | .region id ops true, Q, t, h => DrawX C id ops.toList (Q .normal) t h
  | .seq a b, Q, t, h => (match cutB C.js a with
    | true => SeqX C a b Q t h
    | false => codeX C a (seqQ (codeX C b Q) Q) t h)
  | .cond c a b, Q, t, h => (match opv t c with
    | .c .bt => codeX C a Q t h
    | .c .bf => codeX C b Q t h
    | .c (.b x) => (x = true → codeX C a Q t h) ∧ (x = false → codeX C b Q t h)
    | _ => False)
  | .block id b, Q, t, h => codeX C b (blockQ id Q) t h
  | .loop b, Q, t, h => LoopX C b Q t h
  | .scope b, Q, t, h => ScopeX C b Q t h
  | .rangeFunc f ps as b, Q, t, h => RangeX C f ps as b Q t h
  | .refuse _, _, _, _ => False

section
variable {C : Cx} (hT : TabOk C.P C.T)

theorem QOk.seq {w0 : Org} {F : Nat → Prop} {Q : KQ} {Q' : Exit → Act → World → Prop} {next : KS} {K : Act → World → Prop} (h : QOk w0 F Q Q') (hn : ∀ t h a w, next t h → Cfg w0 F t h a w → K a w) : QOk w0 F (seqQ next Q) (Exit.then K Q') := by
  intro e ts hh a w hq hc
  cases e with
  | normal => exact hn _ _ _ _ hq hc
  | ret => exact h .ret _ _ _ _ hq hc
  | exit n => exact h (.exit n) _ _ _ _ hq hc
  | goto n => exact h (.goto n) _ _ _ _ hq hc
theorem QOk.block {w0 : Org} {F : Nat → Prop} {Q : KQ} {Q' : Exit → Act → World → Prop} {id : Nat} (h : QOk w0 F Q Q') : QOk w0 F (blockQ id Q) (Exit.inBlock id Q') := by
  intro e ts hh a w hq hc
  cases e with
  | normal => exact h .normal _ _ _ _ hq hc
  | ret => exact h .ret _ _ _ _ hq hc
  | exit n =>
    simp only [blockQ] at hq
    simp only [Ex.conc, Exit.inBlock]
    split at hq
    · rename_i e; rw [if_pos (Nat.eq_of_beq_eq_true e)]; exact h .normal _ _ _ _ hq hc
    · rename_i e; rw [if_neg (beq_ne e)]; exact h (.exit n) _ _ _ _ hq hc
  | goto n => exact h (.goto n) _ _ _ _ hq hc

include hT in
theorem codeX_sound {w0 : Org} {F : Nat → Prop} : ∀ (c : Code) {Q : KQ} {Q' : Exit → Act → World → Prop} {t : List XV} {h : List It} {a : Act} {w : World}, codeX C c Q t h → Cfg w0 F t h a w → QOk w0 F Q Q' → c.wpIn (fen C.rd) 0 C.P Q' a w
  | .skip, _, _, _, _, _, _, hh, hc, hQ => wpIn_skip (hQ .normal _ _ _ _ hh hc)
  | .label _, _, _, _, _, _, _, hh, hc, hQ => wpIn_label (hQ .normal _ _ _ _ hh hc)
  | .ret, _, _, _, _, _, _, hh, hc, hQ => wpIn_ret (hQ .ret _ _ _ _ hh hc)
  | .exit n, _, _, _, _, _, _, hh, hc, hQ => wpIn_exit (hQ (.exit n) _ _ _ _ hh hc)
  | .goto n, Q, Q', t, h, a, w, hh, hc, hQ => by
    unfold codeX at hh
    split at hh
    · unfold GotoX at hh
      exact hh w0 F Q' a w hQ hc
    exact wpIn_goto (hQ (.goto n) _ _ _ _ hh hc)
  | .region id ops false, Q, Q', t, h, a, w, hh, hc, hQ => by
    unfold codeX at hh
    split at hh
    · unfold RegX at hh
      have := hh w0 F Q' a w hQ hc
      simpa using this
    refine wpIn_region_list ?_
    have := opsX_sound hT (Q := Q') hh hc fun ts' h' a' w' hk hc' => hQ .normal _ _ _ _ hk hc'
    simpa using this
  | .region id ops true, Q, Q', t, h, a, w, hh, hc, hQ => by
    unfold codeX DrawX at hh
    have := hh w0 F Q' a w (fun ts' h' a' w' hk hc' => hQ .normal _ _ _ _ hk hc') hc
    simpa using this
  | .seq x y, Q, Q', t, h, a, w, hh, hc, hQ => by
    unfold codeX at hh
    split at hh
    · unfold SeqX at hh
      exact hh w0 F Q' a w hQ hc
    exact wpIn_seq (codeX_sound x hh hc (hQ.seq fun t h a w hn hc' => codeX_sound y hn hc' hQ))
  | .cond c x y, Q, Q', t, h, a, w, hh, hc, hQ => by
    unfold codeX at hh
    obtain ⟨_, _, _, hd, E, hr, hp⟩ := id hc
    have hv := opv_rel hr c
    split at hh
    · rename_i e; rw [e] at hv
      exact wpIn_cond_true (show _ = Value.bool true from hv) (codeX_sound x hh hc hQ)
    · rename_i e; rw [e] at hv
      exact wpIn_cond_false (show _ = Value.bool false from hv) (codeX_sound y hh hc hQ)
    · rename_i b e; rw [e] at hv
      exact wpIn_cond_split (show _ = Value.bool b from hv) (fun hb => codeX_sound x (hh.1 hb) hc hQ) (fun hb => codeX_sound y (hh.2 hb) hc hQ)
    · exact hh.elim
  | .block id b, Q, Q', t, h, a, w, hh, hc, hQ => wpIn_block (codeX_sound b hh hc hQ.block)
  | .loop b, Q, Q', t, h, a, w, hh, hc, hQ => by
    unfold codeX LoopX at hh
    exact hh w0 F Q' a w hQ hc
  | .scope b, Q, Q', t, h, a, w, hh, hc, hQ => by
    unfold codeX ScopeX at hh
    exact hh w0 F Q' a w hQ hc
  | .rangeFunc f ps as b, Q, Q', t, h, a, w, hh, hc, hQ => by
    unfold codeX RangeX at hh
    exact hh w0 F Q' a w hQ hc
  | .refuse _, _, _, _, _, _, _, hh, _, _ => by unfold codeX at hh; exact hh.elim
include hT in
/-- Go on. -/
theorem regx_go {id : Nat} {ops : List Oper} {Q : KQ} {ts : List XV} {h : List It} (hh : opsX C ops ops ts h (Q .normal)) : RegX C id ops Q ts h := by
  unfold RegX
  intro w0 F Q' a w hQ hc
  refine wpIn_region_list ?_
  have := opsX_sound hT (Q := Q') hh hc fun ts' h' a' w' hk hc' => hQ .normal _ _ _ _ hk hc'
  simpa using this
/-- .. of a jump. -/
theorem gotox_go {n : Nat} {Q : KQ} {ts : List XV} {h : List It} (hh : Q (.goto n) ts h) : GotoX C n Q ts h := by
  unfold GotoX
  intro w0 F Q' a w hQ hc
  exact wpIn_goto (hQ (.goto n) _ _ _ _ hh hc)
end
end Go.Eng

/- The engine, part M: functions, their contracts, calls by contract, loops; nothing of any program is proved here. -/
namespace Go.Eng
open Go Go.RowKit
set_option linter.unusedSimpArgs false
set_option linter.unusedVariables false

/-! ### results -/
def oneRes (T : Tab) (ts : List XV) (h : List It) (r : ResultVar) (k : XV → Prop) : Prop :=
  match r with
  | .tmp t => k (get ts t)
  | .cell a t => loadX T t (get ts a) h (fun _ => true) k
def toW (x : XV) (k : XW → Prop) : Prop :=
  match x with
  | .c x => k (.c x)
  | .a l => k (.a l)
  | _ => False
def manyRes (T : Tab) (ts : List XV) (h : List It) : List ResultVar → (List XW → Prop) → Prop
  | [], k => k []
  | r :: l, k => oneRes T ts h r fun x => forceV x fun x => toW x fun x => manyRes T ts h l fun l => k (x :: l)
def resX (T : Tab) (ts : List XV) (h : List It) (rs : List ResultVar) (k : XV → Prop) : Prop :=
  match rs with
  | [r] => oneRes T ts h r fun x => forceV x k
  | rs => manyRes T ts h rs fun l => k (.t l)

section
variable {P : Program} {T : Tab} (hT : TabOk P T) {E : Env} {h : List It} {w0 : Org} {w : World} {F : Nat → Prop} {ts : List XV} {tmps : Array Value}

def resSem (tmps : Array Value) (r : ResultVar) : Sem Value :=
  match r with
  | .tmp t => pure (tmps.getD t undef)
  | .cell a t => do loadVar t (← asAddr (tmps.getD a undef))

theorem getD_toList (tmps : Array Value) (t : Nat) : tmps.getD t undef = tmps.toList.getD t undef := by simp

include hT in
theorem oneRes_sound {r : ResultVar} {k : XV → Prop} (hh : oneRes T ts h r k) (hr : RelTs E ts tmps.toList) (hp : Heap w0 F E h w) :
    ∃ x u, k x ∧ RelV E x u ∧ (resSem tmps r).run P w = .ok u w := by
  unfold oneRes at hh
  split at hh
  · rename_i t
    exact ⟨_, _, hh, hr.get t, by simp [resSem]⟩
  · rename_i a t
    have hv := hr.get a
    obtain ⟨x, u, hk, hx, hrun⟩ := loadX_sound hT hh hv hp
    refine ⟨x, u, hk, hx, ?_⟩
    have := hrun w (same_refl hp _)
    simp only [resSem, getD_toList]
    generalize tmps.toList.getD a undef = p at this hv
    cases p with
    | pointer o =>
      cases o with
      | some ad => simpa [Instr.loadAt, Instr.sureAddr, asAddr] using this
      | none => simp [Instr.loadAt, Instr.sureAddr] at this
    | _ => simp [Instr.loadAt, Instr.sureAddr] at this

include hT in
theorem manyRes_sound : ∀ {rs : List ResultVar} {k : List XW → Prop}, manyRes T ts h rs k → RelTs E ts tmps.toList → Heap w0 F E h w →
    ∃ xs us, k xs ∧ RelWs E xs us ∧ us.length = rs.length ∧ (rs.mapM (resSem tmps)).run P w = .ok us w
  | [], k, hh, _, _ => ⟨[], [], hh, trivial, rfl, by simp⟩
  | r :: rs, k, hh, hr, hp => by
    unfold manyRes at hh
    obtain ⟨x, u, hk, hx, hrun⟩ := oneRes_sound hT hh hr hp
    rw [forceV_eq] at hk
    unfold toW at hk
    split at hk
    · obtain ⟨xs, us, hk', hxs, hl, hrun'⟩ := manyRes_sound hk hr hp
      exact ⟨_, u :: us, hk', ⟨hx, hxs⟩, by simp [hl], by simp [List.mapM_cons, hrun, hrun']⟩
    · obtain ⟨xs, us, hk', hxs, hl, hrun'⟩ := manyRes_sound hk hr hp
      exact ⟨_, u :: us, hk', ⟨hx, hxs⟩, by simp [hl], by simp [List.mapM_cons, hrun, hrun']⟩
    · exact hk.elim

theorem results_eq (fn : Func) (tmps : Array Value) : results fn tmps = (do let vs ← fn.results.mapM (resSem tmps); pure (if h : vs.size = 1 then vs[0] else .tuple vs)) := by
  unfold results
  congr 1

theorem run_mapM_array (fn : Func) {us : List Value} (hrun : (fn.results.toList.mapM (resSem tmps)).run P w = .ok us w) : (fn.results.mapM (resSem tmps)).run P w = .ok us.toArray w := by
  rw [Array.mapM_eq_mapM_toList]
  simp [hrun]

theorem RelWs.len {E : Env} : ∀ {l : List XW} {vs : List Value}, RelWs E l vs → l.length = vs.length
  | [], [], _ => rfl
  | _ :: _, _ :: _, h => by simp [RelWs.len h.2]
  | [], _ :: _, h => h.elim
  | _ :: _, [], h => h.elim

include hT in
theorem resX_sound {fn : Func} {k : XV → Prop} (hh : resX T ts h fn.results.toList k) (hr : RelTs E ts tmps.toList) (hp : Heap w0 F E h w) :
    ∃ x u, k x ∧ RelV E x u ∧ (results fn tmps).run P w = .ok u w := by
  unfold resX at hh
  rw [results_eq]
  split at hh
  · rename_i r hrs
    obtain ⟨x, u, hk, hx, hrun⟩ := oneRes_sound hT hh hr hp
    rw [forceV_eq] at hk
    have hm := run_mapM_array (P := P) (w := w) (tmps := tmps) fn (us := [u]) (by rw [hrs]; simp [List.mapM_cons, hrun])
    refine ⟨x, u, hk, hx, ?_⟩
    simp [hm]
  · rename_i hno
    obtain ⟨xs, us, hk, hxs, hl, hrun⟩ := manyRes_sound hT hh hr hp
    have hm := run_mapM_array (P := P) (w := w) (tmps := tmps) fn hrun
    refine ⟨_, _, hk, ⟨us.toArray, rfl, by simpa using hxs⟩, ?_⟩
    have : us.toArray.size ≠ 1 := by
      intro e
      have : fn.results.toList.length = 1 := by rw [← hl]; simpa using e
      match hrs : fn.results.toList, this with
      | [r], _ => exact hno r hrs
    simp only [Sem.run_bind, hm, Result.andThen_ok, Sem.run_pure]
    rw [dif_neg this]
end

/-! ### functions -/
def bodyOf (fn : Func) : Code := match fn.body with | some c => c | none => .refuse ""
def endQ (T : Tab) (fn : Func) (R : XV → List It → Prop) : KQ
  | .normal, ts, h => resX T ts h fn.results.toList fun x => R x h
  | .ret, ts, h => resX T ts h fn.results.toList fun x => R x h
  | _, _, _ => False
def forceTs : List XV → (List XV → Prop) → Prop
  | [], k => k []
  | x :: l, k => forceV x fun x => forceTs l fun l => k (x :: l)
theorem forceTs_eq : ∀ (l : List XV) (k : List XV → Prop), forceTs l k = k l
  | [], _ => rfl
  | x :: l, k => by simp only [forceTs, forceV_eq, forceTs_eq l]
def padX (n : Nat) (xs : List XV) : List XV := xs ++ List.replicate (n - xs.length) (.t [])

/-- The whole function, from its arguments on. -/
def fnX (C : Cx) (fn : Func) (xs : List XV) (h : List It) (R : XV → List It → Prop) : Prop :=
  forceTs (padX fn.ntmps xs) fun ts => codeX C (bodyOf fn) (endQ C.T fn R) ts h

theorem rep_undef {E : Env} : ∀ n, RelTs E (List.replicate n (.t [])) (List.replicate n undef)
  | 0 => trivial
  | n + 1 => ⟨undef_rel E, rep_undef n⟩

/-- A block that nobody owns turns. -/
theorem Heap.putFree {w0 : Org} {F : Nat → Prop} {E : Env} {h : List It} {w : World} (hp : Heap w0 F E h w) {b : Nat} (o : Obj) (h0 : w0.w.heap.size ≤ b) (hB : ¬ E.bs.B b) (hno : ∀ (k : Nat) (x : It), h[k]? = some x → ¬ Ow E k x b) :
    Heap w0 F E h (w.putObj b o) := by
  have keep : ∀ k, k ≠ b → (w.putObj b o).heap[k]? = w.heap[k]? := fun k hk => World.putObj_heap_other hk
  refine ⟨?_, hp.le, hp.nb, hp.n, ?_, ?_, hp.sep, ?_⟩
  · intro k hk
    have h1 := hp.bs k hk
    exact ⟨by rw [World.putObj_size]; exact h1.1, (keep k fun e => hB (e ▸ hk)).trans h1.2⟩
  · intro k x hx
    exact (hp.ok k x hx).of_block fun c hc => keep c fun e => hno k x hx (e ▸ hc)
  · intro k x c hx hc
    rw [World.putObj_size]; exact hp.own k x c hx hc
  · refine ⟨hp.fr.os, hp.fr.tape, hp.fr.output, by rw [World.putObj_size]; exact hp.fr.size, fun k hk hF => (keep k (by omega)).trans (hp.fr.block k hk hF)⟩

/-- The marks are come to: their blocks are shut; all else stands. -/
theorem leaves_marks {nf : Nat} {w0 : Org} {F : Nat → Prop} {E : Env} {h : List It} {P : Program} {fn : Func} {tmps : Array Value} {R : Ending → World → Prop} : ∀ (bl : List Nat) (w : World), bl.Nodup →
    (∀ b ∈ bl, w0.w.heap.size ≤ b ∧ ¬ E.bs.B b ∧ (∀ (k : Nat) (x : It), h[k]? = some x → ¬ Ow E k x b) ∧ w.heap[b]? = some (.deferred (some []))) → Heap w0 F E h w →
    (∀ w', Heap w0 F E h w' → ∃ v, (results fn tmps).run P w' = .ok v w' ∧ R (.returned v) w') → LeavesInM Fence.wide nf P fn tmps R (bl.map markOf) .returning w
  | [], w, _, _, hp, hk => hk w hp
  | b :: bl, w, hnd, hb, hp, hk => by
    obtain ⟨h0, hB, hno, ho⟩ := hb b (by simp)
    obtain ⟨hnb, hnd⟩ := List.nodup_cons.1 hnd
    refine ⟨by simp, .inl ⟨b, _, rfl, run_takeDeferred ho, leaves_marks bl _ hnd (fun c hc => ?_) (hp.putFree _ h0 hB hno) hk⟩⟩
    obtain ⟨g0, gB, gno, go⟩ := hb c (by simp [hc])
    exact ⟨g0, gB, gno, (World.putObj_heap_other (show c ≠ b from fun e => hnb (e ▸ hc))).trans go⟩

theorem Heap.fnf {nf : Nat} {w0 w1 : Org} {F F1 : Nat → Prop} {E : Env} {h : List It} {w : World} {ds : List Deferred} {P : Program} {fn : Func} {tmps : Array Value} {R : Ending → World → Prop} (hs : Sub w0 F w1 F1) (hm : Marks w0 w1 F1 ds) (hp : Heap w1 F1 E h w)
    (hk : ∀ w', Heap w0 F E h w' → ∃ v, (results fn tmps).run P w' = .ok v w' ∧ R (.returned v) w') : LeavesInM Fence.wide nf P fn tmps R ds .returning w := by
  obtain ⟨bl, hnd, rfl, hb⟩ := hm
  refine leaves_marks bl w hnd (fun b hb' => ?_) (hs.2 _ _ _ hp) hk
  obtain ⟨h0, hlt, hF, hB, ho⟩ := hb b hb'
  refine ⟨h0, fun hB' => ?_, fun k x hx hbx => ?_, (hp.fr.block b hlt hF).trans ho⟩
  · rcases hp.nb b hB' with h1 | h1 | h1
    · exact hB h1
    · omega
    · exact hF h1
  · rcases (hp.own k x b hx hbx).2.2 with h1 | h1
    · omega
    · exact hF h1

section
variable {P : Program} {T : Tab} (hT : TabOk P T)

include hT in
theorem fnX_sound {f : FuncId} {fn : Func} (hf : P.funcs[f]? = some fn) (hb : fn.body.isSome = true) {w : World} {w0 : Org} {F : Nat → Prop} {E : Env} {xs : List XV} {us : List Value} {h : List It} {R : XV → List It → Prop} {js : List Nat}
    (hh : fnX ⟨P, T, js, none⟩ fn xs h R) (hr : RelTs E xs us) (hp : Heap w0 F E h w) :
    Calls P f us.toArray w fun e w' => ∃ u x h' E', e = .returned u ∧ R x h' ∧ RelV E' x u ∧ Heap w0 F E' h' w' := by
  obtain ⟨c, hc⟩ := Option.isSome_iff_exists.1 hb
  unfold fnX at hh
  rw [forceTs_eq, bodyOf, hc] at hh
  refine callsIn_wide.1 (callsIn_of_wp_marks (n := 0) hf hc trivial (codeX_sound (C := ⟨P, T, js, none⟩) hT c hh (Cfg.start (w0 := w0) (F := F) (E := E) rfl ?_ hp) ?_))
  · have hl := hr.len
    simp only [Array.toList_append, Array.toList_replicate, List.size_toArray, padX, hl]
    exact hr.append (rep_undef _)
  · intro e ts h' a w' hq hcfg
    obtain ⟨w1, F1, hsub, hd, E', hr', hp'⟩ := hcfg
    have key : resX T ts h' fn.results.toList (fun x => R x h') → LeavesInM Fence.wide 0 P fn a.tmps (fun e w' => ∃ u x h' E', e = .returned u ∧ R x h' ∧ RelV E' x u ∧ Heap w0 F E' h' w') a.defers .returning w' := fun hq =>
      Heap.fnf hsub hd hp' fun w'' hp'' => by
        obtain ⟨x, u, hk, hx, hrun⟩ := resX_sound hT hq hr' hp''
        exact ⟨u, hrun, u, x, h', E', rfl, hk, hx, hp''⟩
    cases e with
    | normal => exact key hq
    | ret => exact key hq
    | exit n => exact hq.elim
    | goto n => exact hq.elim

/-- A contract: called with these arguments (numbers, and what is told of memory that doesn't turn) the function comes to R, and turns nothing that was there. -/
structure Fn (P : Program) (f : FuncId) (xs : List XV) (R : XV → List It → Prop) : Prop where
  ok : FnOk P f
  run : ∀ bs w us, bs.ok w → RelTs ⟨bs, 0, fun _ => 0, fun _ => undef, fun _ _ => False⟩ xs us → Calls P f us.toArray w fun e w' => ∃ u x h' E', e = .returned u ∧ R x h' ∧ RelV E' x u ∧ Heap ⟨w, bs⟩ (fun _ => False) E' h' w'

theorem Heap.start {bs : Base} {w : World} {F : Nat → Prop} (hb : bs.ok w) : Heap ⟨w, bs⟩ F ⟨bs, 0, fun _ => 0, fun _ => undef, fun _ _ => False⟩ [] w :=
  ⟨hb, BsLe.refl _, fun _ h => .inl h, rfl, fun _ _ h => by simp at h, fun _ _ _ h => by simp at h, fun _ _ _ _ _ h => by simp at h, Fr.refl _ _⟩

include hT in
theorem Fn.of {f : FuncId} {fn : Func} (hf : P.funcs[f]? = some fn) (hb : fn.body.isSome = true) (hn : (fn.name == "runtime.NumGoroutine") = false) {xs : List XV} {R : XV → List It → Prop}
    (hh : ∀ w0 : Org, fnX ⟨P, T, [], none⟩ fn xs [] R) : Fn P f xs R :=
  ⟨⟨fn, hf, hn, hb⟩, fun bs w us hbs hr => fnX_sound hT hf hb (hh ⟨w, bs⟩) hr (Heap.start hbs)⟩
include hT in
/-- .. with cuts ahead of the regions of these numbers. -/
theorem Fn.ofJ (js : List Nat) {f : FuncId} {fn : Func} (hf : P.funcs[f]? = some fn) (hb : fn.body.isSome = true) (hn : (fn.name == "runtime.NumGoroutine") = false) {xs : List XV} {R : XV → List It → Prop}
    (hh : ∀ w0 : Org, fnX ⟨P, T, js, none⟩ fn xs [] R) : Fn P f xs R :=
  ⟨⟨fn, hf, hn, hb⟩, fun bs w us hbs hr => fnX_sound hT hf hb (hh ⟨w, bs⟩) hr (Heap.start hbs)⟩

theorem Fn.mono {f : FuncId} {xs : List XV} {R R' : XV → List It → Prop} (h : Fn P f xs R) (hR : ∀ x h', R x h' → R' x h') : Fn P f xs R' :=
  ⟨h.ok, fun bs w us hbs hr => (h.run bs w us hbs hr).mono fun e w' ⟨u, x, h', E', he, hk, hx, hp⟩ => ⟨u, x, h', E', he, hR _ _ hk, hx, hp⟩⟩

/-- The function's value, nothing else. -/
def Is (v : XV) : XV → List It → Prop := fun x h => x = v ∧ h = []
end

/-! ### calls by contract -/
def stXs : List XV → Bool
  | [] => true
  | .c x :: l => (match stB x with | true => stXs l | false => false)
  | .a cs :: l => (match allSt cs with | true => stXs l | false => false)
  | .un :: l => stXs l
  | .t [] :: l => stXs l
  | _ => false
theorem stXs_rel {E E' : Env} (hb : E'.bs = E.bs) : ∀ {xs : List XV} {vs : List Value}, stXs xs = true → RelTs E xs vs → RelTs E' xs vs
  | [], [], _, _ => trivial
  | .c x :: xs, v :: vs, hs, h => by
    unfold stXs at hs
    split at hs
    · rename_i h1
      exact ⟨RelC.stable (by rw [hb]; exact fun _ hb => ⟨hb, rfl⟩) x v (stB_iff h1) h.1, stXs_rel hb hs h.2⟩
    · cases hs
  | .a cs :: xs, v :: vs, hs, h => by
    unfold stXs at hs
    split at hs
    · rename_i h1
      obtain ⟨us, e, hl⟩ := h.1
      exact ⟨⟨us, e, RelL.ofSt hb (allSt_iff h1) hl⟩, stXs_rel hb hs h.2⟩
    · cases hs
  | .un :: xs, v :: vs, hs, h => ⟨trivial, stXs_rel hb (by simpa [stXs] using hs) h.2⟩
  | .t [] :: xs, v :: vs, hs, h => ⟨by obtain ⟨us, e, hl⟩ := h.1; exact ⟨us, e, by cases hu : us.toList with | nil => trivial | cons a l => rw [hu] at hl; exact hl.elim⟩, stXs_rel hb (by simpa [stXs] using hs) h.2⟩
  | .t (_ :: _) :: _, _ :: _, hs, _ => by simp [stXs] at hs
  | [], _ :: _, _, h => h.elim
  | _ :: _, [], _, h => h.elim

/-- A value whose cells hang on no block of the callee's own. -/
def stX : XV → Prop
  | .c x => St x
  | .a l => ∀ x ∈ l, St x
  | .t l => ∀ x ∈ l, (match x with | .c x => St x | .a l => ∀ x ∈ l, St x)
  | .un => True

theorem RelV.ofSt {E E' : Env} (hb : ∀ b, E.bs.B b → E'.bs.B b ∧ E'.bs.wb.heap[b]? = E.bs.wb.heap[b]?) {x : XV} {v : Value} (hs : stX x) (h : RelV E x v) : RelV E' x v := by
  have hl : ∀ {l : List XC} {vs : List Value}, (∀ x ∈ l, St x) → RelL E l vs → RelL E' l vs := by
    intro l
    induction l with
    | nil => intro vs _ h; cases vs with | nil => trivial | cons _ _ => exact h.elim
    | cons x l ih =>
      intro vs hs h
      cases vs with
      | nil => exact h.elim
      | cons v vs => exact ⟨RelC.stable hb x v (hs x (by simp)) h.1, ih (fun y hy => hs y (by simp [hy])) h.2⟩
  cases x with
  | un => trivial
  | c x => exact RelC.stable hb x v hs h
  | a l => obtain ⟨vs, rfl, h⟩ := h; exact ⟨vs, rfl, hl hs h⟩
  | t l =>
    obtain ⟨vs, rfl, h⟩ := h
    refine ⟨vs, rfl, ?_⟩
    have key : ∀ {l : List XW} {vs : List Value}, (∀ x ∈ l, (match x with | .c x => St x | .a l => ∀ x ∈ l, St x)) → RelWs E l vs → RelWs E' l vs := by
      intro l
      induction l with
      | nil => intro vs _ h; cases vs with | nil => trivial | cons _ _ => exact h.elim
      | cons x l ih =>
        intro vs hs h
        cases vs with
        | nil => exact h.elim
        | cons v vs =>
          refine ⟨?_, ih (fun y hy => hs y (by simp [hy])) h.2⟩
          have h1 := hs x (by simp)
          cases x with
          | c x => exact RelC.stable hb x v h1 h.1
          | a l => obtain ⟨us, e, h2⟩ := h.1; exact ⟨us, e, hl h1 h2⟩
    exact key hs h

section
variable {C : Cx} {f : FuncId} {args : List XV} {ts : List XV} {h : List It} {k : KE} {R : XV → List It → Prop}

/-- What a caller has, behind a call that turned nothing. -/
theorem Heap.behind {w0 : Org} {F : Nat → Prop} {E : Env} {w w' : World} (hp : Heap w0 F E h w) {E' : Env} {h' : List It} (hp' : Heap ⟨w, E.bs⟩ (fun _ => False) E' h' w') :
    Heap w0 F { E with bs := E'.bs } h w' ∧ EnvLe E { E with bs := E'.bs } := by
  have keep : ∀ k, k < w.heap.size → w'.heap[k]? = w.heap[k]? := fun k hk => hp'.fr.block k hk (fun x => x)
  have hle : EnvLe E { E with bs := E'.bs } := ⟨Nat.le_refl _, fun _ _ => rfl, fun _ _ => rfl, fun _ _ => rfl, hp'.le⟩
  refine ⟨⟨hp'.bs, hp.le.trans hp'.le, ?_, hp.n, ?_, ?_, ?_, ?_⟩, hle⟩
  · intro b hb
    rcases hp'.nb b hb with h1 | h1 | h1
    · exact hp.nb b h1
    · exact .inr (.inl (Nat.le_trans hp.fr.size h1))
    · exact h1.elim
  · intro k x hx
    exact ItOk.of_block ((hp.ok k x hx).mono hle (hp.blkLt hx)) (fun b hb => keep b (hp.own k x b hx (by rw [Ow_mono hle (hp.blkLt hx)] at hb; exact hb)).1)
  · intro k x b hx hb
    have hb : Ow E k x b := by rw [Ow_mono hle (hp.blkLt hx)] at hb; exact hb
    have h1 := hp.own k x b hx hb
    refine ⟨Nat.lt_of_lt_of_le h1.1 hp'.fr.size, fun hB => ?_, h1.2.2⟩
    rcases hp'.nb b hB with h2 | h2 | h2
    · exact h1.2.1 h2
    · have : w.heap.size ≤ b := h2
      omega
    · exact h2.elim
  · intro j k x y b hx hy hb hb'
    rw [Ow_mono hle (hp.blkLt hx)] at hb
    rw [Ow_mono hle (hp.blkLt hy)] at hb'
    exact hp.sep j k x y b hx hy hb hb'
  · exact ⟨hp'.fr.os.trans hp.fr.os, hp'.fr.tape.trans hp.fr.tape, hp'.fr.output.trans hp.fr.output, Nat.le_trans hp.fr.size hp'.fr.size,
      fun k hk hF => (keep k (Nat.lt_of_lt_of_le hk hp.fr.size)).trans (hp.fr.block k hk hF)⟩

/-- A call by contract; what comes back hangs on no block of the callee's. -/
theorem callx (hf : Fn C.P f args R) (hs : stXs args = true) (hk : ∀ x h', R x h' → stX x ∧ k x ts h) : CallX C f args ts h k := by
  unfold CallX
  refine ⟨hf.ok, fun w0 F E w vs us hr hargs hp => ?_⟩
  refine (hf.run E.bs w us hp.bs (stXs_rel (E := E) (E' := ⟨E.bs, 0, fun _ => 0, fun _ => undef, fun _ _ => False⟩) rfl hs hargs)).mono fun e w' ⟨u, x, h', E', he, hR, hx, hp'⟩ => ?_
  obtain ⟨hst, hk⟩ := hk x h' hR
  obtain ⟨hp2, hle⟩ := hp.behind hp'
  exact ⟨u, x, ts, h, { E with bs := E'.bs }, he, hk, RelV.ofSt (E := E') (E' := { E with bs := E'.bs }) (fun b hb => ⟨hb, rfl⟩) hst hx, hr.mono hle, hp2⟩

/-- .. whose answer is known. -/
theorem callx_is {v : XV} (hf : Fn C.P f args (Is v)) (hs : stXs args = true) (hv : stX v) (hk : k v ts h) : CallX C f args ts h k :=
  callx hf hs fun x h' hR => by obtain ⟨rfl, _⟩ := hR; exact ⟨hv, hk⟩
end
end Go.Eng

/- The engine, part Ma: values that say less; nothing of any program is proved here. -/
namespace Go.Eng
open Go Go.RowKit
set_option linter.unusedSimpArgs false
set_option linter.unusedVariables false

/-- A cell that says at least what another one says. -/
def entC : XC → XC → Prop
  | .il k n, y => (match y with | .i k' m => k = k' ∧ n = m | .il k' m => k = k' ∧ n = m | .un => True | y => XC.il k n = y)
  | .i k n, y => (match y with | .i k' m => k = k' ∧ n = m | .il k' m => k = k' ∧ n = m | .un => True | y => XC.i k n = y)
  | .bt, y => (match y with | .b b => b = true | .un => True | y => XC.bt = y)
  | .bf, y => (match y with | .b b => b = false | .un => True | y => XC.bf = y)
  | .b x, y => (match y with | .b b => x = b | .bt => x = true | .bf => x = false | .un => True | y => XC.b x = y)
  | .v x, y => (match y with | .v x' => x = x' | .rs n _ _ => x = .slice none 0 0 ∧ n = 0 | .un => True | y => XC.v x = y)
  | .rs n z f, y => (match y with | .rs n' z' g => n = n' ∧ z = z' ∧ (∀ i, i < n' → ∀ j, j < z' → entC (f i j) (g i j)) | .un => True | y => XC.rs n z f = y)
  | .ts n z f, y => (match y with | .rs n' z' g => n = n' ∧ z = z' ∧ (∀ i, i < n' → ∀ j, j < z' → entC (f i j) (g i j)) | .ts n' z' g => n = n' ∧ z = z' ∧ (∀ i, i < n' → ∀ j, j < z' → entC (f i j) (g i j)) | .un => True | y => XC.ts n z f = y)
  | .ep m f, y => (match y with | .ep m' g => m' ≤ m ∧ (∀ j, j < m' → entC (f j) (g j)) | .un => True | y => XC.ep m f = y)
  | x, y => y = .un ∨ x = y
def entL : List XC → List XC → Prop
  | [], [] => True
  | x :: l, y :: m => entC x y ∧ entL l m
  | _, _ => False
def entW : XW → XW → Prop
  | .c x, .c y => entC x y
  | .a l, .a m => entL l m
  | _, _ => False
def entWs : List XW → List XW → Prop
  | [], [] => True
  | x :: l, y :: m => entW x y ∧ entWs l m
  | _, _ => False
def entV : XV → XV → Prop
  | .c x, .c y => entC x y
  | .a l, .a m => entL l m
  | .t l, .t m => entWs l m
  | x, y => y = .un ∨ x = y

theorem entC_st {x y : XC} (h : entC x y) (hs : St x) : St y := by
  cases x <;> cases y <;> simp only [entC] at h <;> first | trivial | (exact hs.elim) | (cases h; done) | (rcases h with h | h <;> first | (cases h; done) | (cases h; exact hs)) | (simp at h; done)
theorem entC_rel {E : Env} : ∀ {x y : XC} {v : Value}, entC x y → RelC E x v → RelC E y v
  | .rs n z f, y, v, h, hr => by
    have hone := hr.one
    cases y <;> simp only [entC] at h
    case un => exact hone
    case rs n' z' g =>
      obtain ⟨rfl, rfl, hfg⟩ := h
      obtain ⟨A, c, rfl, h1, h2, h3⟩ := hr
      refine ⟨A, c, rfl, h1, h2, fun i hi => ?_⟩
      obtain ⟨ad, hA, h4⟩ := h3 i hi
      refine ⟨ad, hA, fun j hj => ?_⟩
      obtain ⟨h5, u, h6, h7, h8⟩ := h4 j hj
      exact ⟨h5, u, h6, entC_st (hfg i hi j hj) h7, entC_rel (hfg i hi j hj) h8⟩
    all_goals cases h
  | .ts n z f, y, v, h, hr => by
    have hone := hr.one
    cases y <;> simp only [entC] at h
    case un => exact hone
    case rs n' z' g =>
      obtain ⟨rfl, rfl, hfg⟩ := h
      obtain ⟨A, rfl, h2, h3⟩ := hr
      refine ⟨A, _, rfl, Nat.le_refl _, h2, fun i hi => ?_⟩
      obtain ⟨ad, hA, h4⟩ := h3 i hi
      refine ⟨ad, hA, fun j hj => ?_⟩
      obtain ⟨h5, u, h6, h7, h8⟩ := h4 j hj
      exact ⟨h5, u, h6, entC_st (hfg i hi j hj) h7, entC_rel (hfg i hi j hj) h8⟩
    case ts n' z' g =>
      obtain ⟨rfl, rfl, hfg⟩ := h
      obtain ⟨A, rfl, h2, h3⟩ := hr
      refine ⟨A, rfl, h2, fun i hi => ?_⟩
      obtain ⟨ad, hA, h4⟩ := h3 i hi
      refine ⟨ad, hA, fun j hj => ?_⟩
      obtain ⟨h5, u, h6, h7, h8⟩ := h4 j hj
      exact ⟨h5, u, h6, entC_st (hfg i hi j hj) h7, entC_rel (hfg i hi j hj) h8⟩
    all_goals cases h
  | .ep m f, y, v, h, hr => by
    have hone := hr.one
    cases y <;> simp only [entC] at h
    case un => exact hone
    case ep m' g =>
      obtain ⟨hm, hfg⟩ := h
      obtain ⟨ad, rfl, h3⟩ := hr
      refine ⟨ad, rfl, fun j hj => ?_⟩
      obtain ⟨h5, u, h6, h7, h8⟩ := h3 j (by omega)
      exact ⟨h5, u, h6, entC_st (hfg j hj) h7, entC_rel (hfg j hj) h8⟩
    all_goals cases h
  | .v x, y, v, h, hr => by
    have hone := hr.one
    cases y <;> simp only [entC] at h <;> (first
      | exact hone
      | (subst h; exact hr)
      | (cases h; done)
      | skip)
    obtain ⟨rfl, rfl⟩ := h
    obtain ⟨rfl, _⟩ := hr
    exact ⟨none, 0, rfl, Nat.le_refl _, by simp [maxLen], fun i hi => by omega⟩
  | .il _ _, y, v, h, hr => by
    have hone := hr.one
    cases y <;> simp only [entC] at h <;> (first | exact hone | (obtain ⟨rfl, rfl⟩ := h; exact hr) | (cases h; done))
  | .i _ _, y, v, h, hr => by
    have hone := hr.one
    cases y <;> simp only [entC] at h <;> (first | exact hone | (obtain ⟨rfl, rfl⟩ := h; exact hr) | (cases h; done))
  | .bt, y, v, h, hr => by
    have hone := hr.one
    cases y <;> simp only [entC] at h <;> (first | exact hone | (subst h; exact hr) | (cases h; done) | exact hr)
  | .bf, y, v, h, hr => by
    have hone := hr.one
    cases y <;> simp only [entC] at h <;> (first | exact hone | (subst h; exact hr) | (cases h; done) | exact hr)
  | .b _, y, v, h, hr => by
    have hone := hr.one
    cases y <;> simp only [entC] at h <;> (first | exact hone | (subst h; exact hr) | (cases h; done))
  | .un, y, v, h, hr => by
    have hone := hr.one
    simp only [entC] at h
    rcases h with h | h <;> subst h <;> exact hr
  | .p _ _, y, v, h, hr => by
    have hone := hr.one
    simp only [entC] at h
    rcases h with h | h <;> subst h <;> first | exact hone | exact hr
  | .ow _, y, v, h, hr => by
    have hone := hr.one
    simp only [entC] at h
    rcases h with h | h <;> subst h <;> first | exact hone | exact hr
  | .q _ _ _ _, y, v, h, hr => by
    have hone := hr.one
    simp only [entC] at h
    rcases h with h | h <;> subst h <;> first | exact hone | exact hr
  | .sw _ _ _ _, y, v, h, hr => by
    have hone := hr.one
    simp only [entC] at h
    rcases h with h | h <;> subst h <;> first | exact hone | exact hr
  | .sp _ _ _ _, y, v, h, hr => by
    have hone := hr.one
    simp only [entC] at h
    rcases h with h | h <;> subst h <;> first | exact hone | exact hr
  | .mp _, y, v, h, hr => by
    have hone := hr.one
    simp only [entC] at h
    rcases h with h | h <;> subst h <;> first | exact hone | exact hr
  | .fn _ _ _, y, v, h, hr => by
    have hone := hr.one
    simp only [entC] at h
    rcases h with h | h <;> subst h <;> first | exact hone | exact hr
theorem entL_rel {E : Env} : ∀ {l m : List XC} {vs : List Value}, entL l m → RelL E l vs → RelL E m vs
  | [], [], _, _, h => h
  | _ :: _, _ :: _, [], _, h => h.elim
  | _ :: _, _ :: _, _ :: _, he, h => ⟨entC_rel he.1 h.1, entL_rel he.2 h.2⟩
  | [], _ :: _, _, he, _ => he.elim
  | _ :: _, [], _, he, _ => he.elim
theorem entW_rel {E : Env} {x y : XW} {v : Value} (h : entW x y) (hr : RelW E x v) : RelW E y v := by
  cases x <;> cases y
  · exact entC_rel h hr
  · exact h.elim
  · exact h.elim
  · obtain ⟨vs, e, h1⟩ := hr; exact ⟨vs, e, entL_rel h h1⟩
theorem entWs_rel {E : Env} : ∀ {l m : List XW} {vs : List Value}, entWs l m → RelWs E l vs → RelWs E m vs
  | [], [], _, _, h => h
  | _ :: _, _ :: _, [], _, h => h.elim
  | _ :: _, _ :: _, _ :: _, he, h => ⟨entW_rel he.1 h.1, entWs_rel he.2 h.2⟩
  | [], _ :: _, _, he, _ => he.elim
  | _ :: _, [], _, he, _ => he.elim
theorem entV_rel {E : Env} {x y : XV} {v : Value} (h : entV x y) (hr : RelV E x v) : RelV E y v := by
  cases x <;> cases y <;> simp only [entV] at h <;> (first
    | exact trivial
    | exact entC_rel h hr
    | (obtain ⟨vs, e, h1⟩ := hr; exact ⟨vs, e, entL_rel h h1⟩)
    | (obtain ⟨vs, e, h1⟩ := hr; exact ⟨vs, e, entWs_rel h h1⟩)
    | (rcases h with h | h <;> cases h))

/-- Rows alike. -/
def entLL : List (List XC) → List (List XC) → Prop
  | [], [] => True
  | x :: l, y :: m => entL x y ∧ entLL l m
  | _, _ => False
theorem entC_refl : ∀ x : XC, entC x x
  | .rs n z f => ⟨rfl, rfl, fun i _ j _ => entC_refl (f i j)⟩
  | .ts n z f => ⟨rfl, rfl, fun i _ j _ => entC_refl (f i j)⟩
  | .ep m f => ⟨Nat.le_refl _, fun j _ => entC_refl (f j)⟩
  | .un => by simp [entC] | .il _ _ => by simp [entC] | .i _ _ => by simp [entC] | .bt => by simp [entC] | .bf => by simp [entC] | .b _ => by simp [entC]
  | .p _ _ => by simp [entC] | .ow _ => by simp [entC] | .q _ _ _ _ => by simp [entC] | .sw _ _ _ _ => by simp [entC] | .sp _ _ _ _ => by simp [entC] | .mp _ => by simp [entC] | .fn _ _ _ => by simp [entC] | .v _ => by simp [entC]
theorem entC_of_eq {x y : XC} (h : x = y) : entC x y := h ▸ entC_refl x
/-- All arguments. -/
def entVs : List XV → List XV → Prop
  | [], [] => True
  | x :: l, y :: m => entV x y ∧ entVs l m
  | _, _ => False
theorem entVs_rel {E : Env} : ∀ {l m : List XV} {us : List Value}, entVs l m → RelTs E l us → RelTs E m us
  | [], [], _, _, h => h
  | _ :: _, _ :: _, _ :: _, he, h => ⟨entV_rel he.1 h.1, entVs_rel he.2 h.2⟩
  | _ :: _, _ :: _, [], _, h => h.elim
  | [], _ :: _, _, he, _ => he.elim
  | _ :: _, [], _, he, _ => he.elim
theorem entL_refl : ∀ l : List XC, entL l l
  | [] => trivial
  | x :: l => ⟨entC_refl x, entL_refl l⟩
theorem entLL_refl : ∀ l : List (List XC), entLL l l
  | [] => trivial
  | x :: l => ⟨entL_refl x, entLL_refl l⟩
theorem entW_refl (x : XW) : entW x x := by cases x with | c x => exact entC_refl x | a l => exact entL_refl l
theorem entWs_refl : ∀ l : List XW, entWs l l
  | [] => trivial
  | x :: l => ⟨entW_refl x, entWs_refl l⟩
theorem entV_refl (y : XV) : entV y y := by
  cases y with
  | un => simp [entV]
  | c x => exact entC_refl x
  | a l => exact entL_refl l
  | t l => exact entWs_refl l
theorem entLL_of_eq {l m : List (List XC)} (h : l = m) : entLL l m := h ▸ entLL_refl l
theorem entLL_append : ∀ {l l' m m' : List (List XC)}, entLL l m → entLL l' m' → entLL (l ++ l') (m ++ m')
  | [], _, [], _, _, h => h
  | _ :: _, _, _ :: _, _, h, h' => ⟨h.1, entLL_append h.2 h'⟩
  | [], _, _ :: _, _, h, _ => h.elim
  | _ :: _, _, [], _, h, _ => h.elim
theorem entL_len : ∀ {l m : List XC}, entL l m → l.length = m.length
  | [], [], _ => rfl
  | _ :: _, _ :: _, h => by simp [entL_len h.2]
  | [], _ :: _, h => h.elim
  | _ :: _, [], h => h.elim
theorem entLL_len : ∀ {l m : List (List XC)}, entLL l m → l.length = m.length
  | [], [], _ => rfl
  | _ :: _, _ :: _, h => by simp [entLL_len h.2]
  | [], _ :: _, h => h.elim
  | _ :: _, [], h => h.elim
theorem entL_append : ∀ {l l' m m' : List XC}, entL l m → entL l' m' → entL (l ++ l') (m ++ m')
  | [], _, [], _, _, h => h
  | _ :: _, _, _ :: _, _, h, h' => ⟨h.1, entL_append h.2 h'⟩
  | [], _, _ :: _, _, h, _ => h.elim
  | _ :: _, _, [], _, h, _ => h.elim
theorem entLL_flat : ∀ {l m : List (List XC)}, entLL l m → entL l.flatten m.flatten
  | [], [], _ => trivial
  | _ :: _, _ :: _, h => by rw [List.flatten_cons, List.flatten_cons]; exact entL_append h.1 (entLL_flat h.2)
  | [], _ :: _, h => h.elim
  | _ :: _, [], h => h.elim
theorem entL_st : ∀ {l m : List XC}, entL l m → (∀ x ∈ l, St x) → ∀ x ∈ m, St x
  | [], [], _, _ => by simp
  | x :: l, y :: m, h, hs => by
    intro z hz
    rcases List.mem_cons.1 hz with rfl | hz
    · exact entC_st h.1 (hs _ (by simp))
    · exact entL_st h.2 (fun w hw => hs w (by simp [hw])) z hz
  | [], _ :: _, h, _ => h.elim
  | _ :: _, [], h, _ => h.elim
theorem entLL_lens {z : Nat} : ∀ {l m : List (List XC)}, entLL l m → (∀ x ∈ l, x.length = z) → ∀ x ∈ m, x.length = z
  | [], [], _, _ => by simp
  | x :: l, y :: m, h, hs => by
    intro w hw
    rcases List.mem_cons.1 hw with rfl | hw
    · rw [← entL_len h.1]; exact hs _ (by simp)
    · exact entLL_lens h.2 (fun u hu => hs u (by simp [hu])) w hw
  | [], _ :: _, h, _ => h.elim
  | _ :: _, [], h, _ => h.elim
end Go.Eng
