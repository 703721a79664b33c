/- The engine, part G: operations that make memory or write it; nothing of any program is proved here. -/
import Derived.Test.YtbhmplbckkipjaaEngF
namespace Go.Eng
open Go Go.RowKit
set_option linter.unusedSimpArgs false
set_option linter.unusedVariables false

/-! ### one assignment behind another one -/
structure EnvLe (E E' : Env) : Prop where
  n : E.n ≤ E'.n
  blk : ∀ k, k < E.n → E'.blk k = E.blk k
  sl : ∀ k, k < E.n → E'.sl k = E.sl k
  ext : ∀ k, k < E.n → E'.ext k = E.ext k
  bs : ∀ b, E.bs.B b → E'.bs.B b ∧ E'.bs.wb.heap[b]? = E.bs.wb.heap[b]?

theorem EnvLe.refl (E : Env) : EnvLe E E := ⟨Nat.le_refl _, fun _ _ => rfl, fun _ _ => rfl, fun _ _ => rfl, fun _ h => ⟨h, rfl⟩⟩
theorem EnvLe.trans {A B C : Env} (h : EnvLe A B) (k : EnvLe B C) : EnvLe A C :=
  ⟨Nat.le_trans h.n k.n, fun i hi => (k.blk i (Nat.lt_of_lt_of_le hi h.n)).trans (h.blk i hi), fun i hi => (k.sl i (Nat.lt_of_lt_of_le hi h.n)).trans (h.sl i hi), fun i hi => (k.ext i (Nat.lt_of_lt_of_le hi h.n)).trans (h.ext i hi),
    fun b hb => ⟨(k.bs b (h.bs b hb).1).1, (k.bs b (h.bs b hb).1).2.trans (h.bs b hb).2⟩⟩

/-- What doesn't hang on owned blocks holds behind any other assignment of them. -/
theorem RelC.stable {E E' : Env} (hb : ∀ b, E.bs.B b → E'.bs.B b ∧ E'.bs.wb.heap[b]? = E.bs.wb.heap[b]?) : ∀ (x : XC) (v : Value), St x → RelC E x v → RelC E' x v
  | .ep m f, v, _, h => by
    obtain ⟨ad, rfl, hc⟩ := h
    refine ⟨ad, rfl, fun j hj => ?_⟩
    obtain ⟨h1, u, h2, h3, h4⟩ := hc j hj
    exact ⟨(hb _ h1).1, u, by rw [World.cell?_of_block (w := E.bs.wb) (by rw [block_add]; exact (hb _ h1).2)]; exact h2, h3, RelC.stable hb (f j) u h3 h4⟩
  | .rs n z f, v, _, h => by
    obtain ⟨A, c, rfl, h1, h2, hc⟩ := h
    refine ⟨A, c, rfl, h1, h2, fun i hi => ?_⟩
    obtain ⟨ad, e, hcell⟩ := hc i hi
    refine ⟨ad, e, fun j hj => ?_⟩
    obtain ⟨h1, u, h2, h3, h4⟩ := hcell j hj
    exact ⟨(hb _ h1).1, u, by rw [World.cell?_of_block (w := E.bs.wb) (by rw [block_add]; exact (hb _ h1).2)]; exact h2, h3, RelC.stable hb (f i j) u h3 h4⟩
  | .un, _, _, h => h
  | .il _ _, _, _, h => h
  | .i _ _, _, _, h => h
  | .bt, _, _, h => h
  | .bf, _, _, h => h
  | .b _, _, _, h => h
  | .v _, _, _, h => h
  | .p _ _, _, s, _ => s.elim
  | .ow _, _, s, _ => s.elim
  | .q _ _ _ _, _, s, _ => s.elim
  | .sp _ _ _ _, _, s, _ => s.elim
  | .mp _, _, s, _ => s.elim
  | .fn _ _ _, _, s, _ => s.elim

/-- .. but for what abstract items own. -/
structure EnvC (E E' : Env) : Prop where
  n : E.n ≤ E'.n
  blk : ∀ k, k < E.n → E'.blk k = E.blk k
  sl : ∀ k, k < E.n → E'.sl k = E.sl k
  bs : ∀ b, E.bs.B b → E'.bs.B b ∧ E'.bs.wb.heap[b]? = E.bs.wb.heap[b]?
theorem EnvLe.c {E E' : Env} (h : EnvLe E E') : EnvC E E' := ⟨h.n, h.blk, h.sl, h.bs⟩

theorem RelC.monoC {E E' : Env} (hE : EnvC E E') : ∀ (x : XC) (v : Value), RelC E x v → RelC E' x v
  | .p it off, v, h => ⟨Nat.lt_of_lt_of_le h.1 hE.n, by rw [hE.blk it h.1]; exact h.2⟩
  | .ow it, v, h => ⟨Nat.lt_of_lt_of_le h.1 hE.n, by rw [hE.sl it h.1]; exact h.2⟩
  | .q it i z off, v, h => ⟨Nat.lt_of_lt_of_le h.1 hE.n, by rw [hE.sl it h.1]; exact h.2⟩
  | .sp it off n z, v, h => ⟨Nat.lt_of_lt_of_le h.1 hE.n, by rw [hE.blk it h.1]; exact h.2⟩
  | .mp it, v, h => ⟨Nat.lt_of_lt_of_le h.1 hE.n, by rw [hE.blk it h.1]; exact h.2⟩
  | .fn f n caps, v, h => by
    obtain ⟨vs, rfl, hn, hc⟩ := h
    refine ⟨vs, rfl, hn, fun j hj => ?_⟩
    obtain ⟨u, hu, hr⟩ := hc j hj
    exact ⟨u, hu, RelC.monoC hE (caps j) u hr⟩
  | .un, _, h => h
  | .il _ _, _, h => h
  | .i _ _, _, h => h
  | .bt, _, h => h
  | .bf, _, h => h
  | .b _, _, h => h
  | .v _, _, h => h
  | .ep m f, v, h => RelC.stable hE.bs (.ep m f) v trivial h
  | .rs n z f, v, h => RelC.stable hE.bs (.rs n z f) v trivial h

theorem RelL.monoC {E E' : Env} (hE : EnvC E E') : ∀ {l : List XC} {vs : List Value}, RelL E l vs → RelL E' l vs
  | [], [], _ => trivial
  | x :: l, v :: vs, h => ⟨RelC.monoC hE x v h.1, RelL.monoC hE h.2⟩
  | [], _ :: _, h => h.elim
  | _ :: _, [], h => h.elim
theorem RelW.monoC {E E' : Env} (hE : EnvC E E') {x : XW} {v : Value} (h : RelW E x v) : RelW E' x v := by
  cases x with
  | c x => exact RelC.monoC hE x v h
  | a l => obtain ⟨vs, rfl, hl⟩ := h; exact ⟨vs, rfl, hl.monoC hE⟩
theorem RelWs.monoC {E E' : Env} (hE : EnvC E E') : ∀ {l : List XW} {vs : List Value}, RelWs E l vs → RelWs E' l vs
  | [], [], _ => trivial
  | x :: l, v :: vs, h => ⟨h.1.monoC hE, RelWs.monoC hE h.2⟩
  | [], _ :: _, h => h.elim
  | _ :: _, [], h => h.elim
theorem RelV.monoC {E E' : Env} (hE : EnvC E E') {x : XV} {v : Value} (h : RelV E x v) : RelV E' x v := by
  cases x with
  | un => trivial
  | c x => exact RelC.monoC hE x v h
  | a l => obtain ⟨vs, rfl, hl⟩ := h; exact ⟨vs, rfl, hl.monoC hE⟩
  | t l => obtain ⟨vs, rfl, hl⟩ := h; exact ⟨vs, rfl, hl.monoC hE⟩
theorem RelTs.monoC {E E' : Env} (hE : EnvC E E') : ∀ {l : List XV} {vs : List Value}, RelTs E l vs → RelTs E' l vs
  | [], [], _ => trivial
  | x :: l, v :: vs, h => ⟨h.1.monoC hE, RelTs.monoC hE h.2⟩
  | [], _ :: _, h => h.elim
  | _ :: _, [], h => h.elim

theorem RelC.mono {E E' : Env} (hE : EnvLe E E') (x : XC) (v : Value) (h : RelC E x v) : RelC E' x v := RelC.monoC hE.c x v h
theorem RelL.mono {E E' : Env} (hE : EnvLe E E') {l : List XC} {vs : List Value} (h : RelL E l vs) : RelL E' l vs := h.monoC hE.c
theorem RelW.mono {E E' : Env} (hE : EnvLe E E') {x : XW} {v : Value} (h : RelW E x v) : RelW E' x v := h.monoC hE.c
theorem RelWs.mono {E E' : Env} (hE : EnvLe E E') {l : List XW} {vs : List Value} (h : RelWs E l vs) : RelWs E' l vs := h.monoC hE.c
theorem RelV.mono {E E' : Env} (hE : EnvLe E E') {x : XV} {v : Value} (h : RelV E x v) : RelV E' x v := h.monoC hE.c
theorem RelTs.mono {E E' : Env} (hE : EnvLe E E') {l : List XV} {vs : List Value} (h : RelTs E l vs) : RelTs E' l vs := h.monoC hE.c

theorem RelL.stable {E E' : Env} (hb : ∀ b, E.bs.B b → E'.bs.B b ∧ E'.bs.wb.heap[b]? = E.bs.wb.heap[b]?) : ∀ {l : List XC} {vs : List Value}, (∀ x ∈ l, St x) → RelL E l vs → RelL E' l vs
  | [], [], _, _ => trivial
  | x :: l, v :: vs, hs, h => ⟨RelC.stable hb x v (hs x (by simp)) h.1, RelL.stable hb (fun y hy => hs y (by simp [hy])) h.2⟩
  | [], _ :: _, _, h => h.elim
  | _ :: _, [], _, h => h.elim

/-- What of a cell is known whatever turns. -/
def stOr (x : XC) : XC := match stB x with | true => x | false => .un
theorem stOr_st (x : XC) : St (stOr x) := by
  unfold stOr; split
  · exact stB_iff (by assumption)
  · trivial
theorem stOr_rel {E E' : Env} (hb : ∀ b, E.bs.B b → E'.bs.B b ∧ E'.bs.wb.heap[b]? = E.bs.wb.heap[b]?) {x : XC} {v : Value} (h : RelC E x v) : RelC E' (stOr x) v := by
  unfold stOr; split
  · rename_i e; exact RelC.stable hb x v (stB_iff e) h
  · exact h.one
theorem stOr_rels {E E' : Env} (hb : ∀ b, E.bs.B b → E'.bs.B b ∧ E'.bs.wb.heap[b]? = E.bs.wb.heap[b]?) : ∀ {l : List XC} {vs : List Value}, RelL E l vs → RelL E' (l.map stOr) vs
  | [], [], _ => trivial
  | _ :: _, _ :: _, h => ⟨stOr_rel hb h.1, stOr_rels hb h.2⟩
  | [], _ :: _, h => h.elim
  | _ :: _, [], h => h.elim
theorem stOr_sts (l : List XC) : ∀ x ∈ l.map stOr, St x := fun x hx => by
  obtain ⟨y, _, rfl⟩ := List.mem_map.1 hx
  exact stOr_st y

/-- Cells behind which nothing is owned. -/
def StL (l : List XC) : AbsL where
  is bs vs _ _ := (∀ x ∈ l, St x) ∧ ∃ E : Env, E.bs = bs ∧ RelL E l vs
  one h := by obtain ⟨_, E, _, hr⟩ := h; exact hr.all
  st hb _ h := by
    obtain ⟨hs, E, rfl, hr⟩ := h
    exact ⟨hs, { E with bs := _ }, rfl, RelL.stable (E := E) hb hs hr⟩
  pk := l.map stOr
  pkSt := stOr_sts l
  pkOk h E hb := by
    obtain ⟨hs, E0, rfl, hr⟩ := h
    exact stOr_rels (E := E0) hb hr
  fz := l.map stOr
  fzSt := stOr_sts l
  fzOk h E hb _ := by
    obtain ⟨hs, E0, rfl, hr⟩ := h
    exact stOr_rels (E := E0) hb hr

section
variable {E : Env} {h : List It} {w0 : Org} {w : World} {F : Nat → Prop}

theorem Heap.blkLt (hp : Heap w0 F E h w) {k : Nat} {x : It} (hx : h[k]? = some x) : k < E.n := by rw [hp.n]; exact (List.getElem?_eq_some_iff.1 hx).1

theorem ownsRow_block {w w' : World} {base e z n : Nat} {v : Value} {ys : List Value} (ho : w.ownsRow base e z v n ys) (hb : ∀ b, v.ownBlock = some b → w'.heap[b]? = w.heap[b]?) : w'.ownsRow base e z v n ys := by
  obtain ⟨hl, ho⟩ := ho
  refine ⟨hl, ?_⟩
  rcases ho with ho | ⟨g, cap, cur, hsl, h0, hg, hrest⟩
  · exact .inl ho
  · exact .inr ⟨g, cap, cur, hsl, h0, (hb g (by simp [hsl, Value.ownBlock])).trans hg, hrest⟩
theorem PRow.of_block {w' : World} {k e z : Nat} {as : List AbsL} {o : Option (Nat × List XC)} {ys : List Value} {Ss : Nat → Nat → Prop} (hp : PRow E w k e z as o ys Ss) (hb : ∀ b, E.ext k b → w'.heap[b]? = w.heap[b]?) : PRow E w' k e z as o ys Ss :=
  ⟨ownsRow_block hp.row fun b h => hb b (hp.blk b h), fun i a ha ho => a.st (fun _ h => ⟨h, rfl⟩) (fun b h => hb b (hp.own i b h).1) (hp.el i a ha ho), hp.op, hp.sep, hp.own, hp.blk⟩
theorem PRow.mono {E' : Env} (hE : EnvLe E E') {k : Nat} (hk : k < E.n) {e z : Nat} {as : List AbsL} {o : Option (Nat × List XC)} {ys : List Value} {Ss : Nat → Nat → Prop} (hp : PRow E w k e z as o ys Ss) : PRow E' w k e z as o ys Ss := by
  obtain ⟨h1, h2, h3, h4, h5, h6⟩ := hp
  refine ⟨by rw [hE.sl k hk]; exact h1, fun i a ha ho => a.st hE.bs (fun _ _ => rfl) (h2 i a ha ho), fun i cs h => ⟨(h3 i cs h).1, (h3 i cs h).2.1, (h3 i cs h).2.2.mono hE⟩, h4, by rw [hE.sl k hk, hE.ext k hk]; exact h5, by rw [hE.sl k hk, hE.ext k hk]; exact h6⟩

/-- An item's block is all that it hangs on. -/
theorem ItOk.of_block {w' : World} {k : Nat} {x : It} (hi : ItOk E w k x) (hb : ∀ b, Ow E k x b → w'.heap[b]? = w.heap[b]?) : ItOk E w' k x := by
  cases x with
  | dead => trivial
  | cells ty cs =>
    obtain ⟨vs, hv, hr⟩ := hi
    exact ⟨vs, (hb _ rfl).trans hv, hr⟩
  | row e z xs =>
    obtain ⟨ys, ⟨hl, ho⟩, hr⟩ := hi
    refine ⟨ys, ⟨hl, ?_⟩, hr⟩
    rcases ho with ho | ⟨g, cap, cur, hsl, h0, hg, hrest⟩
    · exact .inl ho
    · exact .inr ⟨g, cap, cur, hsl, h0, (hb g (by simp [Ow, hsl, Value.ownBlock])).trans hg, hrest⟩
  | obj Φ =>
    obtain ⟨o, ho, hr⟩ := hi
    exact ⟨o, (hb _ rfl).trans ho, hr⟩
  | abs A => exact A.st (fun b h => ⟨h, rfl⟩) hb hi
  | held vs xs => exact hi
  | prow e z as o => obtain ⟨ys, Ss, h1⟩ := hi; exact ⟨ys, Ss, h1.of_block hb⟩

theorem ItOk.mono {E' : Env} (hE : EnvLe E E') {k : Nat} (hk : k < E.n) {x : It} (hi : ItOk E w k x) : ItOk E' w k x := by
  cases x with
  | dead => trivial
  | cells ty cs =>
    obtain ⟨vs, hv, hr⟩ := hi
    exact ⟨vs, by rw [hE.blk k hk]; exact hv, hr.mono hE⟩
  | row e z xs =>
    obtain ⟨ys, ho, hr, hl⟩ := hi
    exact ⟨ys, by rw [hE.sl k hk]; exact ho, hr.mono hE, hl⟩
  | obj Φ =>
    obtain ⟨o, ho, hr⟩ := hi
    exact ⟨o, by rw [hE.blk k hk]; exact ho, hr⟩
  | abs A =>
    have h1 : A.is E'.bs (E.sl k) (E.ext k) w := A.st hE.bs (fun _ _ => rfl) hi
    show A.is E'.bs (E'.sl k) (E'.ext k) w
    rw [hE.sl k hk, hE.ext k hk]; exact h1
  | held vs xs => exact RelTs.mono hE hi
  | prow e z as o => obtain ⟨ys, Ss, h1⟩ := hi; exact ⟨ys, Ss, h1.mono hE hk⟩

theorem Ow_mono {E' : Env} (hE : EnvLe E E') {k : Nat} (hk : k < E.n) (x : It) : Ow E' k x = Ow E k x := by
  funext b; cases x <;> simp [Ow, hE.blk k hk, hE.sl k hk, hE.ext k hk]

/-- One item more. -/
def Env.push (E : Env) (b : Nat) (v : Value) (S : Nat → Prop := fun _ => False) : Env :=
  { E with n := E.n + 1, blk := fun k => if k = E.n then b else E.blk k, sl := fun k => if k = E.n then v else E.sl k, ext := fun k => if k = E.n then S else E.ext k }
theorem Env.push_le (E : Env) (b : Nat) (v : Value) (S : Nat → Prop := fun _ => False) : EnvLe E (E.push b v S) :=
  ⟨Nat.le_succ _, fun k hk => by simp [Env.push, Nat.ne_of_lt hk], fun k hk => by simp [Env.push, Nat.ne_of_lt hk], fun k hk => by simp [Env.push, Nat.ne_of_lt hk], fun _ h => ⟨h, rfl⟩⟩

theorem Heap.push (hp : Heap w0 F E h w) {w' : World} {x : It} {b : Nat} {v : Value} {S : Nat → Prop} (hw : Fr (fun _ => False) w w') (hi : ItOk (E.push b v S) w' E.n x)
    (hb : ∀ c, Ow (E.push b v S) E.n x c → w.heap.size ≤ c ∧ c < w'.heap.size) : Heap w0 F (E.push b v S) (h ++ [x]) w' := by
  have hE := Env.push_le E b v S
  have keep : ∀ k, k < w.heap.size → w'.heap[k]? = w.heap[k]? := fun k hk => hw.block k hk (fun x => x)
  have at_ : ∀ {k : Nat} {y : It}, (h ++ [x])[k]? = some y → (k < E.n ∧ h[k]? = some y) ∨ (k = E.n ∧ y = x) := by
    intro k y hy
    rw [List.getElem?_append] at hy
    split at hy
    · rename_i hk; exact .inl ⟨by rw [hp.n]; exact hk, hy⟩
    · rename_i hk
      have hk1 : k - h.length < 1 := by simpa using (List.getElem?_eq_some_iff.1 hy).1
      have hk2 : k = h.length := by omega
      subst hk2
      simp at hy
      exact .inr ⟨hp.n.symm, hy.symm⟩
  refine ⟨?_, hp.le, hp.nb, by simp [Env.push, hp.n], ?_, ?_, ?_, ?_⟩
  · intro k hk
    have h1 := hp.bs k hk
    exact ⟨Nat.lt_of_lt_of_le h1.1 hw.size, (keep k h1.1).trans h1.2⟩
  · intro k y hy
    rcases at_ hy with ⟨hk, hy⟩ | ⟨rfl, rfl⟩
    · refine ItOk.of_block ((hp.ok k y hy).mono hE hk) (fun c hc => ?_)
      rw [Ow_mono hE hk] at hc
      exact keep c (hp.own k y c hy hc).1
    · exact hi
  · intro k y c hy hc
    rcases at_ hy with ⟨hk, hy⟩ | ⟨rfl, rfl⟩
    · rw [Ow_mono hE hk] at hc
      have h1 := hp.own k y c hy hc
      exact ⟨Nat.lt_of_lt_of_le h1.1 hw.size, h1.2⟩
    · have h1 := hb c hc
      refine ⟨h1.2, fun hB => ?_, .inl (Nat.le_trans hp.fr.size h1.1)⟩
      have := (hp.bs c hB).1
      omega
  · intro j k y y' c hy hy' hc hc'
    rcases at_ hy with ⟨hj, h1⟩ | ⟨e1, e2⟩ <;> rcases at_ hy' with ⟨hk, h2⟩ | ⟨e3, e4⟩
    · rw [Ow_mono hE hj] at hc
      rw [Ow_mono hE hk] at hc'
      exact hp.sep j k y y' c h1 h2 hc hc'
    · rw [Ow_mono hE hj] at hc
      rw [e3, e4] at hc'
      have := (hp.own j y c h1 hc).1
      have := (hb c hc').1
      omega
    · rw [Ow_mono hE hk] at hc'
      rw [e1, e2] at hc
      have := (hp.own k y' c h2 hc').1
      have := (hb c hc).1
      omega
    · rw [e1, e3]
  · exact hp.fr.trans ⟨hw.os, hw.tape, hw.output, hw.size, fun k hk _ => keep k hk⟩

theorem Fr.alloc (w : World) (o : Obj) : Fr (fun _ => False) w (w.alloc o) := ⟨rfl, rfl, rfl, by simp, fun k hk _ => Below.heap_alloc w o k hk⟩

/-- A new block of known cells. -/
theorem Heap.alloc (hp : Heap w0 F E h w) (t : TypeId) {cs : List XC} {vs : Array Value} (hr : RelL E cs vs.toList) :
    Heap w0 F (E.push w.heap.size undef) (h ++ [.cells t cs]) (w.alloc (.cells vs t)) := by
  refine hp.push (Fr.alloc w _) ⟨vs, ?_, hr.mono (Env.push_le _ _ _)⟩ (fun c hc => ?_)
  · simp only [Env.push, if_pos]; exact heap_alloc_new w _
  · simp only [Ow, Env.push, if_pos] at hc
    subst hc
    exact ⟨Nat.le_refl _, by simp⟩

/-- An item says something else of the same block. -/
theorem Heap.put (hp : Heap w0 F E h w) {w' : World} {it b : Nat} {x y : It} (hx : h[it]? = some x) (hb : Ow E it x b) (hby : ∀ c, Ow E it y c → c = b) (hi : ItOk E w' it y)
    (hs : w'.heap.size = w.heap.size) (ho : w'.os = w.os) (ht : w'.tape = w.tape) (hu : w'.output = w.output) (hk : ∀ k, k ≠ b → w'.heap[k]? = w.heap[k]?) : Heap w0 F E (h.set it y) w' := by
  have hlt := (List.getElem?_eq_some_iff.1 hx).1
  have at_ : ∀ {k : Nat} {z : It}, (h.set it y)[k]? = some z → (k ≠ it ∧ h[k]? = some z) ∨ (k = it ∧ z = y) := by
    intro k z hz
    by_cases he : it = k
    · subst he; rw [List.getElem?_set_self hlt] at hz; exact .inr ⟨rfl, by simpa using hz.symm⟩
    · rw [List.getElem?_set_ne he] at hz; exact .inl ⟨fun e => he e.symm, hz⟩
  have hown := hp.own it x b hx hb
  refine ⟨?_, hp.le, hp.nb, by simpa using hp.n, ?_, ?_, ?_, ?_⟩
  · intro k hB
    have h1 := hp.bs k hB
    exact ⟨by rw [hs]; exact h1.1, (hk k (fun e => hown.2.1 (e ▸ hB))).trans h1.2⟩
  · intro k z hz
    rcases at_ hz with ⟨hne, hz⟩ | ⟨rfl, rfl⟩
    · exact (hp.ok k z hz).of_block fun c hc => hk c fun e => hne (hp.sep k it z x b hz hx (e ▸ hc) hb)
    · exact hi
  · intro k z c hz hc
    rw [hs]
    rcases at_ hz with ⟨hne, hz⟩ | ⟨rfl, rfl⟩
    · exact hp.own k z c hz hc
    · rw [hby c hc]; exact hown
  · intro j k z z' c hz hz' hc hc'
    rcases at_ hz with ⟨hj, h1⟩ | ⟨e1, e2⟩ <;> rcases at_ hz' with ⟨hk', h2⟩ | ⟨e3, e4⟩
    · exact hp.sep j k z z' c h1 h2 hc hc'
    · rw [e3, e4] at hc'
      rw [e3]
      exact hp.sep j it z x c h1 hx hc (by rw [hby c hc']; exact hb)
    · rw [e1, e2] at hc
      rw [e1]
      exact hp.sep it k x z' c hx h2 (by rw [hby c hc]; exact hb) hc'
    · rw [e1, e3]
  · refine ⟨ho.trans hp.fr.os, ht.trans hp.fr.tape, hu.trans hp.fr.output, by rw [hs]; exact hp.fr.size, fun k hk' hF => ?_⟩
    refine (hk k fun e => ?_).trans (hp.fr.block k hk' hF)
    subst e
    rcases hown.2.2 with h1 | h1
    · omega
    · exact hF h1

/-- An item says something else of what it owns. -/
theorem Heap.putTo (hp : Heap w0 F E h w) {w' : World} {it : Nat} {x y : It} (hx : h[it]? = some x) (hby : ∀ c, Ow E it y c → Ow E it x c) (hi : ItOk E w' it y)
    (hs : w'.heap.size = w.heap.size) (ho : w'.os = w.os) (ht : w'.tape = w.tape) (hu : w'.output = w.output) (hk : ∀ k, ¬ Ow E it x k → w'.heap[k]? = w.heap[k]?) : Heap w0 F E (h.set it y) w' := by
  have hlt := (List.getElem?_eq_some_iff.1 hx).1
  have at_ : ∀ {k : Nat} {z : It}, (h.set it y)[k]? = some z → (k ≠ it ∧ h[k]? = some z) ∨ (k = it ∧ z = y) := by
    intro k z hz
    by_cases he : it = k
    · subst he; rw [List.getElem?_set_self hlt] at hz; exact .inr ⟨rfl, by simpa using hz.symm⟩
    · rw [List.getElem?_set_ne he] at hz; exact .inl ⟨fun e => he e.symm, hz⟩
  refine ⟨?_, hp.le, hp.nb, by simpa using hp.n, ?_, ?_, ?_, ?_⟩
  · intro k hB
    have h1 := hp.bs k hB
    exact ⟨by rw [hs]; exact h1.1, (hk k (fun e => (hp.own it x k hx e).2.1 hB)).trans h1.2⟩
  · intro k z hz
    rcases at_ hz with ⟨hne, hz⟩ | ⟨rfl, rfl⟩
    · exact (hp.ok k z hz).of_block fun c hc => hk c fun e => hne (hp.sep k it z x c hz hx hc e)
    · exact hi
  · intro k z c hz hc
    rw [hs]
    rcases at_ hz with ⟨hne, hz⟩ | ⟨rfl, rfl⟩
    · exact hp.own k z c hz hc
    · exact hp.own k x c hx (hby c hc)
  · intro j k z z' c hz hz' hc hc'
    rcases at_ hz with ⟨hj, h1⟩ | ⟨e1, e2⟩ <;> rcases at_ hz' with ⟨hk', h2⟩ | ⟨e3, e4⟩
    · exact hp.sep j k z z' c h1 h2 hc hc'
    · rw [e3, e4] at hc'
      rw [e3]
      exact hp.sep j it z x c h1 hx hc (hby c hc')
    · rw [e1, e2] at hc
      rw [e1]
      exact hp.sep it k x z' c hx h2 (hby c hc) hc'
    · rw [e1, e3]
  · refine ⟨ho.trans hp.fr.os, ht.trans hp.fr.tape, hu.trans hp.fr.output, by rw [hs]; exact hp.fr.size, fun k hk' hF => ?_⟩
    refine (hk k fun e => ?_).trans (hp.fr.block k hk' hF)
    rcases (hp.own it x k hx e).2.2 with h1 | h1
    · omega
    · exact hF h1
end
end Go.Eng
