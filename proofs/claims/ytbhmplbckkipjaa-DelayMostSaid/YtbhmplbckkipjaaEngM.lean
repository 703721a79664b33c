/- The engine, part M: functions, their contracts, calls by contract, loops; nothing of any program is proved here. -/
import Derived.Test.YtbhmplbckkipjaaEngL
namespace Go.Eng
open Go Go.RowKit
set_option linter.unusedSimpArgs false
set_option linter.unusedVariables false

/-! ### results -/
def oneRes (T : Tab) (ts : List XV) (h : List It) (r : ResultVar) (k : XV → Prop) : Prop :=
  match r with
  | .tmp t => k (get ts t)
  | .cell a t => loadX T t (get ts a) h (fun _ => true) k
def toW (x : XV) (k : XW → Prop) : Prop :=
  match x with
  | .c x => k (.c x)
  | .a l => k (.a l)
  | _ => False
def manyRes (T : Tab) (ts : List XV) (h : List It) : List ResultVar → (List XW → Prop) → Prop
  | [], k => k []
  | r :: l, k => oneRes T ts h r fun x => forceV x fun x => toW x fun x => manyRes T ts h l fun l => k (x :: l)
def resX (T : Tab) (ts : List XV) (h : List It) (rs : List ResultVar) (k : XV → Prop) : Prop :=
  match rs with
  | [r] => oneRes T ts h r fun x => forceV x k
  | rs => manyRes T ts h rs fun l => k (.t l)

section
variable {P : Program} {T : Tab} (hT : TabOk P T) {E : Env} {h : List It} {w0 : Org} {w : World} {F : Nat → Prop} {ts : List XV} {tmps : Array Value}

def resSem (tmps : Array Value) (r : ResultVar) : Sem Value :=
  match r with
  | .tmp t => pure (tmps.getD t undef)
  | .cell a t => do loadVar t (← asAddr (tmps.getD a undef))

theorem getD_toList (tmps : Array Value) (t : Nat) : tmps.getD t undef = tmps.toList.getD t undef := by simp

include hT in
theorem oneRes_sound {r : ResultVar} {k : XV → Prop} (hh : oneRes T ts h r k) (hr : RelTs E ts tmps.toList) (hp : Heap w0 F E h w) :
    ∃ x u, k x ∧ RelV E x u ∧ (resSem tmps r).run P w = .ok u w := by
  unfold oneRes at hh
  split at hh
  · rename_i t
    exact ⟨_, _, hh, hr.get t, by simp [resSem]⟩
  · rename_i a t
    have hv := hr.get a
    obtain ⟨x, u, hk, hx, hrun⟩ := loadX_sound hT hh hv hp
    refine ⟨x, u, hk, hx, ?_⟩
    have := hrun w (same_refl hp _)
    simp only [resSem, getD_toList]
    generalize tmps.toList.getD a undef = p at this hv
    cases p with
    | pointer o =>
      cases o with
      | some ad => simpa [Instr.loadAt, Instr.sureAddr, asAddr] using this
      | none => simp [Instr.loadAt, Instr.sureAddr] at this
    | _ => simp [Instr.loadAt, Instr.sureAddr] at this

include hT in
theorem manyRes_sound : ∀ {rs : List ResultVar} {k : List XW → Prop}, manyRes T ts h rs k → RelTs E ts tmps.toList → Heap w0 F E h w →
    ∃ xs us, k xs ∧ RelWs E xs us ∧ us.length = rs.length ∧ (rs.mapM (resSem tmps)).run P w = .ok us w
  | [], k, hh, _, _ => ⟨[], [], hh, trivial, rfl, by simp⟩
  | r :: rs, k, hh, hr, hp => by
    unfold manyRes at hh
    obtain ⟨x, u, hk, hx, hrun⟩ := oneRes_sound hT hh hr hp
    rw [forceV_eq] at hk
    unfold toW at hk
    split at hk
    · obtain ⟨xs, us, hk', hxs, hl, hrun'⟩ := manyRes_sound hk hr hp
      exact ⟨_, u :: us, hk', ⟨hx, hxs⟩, by simp [hl], by simp [List.mapM_cons, hrun, hrun']⟩
    · obtain ⟨xs, us, hk', hxs, hl, hrun'⟩ := manyRes_sound hk hr hp
      exact ⟨_, u :: us, hk', ⟨hx, hxs⟩, by simp [hl], by simp [List.mapM_cons, hrun, hrun']⟩
    · exact hk.elim

theorem results_eq (fn : Func) (tmps : Array Value) : results fn tmps = (do let vs ← fn.results.mapM (resSem tmps); pure (if h : vs.size = 1 then vs[0] else .tuple vs)) := by
  unfold results
  congr 1

theorem run_mapM_array (fn : Func) {us : List Value} (hrun : (fn.results.toList.mapM (resSem tmps)).run P w = .ok us w) : (fn.results.mapM (resSem tmps)).run P w = .ok us.toArray w := by
  rw [Array.mapM_eq_mapM_toList]
  simp [hrun]

theorem RelWs.len {E : Env} : ∀ {l : List XW} {vs : List Value}, RelWs E l vs → l.length = vs.length
  | [], [], _ => rfl
  | _ :: _, _ :: _, h => by simp [RelWs.len h.2]
  | [], _ :: _, h => h.elim
  | _ :: _, [], h => h.elim

include hT in
theorem resX_sound {fn : Func} {k : XV → Prop} (hh : resX T ts h fn.results.toList k) (hr : RelTs E ts tmps.toList) (hp : Heap w0 F E h w) :
    ∃ x u, k x ∧ RelV E x u ∧ (results fn tmps).run P w = .ok u w := by
  unfold resX at hh
  rw [results_eq]
  split at hh
  · rename_i r hrs
    obtain ⟨x, u, hk, hx, hrun⟩ := oneRes_sound hT hh hr hp
    rw [forceV_eq] at hk
    have hm := run_mapM_array (P := P) (w := w) (tmps := tmps) fn (us := [u]) (by rw [hrs]; simp [List.mapM_cons, hrun])
    refine ⟨x, u, hk, hx, ?_⟩
    simp [hm]
  · rename_i hno
    obtain ⟨xs, us, hk, hxs, hl, hrun⟩ := manyRes_sound hT hh hr hp
    have hm := run_mapM_array (P := P) (w := w) (tmps := tmps) fn hrun
    refine ⟨_, _, hk, ⟨us.toArray, rfl, by simpa using hxs⟩, ?_⟩
    have : us.toArray.size ≠ 1 := by
      intro e
      have : fn.results.toList.length = 1 := by rw [← hl]; simpa using e
      match hrs : fn.results.toList, this with
      | [r], _ => exact hno r hrs
    simp only [Sem.run_bind, hm, Result.andThen_ok, Sem.run_pure]
    rw [dif_neg this]
end

/-! ### functions -/
def bodyOf (fn : Func) : Code := match fn.body with | some c => c | none => .refuse ""
def endQ (T : Tab) (fn : Func) (R : XV → List It → Prop) : KQ
  | .normal, ts, h => resX T ts h fn.results.toList fun x => R x h
  | .ret, ts, h => resX T ts h fn.results.toList fun x => R x h
  | _, _, _ => False
def forceTs : List XV → (List XV → Prop) → Prop
  | [], k => k []
  | x :: l, k => forceV x fun x => forceTs l fun l => k (x :: l)
theorem forceTs_eq : ∀ (l : List XV) (k : List XV → Prop), forceTs l k = k l
  | [], _ => rfl
  | x :: l, k => by simp only [forceTs, forceV_eq, forceTs_eq l]
def padX (n : Nat) (xs : List XV) : List XV := xs ++ List.replicate (n - xs.length) (.t [])

/-- The whole function, from its arguments on. -/
def fnX (C : Cx) (fn : Func) (xs : List XV) (h : List It) (R : XV → List It → Prop) : Prop :=
  forceTs (padX fn.ntmps xs) fun ts => codeX C (bodyOf fn) (endQ C.T fn R) ts h

theorem rep_undef {E : Env} : ∀ n, RelTs E (List.replicate n (.t [])) (List.replicate n undef)
  | 0 => trivial
  | n + 1 => ⟨undef_rel E, rep_undef n⟩

/-- A block that nobody owns turns. -/
theorem Heap.putFree {w0 : Org} {F : Nat → Prop} {E : Env} {h : List It} {w : World} (hp : Heap w0 F E h w) {b : Nat} (o : Obj) (h0 : w0.w.heap.size ≤ b) (hB : ¬ E.bs.B b) (hno : ∀ (k : Nat) (x : It), h[k]? = some x → ¬ Ow E k x b) :
    Heap w0 F E h (w.putObj b o) := by
  have keep : ∀ k, k ≠ b → (w.putObj b o).heap[k]? = w.heap[k]? := fun k hk => World.putObj_heap_other hk
  refine ⟨?_, hp.le, hp.nb, hp.n, ?_, ?_, hp.sep, ?_⟩
  · intro k hk
    have h1 := hp.bs k hk
    exact ⟨by rw [World.putObj_size]; exact h1.1, (keep k fun e => hB (e ▸ hk)).trans h1.2⟩
  · intro k x hx
    exact (hp.ok k x hx).of_block fun c hc => keep c fun e => hno k x hx (e ▸ hc)
  · intro k x c hx hc
    rw [World.putObj_size]; exact hp.own k x c hx hc
  · refine ⟨hp.fr.os, hp.fr.tape, hp.fr.output, by rw [World.putObj_size]; exact hp.fr.size, fun k hk hF => (keep k (by omega)).trans (hp.fr.block k hk hF)⟩

/-- The marks are come to: their blocks are shut; all else stands. -/
theorem leaves_marks {nf : Nat} {w0 : Org} {F : Nat → Prop} {E : Env} {h : List It} {P : Program} {fn : Func} {tmps : Array Value} {R : Ending → World → Prop} : ∀ (bl : List Nat) (w : World), bl.Nodup →
    (∀ b ∈ bl, w0.w.heap.size ≤ b ∧ ¬ E.bs.B b ∧ (∀ (k : Nat) (x : It), h[k]? = some x → ¬ Ow E k x b) ∧ w.heap[b]? = some (.deferred (some []))) → Heap w0 F E h w →
    (∀ w', Heap w0 F E h w' → ∃ v, (results fn tmps).run P w' = .ok v w' ∧ R (.returned v) w') → LeavesInM Fence.wide nf P fn tmps R (bl.map markOf) .returning w
  | [], w, _, _, hp, hk => hk w hp
  | b :: bl, w, hnd, hb, hp, hk => by
    obtain ⟨h0, hB, hno, ho⟩ := hb b (by simp)
    obtain ⟨hnb, hnd⟩ := List.nodup_cons.1 hnd
    refine ⟨by simp, .inl ⟨b, _, rfl, run_takeDeferred ho, leaves_marks bl _ hnd (fun c hc => ?_) (hp.putFree _ h0 hB hno) hk⟩⟩
    obtain ⟨g0, gB, gno, go⟩ := hb c (by simp [hc])
    exact ⟨g0, gB, gno, (World.putObj_heap_other (show c ≠ b from fun e => hnb (e ▸ hc))).trans go⟩

theorem Heap.fnf {nf : Nat} {w0 w1 : Org} {F F1 : Nat → Prop} {E : Env} {h : List It} {w : World} {ds : List Deferred} {P : Program} {fn : Func} {tmps : Array Value} {R : Ending → World → Prop} (hs : Sub w0 F w1 F1) (hm : Marks w0 w1 F1 ds) (hp : Heap w1 F1 E h w)
    (hk : ∀ w', Heap w0 F E h w' → ∃ v, (results fn tmps).run P w' = .ok v w' ∧ R (.returned v) w') : LeavesInM Fence.wide nf P fn tmps R ds .returning w := by
  obtain ⟨bl, hnd, rfl, hb⟩ := hm
  refine leaves_marks bl w hnd (fun b hb' => ?_) (hs.2 _ _ _ hp) hk
  obtain ⟨h0, hlt, hF, hB, ho⟩ := hb b hb'
  refine ⟨h0, fun hB' => ?_, fun k x hx hbx => ?_, (hp.fr.block b hlt hF).trans ho⟩
  · rcases hp.nb b hB' with h1 | h1 | h1
    · exact hB h1
    · omega
    · exact hF h1
  · rcases (hp.own k x b hx hbx).2.2 with h1 | h1
    · omega
    · exact hF h1

section
variable {P : Program} {T : Tab} (hT : TabOk P T)

include hT in
theorem fnX_sound {f : FuncId} {fn : Func} (hf : P.funcs[f]? = some fn) (hb : fn.body.isSome = true) {w : World} {w0 : Org} {F : Nat → Prop} {E : Env} {xs : List XV} {us : List Value} {h : List It} {R : XV → List It → Prop} {js : List Nat}
    (hh : fnX ⟨P, T, js, none⟩ fn xs h R) (hr : RelTs E xs us) (hp : Heap w0 F E h w) :
    Calls P f us.toArray w fun e w' => ∃ u x h' E', e = .returned u ∧ R x h' ∧ RelV E' x u ∧ Heap w0 F E' h' w' := by
  obtain ⟨c, hc⟩ := Option.isSome_iff_exists.1 hb
  unfold fnX at hh
  rw [forceTs_eq, bodyOf, hc] at hh
  refine callsIn_wide.1 (callsIn_of_wp_marks (n := 0) hf hc trivial (codeX_sound (C := ⟨P, T, js, none⟩) hT c hh (Cfg.start (w0 := w0) (F := F) (E := E) rfl ?_ hp) ?_))
  · have hl := hr.len
    simp only [Array.toList_append, Array.toList_replicate, List.size_toArray, padX, hl]
    exact hr.append (rep_undef _)
  · intro e ts h' a w' hq hcfg
    obtain ⟨w1, F1, hsub, hd, E', hr', hp'⟩ := hcfg
    have key : resX T ts h' fn.results.toList (fun x => R x h') → LeavesInM Fence.wide 0 P fn a.tmps (fun e w' => ∃ u x h' E', e = .returned u ∧ R x h' ∧ RelV E' x u ∧ Heap w0 F E' h' w') a.defers .returning w' := fun hq =>
      Heap.fnf hsub hd hp' fun w'' hp'' => by
        obtain ⟨x, u, hk, hx, hrun⟩ := resX_sound hT hq hr' hp''
        exact ⟨u, hrun, u, x, h', E', rfl, hk, hx, hp''⟩
    cases e with
    | normal => exact key hq
    | ret => exact key hq
    | exit n => exact hq.elim
    | goto n => exact hq.elim

/-- A contract: called with these arguments (numbers, and what is told of memory that doesn't turn) the function comes to R, and turns nothing that was there. -/
structure Fn (P : Program) (f : FuncId) (xs : List XV) (R : XV → List It → Prop) : Prop where
  ok : FnOk P f
  run : ∀ bs w us, bs.ok w → RelTs ⟨bs, 0, fun _ => 0, fun _ => undef, fun _ _ => False⟩ xs us → Calls P f us.toArray w fun e w' => ∃ u x h' E', e = .returned u ∧ R x h' ∧ RelV E' x u ∧ Heap ⟨w, bs⟩ (fun _ => False) E' h' w'

theorem Heap.start {bs : Base} {w : World} {F : Nat → Prop} (hb : bs.ok w) : Heap ⟨w, bs⟩ F ⟨bs, 0, fun _ => 0, fun _ => undef, fun _ _ => False⟩ [] w :=
  ⟨hb, BsLe.refl _, fun _ h => .inl h, rfl, fun _ _ h => by simp at h, fun _ _ _ h => by simp at h, fun _ _ _ _ _ h => by simp at h, Fr.refl _ _⟩

include hT in
theorem Fn.of {f : FuncId} {fn : Func} (hf : P.funcs[f]? = some fn) (hb : fn.body.isSome = true) (hn : (fn.name == "runtime.NumGoroutine") = false) {xs : List XV} {R : XV → List It → Prop}
    (hh : ∀ w0 : Org, fnX ⟨P, T, [], none⟩ fn xs [] R) : Fn P f xs R :=
  ⟨⟨fn, hf, hn, hb⟩, fun bs w us hbs hr => fnX_sound hT hf hb (hh ⟨w, bs⟩) hr (Heap.start hbs)⟩
include hT in
/-- .. with cuts ahead of the regions of these numbers. -/
theorem Fn.ofJ (js : List Nat) {f : FuncId} {fn : Func} (hf : P.funcs[f]? = some fn) (hb : fn.body.isSome = true) (hn : (fn.name == "runtime.NumGoroutine") = false) {xs : List XV} {R : XV → List It → Prop}
    (hh : ∀ w0 : Org, fnX ⟨P, T, js, none⟩ fn xs [] R) : Fn P f xs R :=
  ⟨⟨fn, hf, hn, hb⟩, fun bs w us hbs hr => fnX_sound hT hf hb (hh ⟨w, bs⟩) hr (Heap.start hbs)⟩

theorem Fn.mono {f : FuncId} {xs : List XV} {R R' : XV → List It → Prop} (h : Fn P f xs R) (hR : ∀ x h', R x h' → R' x h') : Fn P f xs R' :=
  ⟨h.ok, fun bs w us hbs hr => (h.run bs w us hbs hr).mono fun e w' ⟨u, x, h', E', he, hk, hx, hp⟩ => ⟨u, x, h', E', he, hR _ _ hk, hx, hp⟩⟩

/-- The function's value, nothing else. -/
def Is (v : XV) : XV → List It → Prop := fun x h => x = v ∧ h = []
end

/-! ### calls by contract -/
def stXs : List XV → Bool
  | [] => true
  | .c x :: l => (match stB x with | true => stXs l | false => false)
  | .a cs :: l => (match allSt cs with | true => stXs l | false => false)
  | .un :: l => stXs l
  | .t [] :: l => stXs l
  | _ => false
theorem stXs_rel {E E' : Env} (hb : E'.bs = E.bs) : ∀ {xs : List XV} {vs : List Value}, stXs xs = true → RelTs E xs vs → RelTs E' xs vs
  | [], [], _, _ => trivial
  | .c x :: xs, v :: vs, hs, h => by
    unfold stXs at hs
    split at hs
    · rename_i h1
      exact ⟨RelC.stable (by rw [hb]; exact fun _ hb => ⟨hb, rfl⟩) x v (stB_iff h1) h.1, stXs_rel hb hs h.2⟩
    · cases hs
  | .a cs :: xs, v :: vs, hs, h => by
    unfold stXs at hs
    split at hs
    · rename_i h1
      obtain ⟨us, e, hl⟩ := h.1
      exact ⟨⟨us, e, RelL.ofSt hb (allSt_iff h1) hl⟩, stXs_rel hb hs h.2⟩
    · cases hs
  | .un :: xs, v :: vs, hs, h => ⟨trivial, stXs_rel hb (by simpa [stXs] using hs) h.2⟩
  | .t [] :: xs, v :: vs, hs, h => ⟨by obtain ⟨us, e, hl⟩ := h.1; exact ⟨us, e, by cases hu : us.toList with | nil => trivial | cons a l => rw [hu] at hl; exact hl.elim⟩, stXs_rel hb (by simpa [stXs] using hs) h.2⟩
  | .t (_ :: _) :: _, _ :: _, hs, _ => by simp [stXs] at hs
  | [], _ :: _, _, h => h.elim
  | _ :: _, [], _, h => h.elim

/-- A value whose cells hang on no block of the callee's own. -/
def stX : XV → Prop
  | .c x => St x
  | .a l => ∀ x ∈ l, St x
  | .t l => ∀ x ∈ l, (match x with | .c x => St x | .a l => ∀ x ∈ l, St x)
  | .un => True

theorem RelV.ofSt {E E' : Env} (hb : ∀ b, E.bs.B b → E'.bs.B b ∧ E'.bs.wb.heap[b]? = E.bs.wb.heap[b]?) {x : XV} {v : Value} (hs : stX x) (h : RelV E x v) : RelV E' x v := by
  have hl : ∀ {l : List XC} {vs : List Value}, (∀ x ∈ l, St x) → RelL E l vs → RelL E' l vs := by
    intro l
    induction l with
    | nil => intro vs _ h; cases vs with | nil => trivial | cons _ _ => exact h.elim
    | cons x l ih =>
      intro vs hs h
      cases vs with
      | nil => exact h.elim
      | cons v vs => exact ⟨RelC.stable hb x v (hs x (by simp)) h.1, ih (fun y hy => hs y (by simp [hy])) h.2⟩
  cases x with
  | un => trivial
  | c x => exact RelC.stable hb x v hs h
  | a l => obtain ⟨vs, rfl, h⟩ := h; exact ⟨vs, rfl, hl hs h⟩
  | t l =>
    obtain ⟨vs, rfl, h⟩ := h
    refine ⟨vs, rfl, ?_⟩
    have key : ∀ {l : List XW} {vs : List Value}, (∀ x ∈ l, (match x with | .c x => St x | .a l => ∀ x ∈ l, St x)) → RelWs E l vs → RelWs E' l vs := by
      intro l
      induction l with
      | nil => intro vs _ h; cases vs with | nil => trivial | cons _ _ => exact h.elim
      | cons x l ih =>
        intro vs hs h
        cases vs with
        | nil => exact h.elim
        | cons v vs =>
          refine ⟨?_, ih (fun y hy => hs y (by simp [hy])) h.2⟩
          have h1 := hs x (by simp)
          cases x with
          | c x => exact RelC.stable hb x v h1 h.1
          | a l => obtain ⟨us, e, h2⟩ := h.1; exact ⟨us, e, hl h1 h2⟩
    exact key hs h

section
variable {C : Cx} {f : FuncId} {args : List XV} {ts : List XV} {h : List It} {k : KE} {R : XV → List It → Prop}

/-- What a caller has, behind a call that turned nothing. -/
theorem Heap.behind {w0 : Org} {F : Nat → Prop} {E : Env} {w w' : World} (hp : Heap w0 F E h w) {E' : Env} {h' : List It} (hp' : Heap ⟨w, E.bs⟩ (fun _ => False) E' h' w') :
    Heap w0 F { E with bs := E'.bs } h w' ∧ EnvLe E { E with bs := E'.bs } := by
  have keep : ∀ k, k < w.heap.size → w'.heap[k]? = w.heap[k]? := fun k hk => hp'.fr.block k hk (fun x => x)
  have hle : EnvLe E { E with bs := E'.bs } := ⟨Nat.le_refl _, fun _ _ => rfl, fun _ _ => rfl, fun _ _ => rfl, hp'.le⟩
  refine ⟨⟨hp'.bs, hp.le.trans hp'.le, ?_, hp.n, ?_, ?_, ?_, ?_⟩, hle⟩
  · intro b hb
    rcases hp'.nb b hb with h1 | h1 | h1
    · exact hp.nb b h1
    · exact .inr (.inl (Nat.le_trans hp.fr.size h1))
    · exact h1.elim
  · intro k x hx
    exact ItOk.of_block ((hp.ok k x hx).mono hle (hp.blkLt hx)) (fun b hb => keep b (hp.own k x b hx (by rw [Ow_mono hle (hp.blkLt hx)] at hb; exact hb)).1)
  · intro k x b hx hb
    have hb : Ow E k x b := by rw [Ow_mono hle (hp.blkLt hx)] at hb; exact hb
    have h1 := hp.own k x b hx hb
    refine ⟨Nat.lt_of_lt_of_le h1.1 hp'.fr.size, fun hB => ?_, h1.2.2⟩
    rcases hp'.nb b hB with h2 | h2 | h2
    · exact h1.2.1 h2
    · have : w.heap.size ≤ b := h2
      omega
    · exact h2.elim
  · intro j k x y b hx hy hb hb'
    rw [Ow_mono hle (hp.blkLt hx)] at hb
    rw [Ow_mono hle (hp.blkLt hy)] at hb'
    exact hp.sep j k x y b hx hy hb hb'
  · exact ⟨hp'.fr.os.trans hp.fr.os, hp'.fr.tape.trans hp.fr.tape, hp'.fr.output.trans hp.fr.output, Nat.le_trans hp.fr.size hp'.fr.size,
      fun k hk hF => (keep k (Nat.lt_of_lt_of_le hk hp.fr.size)).trans (hp.fr.block k hk hF)⟩

/-- A call by contract; what comes back hangs on no block of the callee's. -/
theorem callx (hf : Fn C.P f args R) (hs : stXs args = true) (hk : ∀ x h', R x h' → stX x ∧ k x ts h) : CallX C f args ts h k := by
  unfold CallX
  refine ⟨hf.ok, fun w0 F E w vs us hr hargs hp => ?_⟩
  refine (hf.run E.bs w us hp.bs (stXs_rel (E := E) (E' := ⟨E.bs, 0, fun _ => 0, fun _ => undef, fun _ _ => False⟩) rfl hs hargs)).mono fun e w' ⟨u, x, h', E', he, hR, hx, hp'⟩ => ?_
  obtain ⟨hst, hk⟩ := hk x h' hR
  obtain ⟨hp2, hle⟩ := hp.behind hp'
  exact ⟨u, x, ts, h, { E with bs := E'.bs }, he, hk, RelV.ofSt (E := E') (E' := { E with bs := E'.bs }) (fun b hb => ⟨hb, rfl⟩) hst hx, hr.mono hle, hp2⟩

/-- .. whose answer is known. -/
theorem callx_is {v : XV} (hf : Fn C.P f args (Is v)) (hs : stXs args = true) (hv : stX v) (hk : k v ts h) : CallX C f args ts h k :=
  callx hf hs fun x h' hR => by obtain ⟨rfl, _⟩ := hR; exact ⟨hv, hk⟩
end
end Go.Eng
