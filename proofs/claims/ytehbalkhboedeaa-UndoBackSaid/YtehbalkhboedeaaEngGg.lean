/- The engine, part Gg: loops over functions, the iterator walked in place. Nothing of any program is proved here. -/
import Derived.Test.YtehbalkhboedeaaEngP4
namespace Go.Eng
open Go Go.RowKit
set_option linter.unusedSimpArgs false
set_option linter.unusedVariables false

/-- The record of a loop over a function. -/
def LoopA (l : Nat) (st : LoopState) (pd : Option Code) (us : Array Value) (ps : Array Tmp) (as bd : Code) : Abs where
  is _ v S w := v = .int .i64 0 ∧ (∀ b, S b ↔ b = l) ∧ ∃ fn d, w.heap[l]? = some (.loop { state := st, pending := pd, fn := fn, tmps := us, params := ps, assign := as, body := bd, defers := d })
  one h := by rw [h.1]; rfl
  st _ hw h := by
    obtain ⟨h1, h2, fn, d, h3⟩ := h
    exact ⟨h1, h2, fn, d, (hw l ((h2 l).2 rfl)).trans h3⟩

section
variable {w0 : Org} {F : Nat → Prop} {E : Env} {h : List It} {w : World}
/-- The record turns. -/
theorem Heap.putLoop (hp : Heap w0 F E h w) {r l : Nat} {st st' : LoopState} {pd pd' : Option Code} {us : Array Value} {ps : Array Tmp} {as bd : Code} (hx : h[r]? = some (.abs (LoopA l st pd us ps as bd))) :
    ∃ fn d, w.heap[l]? = some (.loop { state := st, pending := pd, fn := fn, tmps := us, params := ps, assign := as, body := bd, defers := d }) ∧
      Heap w0 F E (h.set r (.abs (LoopA l st' pd' us ps as bd))) (w.putObj l (.loop { state := st', pending := pd', fn := fn, tmps := us, params := ps, assign := as, body := bd, defers := d })) := by
  obtain ⟨h1, h2, fn, d, h3⟩ := hp.ok r _ hx
  have hl : l < w.heap.size := (Array.getElem?_eq_some_iff.1 h3).1
  exact ⟨fn, d, h3, hp.putTo hx (fun c hc => hc) ⟨h1, h2, fn, d, World.putObj_heap_same hl⟩ (by simp) rfl rfl rfl (fun k hk => World.putObj_heap_other fun e => hk (by rw [e]; exact (h2 l).2 rfl))⟩
/-- .. once nobody owns it. -/
theorem Heap.putGone (hp : Heap w0 F E h w) {b : Nat} (o : Obj) (h0 : w0.w.heap.size ≤ b ∨ F b) (hB : ¬ E.bs.B b) (hno : ∀ (k : Nat) (x : It), h[k]? = some x → ¬ Ow E k x b) :
    Heap w0 F E h (w.putObj b o) := by
  have keep : ∀ k, k ≠ b → (w.putObj b o).heap[k]? = w.heap[k]? := fun k hk => World.putObj_heap_other hk
  refine ⟨?_, hp.le, hp.nb, hp.n, ?_, ?_, hp.sep, ?_⟩
  · intro k hk
    have h1 := hp.bs k hk
    exact ⟨by rw [World.putObj_size]; exact h1.1, (keep k fun e => hB (e ▸ hk)).trans h1.2⟩
  · intro k x hx
    exact (hp.ok k x hx).of_block fun c hc => keep c fun e => hno k x hx (e ▸ hc)
  · intro k x c hx hc
    rw [World.putObj_size]; exact hp.own k x c hx hc
  · refine ⟨hp.fr.os, hp.fr.tape, hp.fr.output, by rw [World.putObj_size]; exact hp.fr.size, fun k hk hF => (keep k fun e => ?_).trans (hp.fr.block k hk hF)⟩
    rcases h0 with h0 | h0
    · omega
    · exact hF (e ▸ h0)
end

/-! ### a round -/
def setPs : List Tmp → List XV → List XV → (List XV → Prop) → Prop
  | [], [], t, k => k t
  | p :: ps, x :: xs, t, k => setK t p x fun t => setPs ps xs t k
  | _, _, _, _ => False
theorem setPs_rel {E : Env} : ∀ {ps : List Tmp} {xs : List XV} {us : List Value} {t : List XV} {tmps : Array Value} {k : List XV → Prop}, setPs ps xs t k → RelTs E xs us → RelTs E t tmps.toList →
    ps.length = us.length ∧ ∃ t', k t' ∧ RelTs E t' (((ps.zip us).foldl (fun (tmps : Array Value) (p : Tmp × Value) => tmps.setIfInBounds p.1 p.2) tmps).toList)
  | [], [], us, t, tmps, k, hk, hx, ht => by
    cases us with
    | nil => exact ⟨rfl, t, hk, ht⟩
    | cons _ _ => exact hx.elim
  | p :: ps, x :: xs, us, t, tmps, k, hk, hx, ht => by
    cases us with
    | nil => exact hx.elim
    | cons u us =>
      unfold setPs at hk
      rw [setK_eq] at hk
      obtain ⟨h1, t', h2, h3⟩ := setPs_rel (tmps := tmps.setIfInBounds p u) hk hx.2 (by rw [Array.toList_setIfInBounds]; exact ht.set p hx.1)
      exact ⟨by simp [h1], t', h2, h3⟩
  | [], _ :: _, _, _, _, _, hk, _, _ => hk.elim
  | _ :: _, [], _, _, _, _, hk, _, _ => hk.elim

def roundEnd (n : Nat) (vs : List Value) (k : KE) (x : XV) (h : List It) : Prop :=
  match itemAt h n with
  | .held vs' ts => vs' = vs ∧ setH h n .dead fun h => k x ts h
  | _ => False
def bodQ (l : Nat) (us : Array Value) (ps : Array Tmp) (as bd : Code) (r n : Nat) (vs : List Value) (k : KE) : KQ
  | .normal, _, h => itemAt h r = .abs (LoopA l .busy none us ps as bd) ∧ setH h r (.abs (LoopA l .ready none us ps as bd)) fun h => roundEnd n vs k (.c .bt) h
  | .ret, _, h => itemAt h r = .abs (LoopA l .busy none us ps as bd) ∧ setH h r (.abs (LoopA l .done (some .ret) us ps as bd)) fun h => roundEnd n vs k (.c .bf) h
  | .exit i, _, h => itemAt h r = .abs (LoopA l .busy none us ps as bd) ∧ setH h r (.abs (LoopA l .done (some (.exit i)) us ps as bd)) fun h => roundEnd n vs k (.c .bf) h
  | .goto i, _, h => itemAt h r = .abs (LoopA l .busy none us ps as bd) ∧ setH h r (.abs (LoopA l .done (some (.goto i)) us ps as bd)) fun h => roundEnd n vs k (.c .bf) h
def asgQ (C : Cx) (l : Nat) (us : Array Value) (ps : Array Tmp) (as bd : Code) (r n : Nat) (vs : List Value) (k : KE) : KQ
  | .normal, t, h => itemAt h r = .abs (LoopA l .ready none us ps as bd) ∧ setH h r (.abs (LoopA l .busy none us ps as bd)) fun h => codeX { C with rd := some l } bd (bodQ l us ps as bd r n vs k) t h
  | _, _, _ => False

section
variable {C : Cx} (hT : TabOk C.P C.T)
include hT in
/-- A call of yield: the loop's body is walked, in a round. -/
theorem yieldx_round {l : Nat} {args ts : List XV} {h : List It} {k : KE} (r : Nat) {us : Array Value} {ps : Array Tmp} {as bd : Code} {xs : List XV} (hr : itemAt h r = .abs (LoopA l .ready none us ps as bd)) (hj : itemAt h (r + 1) = .held us.toList xs)
    (hh : ∀ vs, lenK h fun n => snocH h (.held vs ts) fun h1 => setPs ps.toList args xs fun t => codeX { C with rd := some l } as (asgQ C l us ps as bd r n vs k) t h1) : YieldX C l args ts h k := by
  unfold YieldX
  intro w0 F E w vs uargs hrel hargs hp
  replace hh := hh vs
  rw [lenK_eq, snocH_eq] at hh
  have hxr := itemAt_eq _ _ hr (by simp)
  obtain ⟨_, _, fn, d, hrec⟩ := hp.ok r _ hxr
  have hheld : RelTs E xs us.toList := hp.ok _ _ (itemAt_eq _ _ hj (by simp))
  have hle := Env.push_le E 0 undef
  have hp1 : Heap w0 F (E.push 0 undef) (h ++ [.held vs ts]) w := hp.push (Fr.refl _ _) (show RelTs _ ts vs from hrel.mono hle) (fun c hc => by simp [Ow] at hc)
  obtain ⟨hlen, t, hh, ht⟩ := setPs_rel hh (hargs.mono hle) (hheld.mono hle)
  have hfold : (ps.zip uargs.toArray).foldl (fun tmps (x : Tmp × Value) => tmps.setIfInBounds x.1 x.2) us = (ps.toList.zip uargs).foldl (fun tmps (x : Tmp × Value) => tmps.setIfInBounds x.1 x.2) us := by
    rw [← Array.foldl_toList, Array.toList_zip]
  refine ⟨fn, (ps.zip uargs.toArray).foldl (fun tmps (x : Tmp × Value) => tmps.setIfInBounds x.1 x.2) us, as, bd, run_yield hrec (by simpa using hlen.symm), ?_⟩
  refine roundIn_of_wpIn (F := fen C.rd) trivial ?_
  rw [hfold]
  have hfin : ∀ {e : Ex} {t2 : List XV} {h2 : List It} {a2 : Act} {w2 : World}, bodQ l us ps as bd r h.length vs k e t2 h2 → Cfg w0 F t2 h2 a2 w2 →
      roundPost C.P l (fun e w' => ∃ u x ts' h' E', e = .returned u ∧ k x ts' h' ∧ RelV E' x u ∧ RelTs E' ts' vs ∧ Heap w0 F E' h' w') e.conc a2 w2 := by
    intro e t2 h2 a2 w2 hq hc
    obtain ⟨w1, F1, hsub, _, E2, _, hp2⟩ := hc
    replace hp2 := hsub.2 _ _ _ hp2
    have key : ∀ (st' : LoopState) (jump : Option Code) (x : XV), (itemAt h2 r = .abs (LoopA l .busy none us ps as bd) ∧ setH h2 r (.abs (LoopA l st' jump us ps as bd)) fun h => roundEnd h.length vs k x h) → True := fun _ _ _ _ => trivial
    have fin : ∀ (jump : Option Code) (x : XV) (st' : LoopState), st' = (if jump.isNone then .ready else .done) → (∀ E, RelV E x (.bool jump.isNone)) → itemAt h2 r = .abs (LoopA l .busy none us ps as bd) →
        (setH h2 r (.abs (LoopA l st' jump us ps as bd)) fun h' => roundEnd h.length vs k x h') →
        ∃ v w', (Instr.endRound l jump).run C.P w2 = .ok v w' ∧ ∃ u x ts' h' E', Ending.returned v = .returned u ∧ k x ts' h' ∧ RelV E' x u ∧ RelTs E' ts' vs ∧ Heap w0 F E' h' w' := by
      intro jump x st' hst hx hit hend
      obtain ⟨fn', d', hrec', hp3⟩ := hp2.putLoop (st' := st') (pd' := jump) (itemAt_eq _ _ hit (by simp))
      rw [setH_eq] at hend
      unfold roundEnd at hend
      split at hend
      case h_2 => exact hend.elim
      rename_i vs' ts' hitn
      obtain ⟨rfl, hend⟩ := hend
      rw [setH_eq] at hend
      have hheld' := hp3.ok _ _ (itemAt_eq _ _ hitn (by simp))
      exact ⟨_, _, run_endRound jump hrec', .bool jump.isNone, x, ts', _, E2, rfl, hend, hx E2, hheld', by subst hst; exact hp3.drop _⟩
    cases e with
    | normal => obtain ⟨h1, h2⟩ := hq; exact fin none (.c .bt) .ready rfl (fun _ => rfl) h1 h2
    | ret => obtain ⟨h1, h2⟩ := hq; exact fin (some .ret) (.c .bf) .done rfl (fun _ => rfl) h1 h2
    | exit i => obtain ⟨h1, h2⟩ := hq; exact fin (some (.exit i)) (.c .bf) .done rfl (fun _ => rfl) h1 h2
    | goto i => obtain ⟨h1, h2⟩ := hq; exact fin (some (.goto i)) (.c .bf) .done rfl (fun _ => rfl) h1 h2
  refine codeX_sound (C := { C with rd := some l }) hT as hh (Cfg.start (w0 := w0) (F := F) rfl ht hp1) ?_
  intro e t1 h1 a1 w1' hq hc
  cases e with
  | normal =>
    obtain ⟨hit, hq⟩ := hq
    rw [setH_eq] at hq
    obtain ⟨w1, F1, hsub, hd, E2, hr2, hp2⟩ := hc
    obtain ⟨fn', d', hrec', hp3⟩ := hp2.putLoop (st' := .busy) (pd' := none) (itemAt_eq _ _ hit (by simp))
    refine ⟨_, run_beginRound hrec' rfl, ?_⟩
    exact codeX_sound (C := { C with rd := some l }) hT bd hq ⟨w1, F1, hsub, hd, E2, hr2, hp3⟩ fun e t2 h2 a2 w2 hq2 hc2 => hfin hq2 hc2
  | ret => exact hq.elim
  | exit i => exact hq.elim
  | goto i => exact hq.elim

/-! ### the statement -/
def rangeEnd (l : Nat) (us : Array Value) (ps : Array Tmp) (as bd : Code) (r : Nat) (Q : KQ) (h : List It) : Prop :=
  match itemAt h (r + 1) with
  | .held us' ts' => us' = us.toList ∧ ∃ st pd, itemAt h r = .abs (LoopA l st pd us ps as bd) ∧ st ≠ .busy ∧ setH h r .dead fun h => setH h (r + 1) .dead fun h => (match pd with
    | none => Q .normal ts' h
    | some .ret => Q .ret ts' h
    | some (.exit n) => Q (.exit n) ts' h
    | some (.goto n) => Q (.goto n) ts' h
    | _ => False)
  | _ => False
def rangeQ (C : Cx) (fn : Func) (l : Nat) (us : Array Value) (ps : Array Tmp) (as bd : Code) (r : Nat) (Q : KQ) : KQ
  | .normal, tc, h => resX C.T tc h fn.results.toList fun _ => rangeEnd l us ps as bd r Q h
  | .ret, tc, h => resX C.T tc h fn.results.toList fun _ => rangeEnd l us ps as bd r Q h
  | _, _, _ => False

/-- Behind the making of the loop's record: a new origin. -/
theorem Heap.reorg {w1 : Org} {F1 : Nat → Prop} {E : Env} {h : List It} {w w2 : World} {l : Nat} (hp : Heap w1 F1 E h w) (hl : w.heap.size ≤ l) (hsz : w.heap.size ≤ w2.heap.size) (hos : w2.os = w.os) (ht : w2.tape = w.tape) (ho : w2.output = w.output) (hk : ∀ k, k < w.heap.size → w2.heap[k]? = w.heap[k]?) :
    Sub w1 F1 ⟨w2, E.bs⟩ (fun b => (∃ k x, h[k]? = some x ∧ Ow E k x b) ∨ b = l) := by
  have hsz1 := hp.fr.size
  have hF : ∀ b, ((∃ k x, h[k]? = some x ∧ Ow E k x b) ∨ b = l) → w1.w.heap.size ≤ b ∨ F1 b := fun b hb => by
    rcases hb with ⟨k, x, hx, hb⟩ | rfl
    · exact (hp.own k x b hx hb).2.2
    · exact .inl (by omega)
  refine ⟨Nat.le_trans hsz1 hsz, fun E' h' w' hp' => ⟨hp'.bs, hp.le.trans hp'.le, fun b hb => ?_, hp'.n, hp'.ok, fun k x b hx hb => ?_, hp'.sep, ?_⟩⟩
  · rcases hp'.nb b hb with h1 | h1 | h1
    · exact hp.nb b h1
    · exact .inr (.inl (by have : w2.heap.size ≤ b := h1; omega))
    · exact .inr (hF b h1)
  · have h1 := hp'.own k x b hx hb
    refine ⟨h1.1, h1.2.1, ?_⟩
    rcases h1.2.2 with h2 | h2
    · exact .inl (by have : w2.heap.size ≤ b := h2; omega)
    · exact hF b h2
  · refine ⟨hp'.fr.os.trans (hos.trans hp.fr.os), hp'.fr.tape.trans (ht.trans hp.fr.tape), hp'.fr.output.trans (ho.trans hp.fr.output), Nat.le_trans (Nat.le_trans hsz1 hsz) hp'.fr.size, fun k hk' hF' => ?_⟩
    have hkw : k < w.heap.size := by omega
    have h1 := hp'.fr.block k (Nat.lt_of_lt_of_le hkw hsz) (fun hb => by
      rcases hF k hb with h2 | h2
      · omega
      · exact hF' h2)
    exact h1.trans ((hk k hkw).trans (hp.fr.block k hk' hF'))

include hT in
/-- A loop over a function that is a closure: its code is walked in place. -/
theorem rangex_in (hrd : C.rd = none) {f : Operand} {ps : Array Tmp} {as bd : Code} {Q : KQ} {ts : List XV} {h : List It} {g n : Nat} {caps : Nat → XC} {fn : Func} (hf : opv ts f = .c (.fn g n caps)) (hg : C.P.funcs[g]? = some fn) (hb : fn.body.isSome = true) (hn : (fn.name == "runtime.NumGoroutine") = false)
    (hh : ∀ (l : Nat) (us : Array Value), lenK h fun r => snocH h (.abs (LoopA l .ready none us ps as bd)) fun h1 => snocH h1 (.held us.toList ts) fun h2 =>
      forceTs (padX fn.ntmps (.c (.v (.func (.yield l) #[] #[])) :: capL n 0 caps)) fun tc => codeX C (bodyOf fn) (rangeQ C fn l us ps as bd r Q) tc h2) : RangeX C f ps as bd Q ts h := by
  unfold RangeX
  intro w0 F Q' a w hQ hc
  obtain ⟨w1, F1, hsub, hd, E, hr, hp⟩ := hc
  obtain ⟨c, hcb⟩ := Option.isSome_iff_exists.1 hb
  have hfv := opv_rel hr f
  rw [hf] at hfv
  obtain ⟨cv, hv, hcn, hcc⟩ := hfv
  rw [hrd]
  show (Code.rangeFunc f ps as bd).wpIn (fen none) 0 C.P Q' a w
  refine wpIn_rangeFunc fun fn0 _ => ?_
  let dw : World := w.alloc (.deferred (some []))
  let w2 : World := dw.alloc (.loop { state := .ready, pending := none, fn := fn0, tmps := a.tmps, params := ps, assign := as, body := bd, defers := w.heap.size })
  let l := w.heap.size + 1
  have hsz2 : w2.heap.size = w.heap.size + 2 := by simp [w2, dw]
  have hk2 : ∀ k, k < w.heap.size → w2.heap[k]? = w.heap[k]? := fun k hk => by
    have h1 := Below.heap_alloc dw (.loop { state := .ready, pending := none, fn := fn0, tmps := a.tmps, params := ps, assign := as, body := bd, defers := w.heap.size }) k (by simp [dw]; omega)
    exact h1.trans (Below.heap_alloc w (.deferred (some [])) k hk)
  have hdef : w2.heap[w.heap.size]? = some (.deferred (some [])) := by
    have h1 := Below.heap_alloc dw (.loop { state := .ready, pending := none, fn := fn0, tmps := a.tmps, params := ps, assign := as, body := bd, defers := w.heap.size }) w.heap.size (by simp [dw])
    exact h1.trans (World.alloc_heap_new w _)
  have hrec : w2.heap[l]? = some (.loop { state := .ready, pending := none, fn := fn0, tmps := a.tmps, params := ps, assign := as, body := bd, defers := w.heap.size }) := by
    have := World.alloc_heap_new dw (.loop { state := .ready, pending := none, fn := fn0, tmps := a.tmps, params := ps, assign := as, body := bd, defers := w.heap.size })
    have e : dw.heap.size = l := by simp [dw, l]
    rw [e] at this; exact this
  let F2 : Nat → Prop := fun b => (∃ k x, h[k]? = some x ∧ Ow E k x b) ∨ b = l
  have hsub2 : Sub w1 F1 ⟨w2, E.bs⟩ F2 := hp.reorg (by omega) (by omega) rfl rfl rfl hk2
  have hsz0 : w0.w.heap.size ≤ w.heap.size := Nat.le_trans hsub.1 hp.fr.size
  have hmk : Marks w0 ⟨w2, E.bs⟩ F2 (markOf w.heap.size :: a.defers) := by
    obtain ⟨bl, hnd, hds, hbl⟩ := hd
    refine ⟨w.heap.size :: bl, List.nodup_cons.2 ⟨fun hm => ?_, hnd⟩, by rw [hds]; rfl, fun b hb => ?_⟩
    · have := (hbl _ hm).2.1
      have := hp.fr.size
      omega
    · rcases List.mem_cons.1 hb with rfl | hb
      · refine ⟨hsz0, by show _ < w2.heap.size; omega, fun hF => ?_, fun hB => ?_, hdef⟩
        · rcases hF with ⟨k, x, hx, hb'⟩ | e
          · exact Nat.lt_irrefl _ (hp.own k x _ hx hb').1
          · omega
        · exact Nat.lt_irrefl _ (hp.bs _ hB).1
      · obtain ⟨g0, g1, g2, g3, g4⟩ := hbl b hb
        have hbw : b < w.heap.size := Nat.lt_of_lt_of_le g1 hp.fr.size
        refine ⟨g0, by show _ < w2.heap.size; omega, fun hF => ?_, fun hB => ?_, (hk2 b hbw).trans ((hp.fr.block b g1 g2).trans g4)⟩
        · rcases hF with ⟨k, x, hx, hb'⟩ | e
          · rcases (hp.own k x _ hx hb').2.2 with h1 | h1
            · omega
            · exact g2 h1
          · omega
        · rcases hp.nb b hB with h1 | h1 | h1
          · exact g3 h1
          · omega
          · exact g2 h1
  -- the callee's memory
  let S : Nat → Prop := fun b => b = l
  let E1 := E.push 0 (.int .i64 0) S
  let E2 := E1.push 0 undef
  have hle1 : EnvLe E E1 := Env.push_le E 0 _ S
  have hle2 : EnvLe E1 E2 := Env.push_le E1 0 undef
  have hp0 : Heap ⟨w2, E.bs⟩ F2 E h w2 := by
    refine ⟨fun k hB => ⟨by have := (hp.bs k hB).1; show k < w2.heap.size; omega, (hk2 k (hp.bs k hB).1).trans (hp.bs k hB).2⟩, BsLe.refl _, fun _ h => .inl h, hp.n, fun k x hx => (hp.ok k x hx).of_block fun b hb => hk2 b (hp.own k x b hx hb).1, fun k x b hx hb => ?_, hp.sep, Fr.refl _ _⟩
    have h1 := hp.own k x b hx hb
    exact ⟨by have := h1.1; show b < w2.heap.size; omega, h1.2.1, .inr (.inl ⟨k, x, hx, hb⟩)⟩
  have hextn : E1.ext E.n = S := by simp [E1, Env.push]
  have hp1 : Heap ⟨w2, E.bs⟩ F2 E1 (h ++ [.abs (LoopA l .ready none a.tmps ps as bd)]) w2 := by
    have hlt : ∀ {k : Nat} {x : It}, h[k]? = some x → k < E.n := fun hx => hp.blkLt hx
    have at_ : ∀ {k : Nat} {y : It}, (h ++ [.abs (LoopA l .ready none a.tmps ps as bd)])[k]? = some y → (k < E.n ∧ h[k]? = some y) ∨ (k = E.n ∧ y = .abs (LoopA l .ready none a.tmps ps as bd)) := fun {k y} hy => by
      rcases at_append hy with ⟨h1, h2⟩ | ⟨h1, h2⟩
      · exact .inl ⟨by rw [hp.n]; exact h1, h2⟩
      · have h3 : k - h.length < 1 := by simpa using (List.getElem?_eq_some_iff.1 h2).1
        rw [show k - h.length = 0 by omega] at h2
        exact .inr ⟨by rw [hp.n]; omega, by simpa using h2.symm⟩
    refine ⟨hp0.bs, hp0.le, hp0.nb, by simp [E1, Env.push, hp.n], fun k y hy => ?_, fun k y b hy hb => ?_, fun j k x y b hx hy hb hb' => ?_, hp0.fr⟩
    · rcases at_ hy with ⟨h1, h2⟩ | ⟨rfl, rfl⟩
      · exact (hp0.ok k y h2).mono hle1 h1
      · show (LoopA l .ready none a.tmps ps as bd).is _ (E1.sl E.n) (E1.ext E.n) w2
        rw [hextn]
        exact ⟨by simp [E1, Env.push], fun b => Iff.rfl, fn0, w.heap.size, hrec⟩
    · rcases at_ hy with ⟨h1, h2⟩ | ⟨rfl, rfl⟩
      · rw [Ow_mono hle1 h1] at hb; exact hp0.own k y b h2 hb
      · have hb : E1.ext E.n b := hb
        rw [hextn] at hb
        have hb : b = l := hb
        subst hb
        exact ⟨by show l < w2.heap.size; omega, fun hB => by have := (hp.bs _ hB).1; omega, .inr (.inr rfl)⟩
    · rcases at_ hx with ⟨h1, h2⟩ | ⟨e1, e2⟩ <;> rcases at_ hy with ⟨h3, h4⟩ | ⟨e3, e4⟩
      · rw [Ow_mono hle1 h1] at hb
        rw [Ow_mono hle1 h3] at hb'
        exact hp0.sep j k x y b h2 h4 hb hb'
      · rw [Ow_mono hle1 h1] at hb
        subst e3; subst e4
        have hb' : E1.ext E.n b := hb'
        rw [hextn] at hb'
        have hb' : b = l := hb'
        have := (hp.own j x b h2 hb).1; omega
      · rw [Ow_mono hle1 h3] at hb'
        subst e1; subst e2
        have hb : E1.ext E.n b := hb
        rw [hextn] at hb
        have hb : b = l := hb
        have := (hp.own k y b h4 hb').1; omega
      · rw [e1, e3]
  have hp2 : Heap ⟨w2, E.bs⟩ F2 E2 ((h ++ [.abs (LoopA l .ready none a.tmps ps as bd)]) ++ [.held a.tmps.toList ts]) w2 := hp1.push (Fr.refl _ _) (show RelTs _ ts a.tmps.toList from (hr.mono hle1).mono hle2) (fun c hc => by simp [Ow] at hc)
  replace hh := hh l a.tmps
  rw [lenK_eq, snocH_eq, snocH_eq, forceTs_eq, bodyOf, hcb] at hh
  have hm : (Array.map a.eval #[.const (.func (.yield l) #[] #[])] : Array Value) = #[.func (.yield l) #[] #[]] := by simp [Act.eval]
  have hcall : (invoke (Target.fn (.func g) cv) #[.func (.yield l) #[] #[]]).run C.P w2 = .ok (.enter g (#[.func (.yield l) #[] #[]] ++ cv)) w2 := by
    have hne : ¬ fn.name = "runtime.NumGoroutine" := by simpa using hn
    simp [invoke, callFunc, hg, hne, hcb]
  refine ⟨l, [markOf w.heap.size], w2, { target := .fn (.func g) cv, args := #[.func (.yield l) #[] #[]] }, w2, g, #[.func (.yield l) #[] #[]] ++ cv, w2, run_enterLoop_outer fn0 a.tmps ps as bd, ?_, fun _ _ => trivial, hcall, fun h => by simp [fen] at h, ?_⟩
  · have he : a.eval (.const (.func (.yield l) #[] #[])) = .func (.yield l) #[] #[] := rfl
    simp [resolve, hv, Deferred.ofValue, he]
  have hlen : E2.n = h.length + 2 := by simp [E2, E1, Env.push, hp.n]
  have hargs : RelTs E2 (.c (.v (.func (.yield l) #[] #[])) :: capL n 0 caps) (#[Value.func (.yield l) #[] #[]] ++ cv).toList := by
    have h1 := capL_rel (E := E) (vs := cv) n 0 (caps := caps) (by omega) (fun j hj => hcc j (by omega))
    have h2 := (h1.mono hle1).mono hle2
    simp only [List.drop_zero] at h2
    rw [Array.toList_append]
    exact ⟨⟨rfl, rfl⟩, h2⟩
  refine callsIn_of_wp_marks (n := 0 - 1) hg hcb trivial (codeX_sound (C := { C with rd := none }) hT c (by have := hh; rw [show ({ C with rd := none } : Cx) = C by cases C; simp at hrd; subst hrd; rfl]; exact hh) (Cfg.start (w0 := ⟨w2, E.bs⟩) (F := F2) (E := E2) rfl ?_ hp2) ?_)
  · have hl := hargs.len
    have e : (#[Value.func (.yield l) #[] #[]] ++ cv).size = (.c (.v (.func (.yield l) #[] #[])) :: capL n 0 caps : List XV).length := by rw [hl, Array.length_toList]
    show RelTs E2 ((.c (.v (.func (.yield l) #[] #[])) :: capL n 0 caps) ++ List.replicate _ (.t [])) ((#[Value.func (.yield l) #[] #[]] ++ cv) ++ Array.replicate _ undef).toList
    rw [Array.toList_append (xs := #[Value.func (.yield l) #[] #[]] ++ cv), Array.toList_replicate, e]
    exact hargs.append (rep_undef _)
  · intro e tc h' a' w' hq hcfg
    obtain ⟨w1c, F1c, hsubc, hdc, E', hr', hp'⟩ := hcfg
    have key : (resX C.T tc h' fn.results.toList fun _ => rangeEnd l a.tmps ps as bd h.length Q h') → LeavesInM Fence.wide (0 - 1) C.P fn a'.tmps (rangePost (fen none) 0 C.P l Q' { a with defers := [markOf w.heap.size] ++ a.defers }) a'.defers .returning w' := fun hq =>
      Heap.fnf hsubc hdc hp' fun w3 hp3 => by
        obtain ⟨x, u, hk, hx, hrun⟩ := resX_sound hT hq hr' hp3
        unfold rangeEnd at hk
        split at hk
        case h_2 => exact hk.elim
        rename_i us' ts' hit2
        obtain ⟨rfl, st, pd, hit1, hst, hk⟩ := hk
        rw [setH_eq, setH_eq] at hk
        have hx1 := itemAt_eq _ _ hit1 (by simp)
        obtain ⟨_, hS, fn', d', hrec'⟩ := hp3.ok _ _ hx1
        have hheld : RelTs E' ts' a.tmps.toList := hp3.ok _ _ (itemAt_eq _ _ hit2 (by simp))
        have hol : Ow E' h.length (.abs (LoopA l st pd a.tmps ps as bd)) l := (hS l).2 rfl
        have hnB : ¬ E'.bs.B l := (hp3.own _ _ l hx1 hol).2.1
        have hp4 := (hp3.drop h.length).drop (h.length + 1)
        have hgone : ∀ (k : Nat) (y : It), ((h'.set h.length .dead).set (h.length + 1) .dead)[k]? = some y → ¬ Ow E' k y l := fun k y hy hb => by
          rcases at_set hy with ⟨_, rfl, _⟩ | ⟨_, hy⟩
          · exact hb
          · rcases at_set hy with ⟨_, rfl, _⟩ | ⟨hne, hy⟩
            · exact hb
            · exact hne (hp3.sep _ _ _ _ l hy hx1 hb hol)
        have hend := run_endLoop (P := C.P) hrec' (by simpa using hst)
        have hp5 := hp4.putGone (.loop { state := .exhausted, pending := pd, fn := fn', tmps := a.tmps, params := ps, assign := as, body := bd, defers := d' }) (.inr (.inr rfl)) hnB hgone
        have hcfg : Cfg w0 F ts' ((h'.set h.length .dead).set (h.length + 1) .dead) { a with defers := [markOf w.heap.size] ++ a.defers } (w3.putObj l (.loop { state := .exhausted, pending := pd, fn := fn', tmps := a.tmps, params := ps, assign := as, body := bd, defers := d' })) :=
          ⟨⟨w2, E.bs⟩, F2, hsub.trans hsub2, hmk, E', hheld, hp5⟩
        refine ⟨u, hrun, pd, _, hend, ?_⟩
        cases pd with
        | none => exact hQ .normal _ _ _ _ hk hcfg
        | some c =>
          cases c with
          | ret => exact wpIn_ret (hQ .ret _ _ _ _ hk hcfg)
          | exit i => exact wpIn_exit (hQ (.exit i) _ _ _ _ hk hcfg)
          | goto i => exact wpIn_goto (hQ (.goto i) _ _ _ _ hk hcfg)
          | _ => exact hk.elim
    cases e with
    | normal => exact key hq
    | ret => exact key hq
    | exit i => exact hq.elim
    | goto i => exact hq.elim
end
end Go.Eng
