/- The engine, part Mo: what is drawn is never given back. Nothing of any program is proved here. -/
import Derived.Calls
import Derived.Laws.World
namespace Go.Eng
open Go
set_option linter.unusedVariables false
set_option linter.unusedSimpArgs false

def upR {α : Type} (n : Nat) : Result α → Prop
  | .ok _ w => n ≤ w.drawn
  | .halt _ w => n ≤ w.drawn

theorem ask_up {α : Type} : ∀ (a : Ask α) (w : World), w.drawn ≤ (w.ask a).2.drawn
  | .done a, w => by simp [World.ask]
  | .ask what range k, w => by
    unfold World.ask
    simp only
    split
    · exact ask_up (k 0) w
    · exact Nat.le_trans (Nat.le_succ _) (ask_up (k _) { w with drawn := w.drawn + 1 })

theorem sys_up (w : World) (c : Sys) : w.drawn ≤ (w.sys c).2.drawn := by
  have h := ask_up (Kernel.perform c w.os) w
  unfold World.sys
  split
  · exact Nat.le_refl _
  · rename_i e; rw [e] at h; exact h

theorem setCell_up (w : World) (a : Addr) (v : Value) : (w.setCell a v).drawn = w.drawn := rfl
theorem freeze_up (w : World) (a : Addr) (n : Nat) : (w.freeze a n).drawn = w.drawn := by
  unfold World.freeze; split <;> rfl
theorem viewStore_up {p : Program} {w : World} {at_ : Addr} {u : TypeId} {k : Addr} {v : Value} {atomic : Bool} {r : World × List Addr} (h : w.viewStore p at_ u k v atomic = .ok r) : r.1.drawn = w.drawn := by
  unfold World.viewStore at h
  simp only [bind, Except.bind, pure, Except.pure, throw, throwThe, MonadExceptOf.throw] at h
  repeat' (split at h)
  all_goals first | (cases h; done) | (cases h; rfl)
theorem farStore_up {p : Program} {w : World} {a : Addr} {v : Value} {atomic : Bool} {r : World × List Addr} (h : w.farStore p a v atomic = .ok r) : r.1.drawn = w.drawn := by
  unfold World.farStore at h
  split at h
  · split at h
    · rename_i e; cases h; exact viewStore_up e
    · cases h
  · cases h

theorem run_up {α : Type} (p : Program) : ∀ (s : Sem α) (n : Nat) (w : World), n ≤ w.drawn → upR n (s.run p w) := by
  intro s
  induction s with
  | pure a => intro n w h; exact h
  | load m a k ih =>
    intro n w h
    unfold Sem.run
    split
    · exact ih _ n w h
    · split
      · exact ih _ n w h
      · exact h
  | store m a v k ih =>
    intro n w h
    have key : upR n (match w.cell? a with
      | some _ => if w.frozen? a then Result.halt (.unsupported (.unsafePointer "a write to bytes that a string shares")) w else k.run p (w.setCell a v)
      | none => match w.farStore p a v (m == .atomic) with
        | .ok (w, _) => k.run p w
        | .error h => .halt h w) := by
      split
      · split
        · exact h
        · exact ih n _ h
      · split
        · rename_i e; have := farStore_up e; exact ih n _ (by rw [this]; exact h)
        · exact h
    cases v
    case agg => exact h
    case tuple => exact h
    all_goals exact key
  | new o k ih => intro n w h; exact ih _ n _ h
  | shape r k ih => intro n w h; exact ih _ n _ h
  | freeze a m k ih => intro n w h; exact ih n _ (by rw [freeze_up]; exact h)
  | frozen a k ih => intro n w h; exact ih _ n _ h
  | getObj r k ih =>
    intro n w h
    unfold Sem.run
    split
    · exact h
    · exact ih _ n w h
    · exact h
  | setObj r o k ih =>
    intro n w h
    unfold Sem.run
    split
    · exact h
    · exact ih n _ h
    · exact h
  | choose q k ih =>
    intro n w h
    unfold Sem.run
    split
    · exact ih _ n w h
    · exact ih _ n _ (Nat.le_succ_of_le h)
  | sys c k ih => intro n w h; exact ih _ n _ (Nat.le_trans h (sys_up w c))
  | program k ih => intro n w h; exact ih _ n _ h
  | mark m k ih => intro n w h; exact ih n _ h
  | halt x => intro n w h; exact h

theorem runT_up {α : Type} (p : Program) : ∀ (s : Sem α) (n : Nat) (w : World) (es : Array Event), n ≤ w.drawn → upR n (s.runT p w es).1 := by
  intro s
  induction s with
  | pure a => intro n w es h; exact h
  | load m a k ih =>
    intro n w es h
    unfold Sem.runT
    split
    · exact ih _ n w _ h
    · split
      · exact ih _ n w _ h
      · exact h
  | store m a v k ih =>
    intro n w es h
    have key : upR n (show Result α × Array Event from match w.cell? a with
      | some _ => if w.frozen? a then (Result.halt (.unsupported (.unsafePointer "a write to bytes that a string shares")) w, es) else k.runT p (w.setCell a v) (es.push (Event.mk (.cell a) true (m == Mode.atomic)))
      | none => match w.farStore p a v (m == Mode.atomic) with
        | .ok (w, touched) => k.runT p w (es ++ touched.toArray.map (fun y => Event.mk (.cell y) true (m == Mode.atomic)))
        | .error h => (.halt h w, es)).1 := by
      split
      · split
        · exact h
        · exact ih n _ _ h
      · split
        · rename_i e; have := farStore_up e; exact ih n _ _ (by rw [this]; exact h)
        · exact h
    cases v
    case agg => exact h
    case tuple => exact h
    all_goals exact key
  | new o k ih => intro n w es h; exact ih _ n _ _ h
  | shape r k ih => intro n w es h; exact ih _ n _ _ h
  | freeze a m k ih => intro n w es h; exact ih n _ _ (by rw [freeze_up]; exact h)
  | frozen a k ih => intro n w es h; exact ih _ n _ _ h
  | getObj r k ih =>
    intro n w es h
    unfold Sem.runT
    split
    · exact h
    · exact ih _ n w _ h
    · exact h
  | setObj r o k ih =>
    intro n w es h
    unfold Sem.runT
    split
    · exact h
    · exact ih n _ _ h
    · exact h
  | choose q k ih =>
    intro n w es h
    unfold Sem.runT
    split
    · exact ih _ n w _ h
    · exact ih _ n _ _ (Nat.le_succ_of_le h)
  | sys c k ih => intro n w es h; exact ih _ n _ _ (Nat.le_trans h (sys_up w c))
  | program k ih => intro n w es h; exact ih _ n _ _ h
  | mark m k ih => intro n w es h; exact ih n _ _ h
  | halt x => intro n w es h; exact h

theorem run_ok_up {α : Type} {p : Program} {s : Sem α} {n : Nat} {w w' : World} {a : α} (h : n ≤ w.drawn) (e : s.run p w = .ok a w') : n ≤ w'.drawn := by
  have := run_up p s n w h
  rw [e] at this
  exact this
theorem run_halt_up {α : Type} {p : Program} {s : Sem α} {n : Nat} {w w' : World} {a : Halt} (h : n ≤ w.drawn) (e : s.run p w = .halt a w') : n ≤ w'.drawn := by
  have := run_up p s n w h
  rw [e] at this
  exact this
theorem runT_ok_up {α : Type} {p : Program} {s : Sem α} {n : Nat} {w w' : World} {es es' : Array Event} {a : α} (h : n ≤ w.drawn) (e : s.runT p w es = (.ok a w', es')) : n ≤ w'.drawn := by
  have := runT_up p s n w es h
  rw [e] at this
  exact this
theorem runT_halt_up {α : Type} {p : Program} {s : Sem α} {n : Nat} {w w' : World} {es es' : Array Event} {a : Halt} (h : n ≤ w.drawn) (e : s.runT p w es = (.halt a w', es')) : n ≤ w'.drawn := by
  have := runT_up p s n w es h
  rw [e] at this
  exact this

theorem runT_fst_up {α : Type} {p : Program} {s : Sem α} {n : Nat} {w w' : World} {es : Array Event} {a : α} (h : n ≤ w.drawn) (e : (s.runT p w es).1 = .ok a w') : n ≤ w'.drawn := by
  have := runT_up p s n w es h
  rw [e] at this
  exact this
theorem runT_fsth_up {α : Type} {p : Program} {s : Sem α} {n : Nat} {w w' : World} {es : Array Event} {a : Halt} (h : n ≤ w.drawn) (e : (s.runT p w es).1 = .halt a w') : n ≤ w'.drawn := by
  have := runT_up p s n w es h
  rw [e] at this
  exact this

def upG (n : Nat) : GStep → Prop
  | .go _ w _ => n ≤ w.drawn
  | .comm _ _ _ _ w _ => n ≤ w.drawn
  | .spawn _ _ w _ => n ≤ w.drawn
  | .count _ w _ => n ≤ w.drawn
  | .timer _ _ w _ => n ≤ w.drawn
  | .alone _ _ w _ => n ≤ w.drawn
  | .newcoro _ _ _ w _ => n ≤ w.drawn
  | .coroswitch _ _ _ w _ => n ≤ w.drawn
  | .collect _ w _ => n ≤ w.drawn
  | .watch _ w _ => n ≤ w.drawn
  | .ended _ _ _ => True
theorem ite_up {n : Nat} {c : Prop} [Decidable c] {a b : GStep} (h1 : upG n a) (h2 : upG n b) : upG n (if c then a else b) := by
  split
  · exact h1
  · exact h2
theorem after_up {n : Nat} {es : Array Event} : ∀ {g : GStep}, upG n g → upG n (GStep.after es g)
  | .go .., h | .comm .., h | .spawn .., h | .count .., h | .timer .., h | .alone .., h | .newcoro .., h | .coroswitch .., h | .collect .., h | .watch .., h | .ended .., h => h

theorem endWith_up {n : Nat} {w : World} {fd : Nat} {text : ByteArray} {o : Outcome} : upG n (endWith w fd text o) := by
  unfold endWith
  simp only
  repeat' split
  all_goals trivial
theorem endThrow_up {n : Nat} {fr : Frame} {m : String} {w : World} (h : n ≤ w.drawn) : upG n (endThrow fr m w) := h
theorem endPrinting_up {n : Nat} {p : Program} {fr : Frame} {v : Value} {w : World} (h : n ≤ w.drawn) : upG n (endPrinting p fr v w) := by
  unfold endPrinting
  simp only
  split
  · exact h
  · trivial
theorem endFatal_up {n : Nat} {p : Program} {fr : Frame} {cs : List Frame} {d : Option Dying} {m : String} {w : World} (h : n ≤ w.drawn) : upG n (endFatal p fr cs d m w) := by
  unfold endFatal
  simp only
  split
  · rename_i e
    exact run_ok_up h e
  · trivial
  · trivial
theorem writeOn_up {n : Nat} {p : Program} {fr : Frame} {d : Dying} {f : Fatal} {w : World} (h : n ≤ w.drawn) : upG n (writeOn p fr d f w) := by
  unfold writeOn
  simp only
  split
  · trivial
  · split
    · rename_i e
      exact runT_ok_up h e
    · rename_i e
      exact runT_halt_up h e
    · trivial
    · trivial
theorem die_up {n : Nat} {p : Program} {fr : Frame} {d : Dying} {w : World} (h : n ≤ w.drawn) : upG n (die p fr d w) := by
  unfold die
  split
  · exact writeOn_up h
  · split
    · split
      · exact h
      · exact endWith_up
    · simp only
      split
      · exact h
      · split
        · rename_i e
          exact run_ok_up h e
        · trivial
      · apply after_up
        split
        all_goals first
          | trivial
          | (rename_i e; exact runT_fst_up h e)
          | (rename_i e; exact endPrinting_up (runT_fsth_up h e))
      · trivial

theorem doReturn_up {n : Nat} {p : Program} {main : Bool} {fr : Frame} {cs : List Frame} {d : Option Dying} {v : Value} {w : World} (h : n ≤ w.drawn) : upG n (doReturn p main fr cs d v w) := by
  unfold doReturn
  repeat' split
  all_goals first | exact h | trivial
theorem callDeferred_up {n : Nat} {p : Program} {fr : Frame} {cs : List Frame} {dy : Option Dying} {d : Deferred} {w : World} (h : n ≤ w.drawn) : upG n (callDeferred p fr cs dy d w) := by
  unfold callDeferred
  refine ite_up trivial ?_
  simp only
  apply after_up
  split
  all_goals try (rename_i e; first | exact runT_fst_up h e | exact runT_fsth_up h e | exact endFatal_up (runT_fsth_up h e) | trivial)
  all_goals
    rename_i e
    split <;> exact runT_fst_up h e
theorem unwind_up {n : Nat} {p : Program} {main : Bool} {fr : Frame} {cs : List Frame} {dy : Option Dying} {w : World} (h : n ≤ w.drawn) : upG n (unwind p main fr cs dy w) := by
  unfold unwind
  split
  · rename_i block _ ds _
    have hr := runT_up p (Instr.takeDeferred block) n w #[] h
    simp only
    apply after_up
    generalize ((Instr.takeDeferred block).runT p w #[]).1 = r at hr
    cases r with
    | ok x w' => exact hr
    | halt x w' => trivial
  · exact callDeferred_up h
  · split
    · trivial
    · split
      · trivial
      · split
        · exact h
        · split
          · split
            · exact h
            · split
              · rename_i e
                exact run_ok_up h e
              · trivial
              · trivial
          · split
            · exact endPrinting_up h
            · trivial
    · split
      · exact doReturn_up h
      · rename_i fn _
        have hr := runT_up p (results fn fr.tmps) n w #[] h
        simp only
        apply after_up
        generalize ((results fn fr.tmps).runT p w #[]).1 = r at hr
        cases r with
        | ok x w' => exact doReturn_up hr
        | halt x w' => cases x <;> trivial
theorem early_up {n : Nat} {p : Program} {fr : Frame} {cs : List Frame} {dy : Option Dying} {g : Nat} {w : World} (h : n ≤ w.drawn) : upG n (early p fr cs dy g w) := by
  unfold early
  have notYet : ∀ w : World, n ≤ w.drawn → upG n (match w.heap[g]? with
    | some (.pending c elem) => GStep.go { frame := fr, callers := cs, status := .running, dying := dy } { w with heap := w.heap.setIfInBounds g (.cells c elem) }
    | _ => .ended (.stuck "early: the variable does not wait" (fr.pos p)) w) := by
    intro w h
    split
    · exact h
    · trivial
  simp only
  split
  · exact notYet w h
  · split
    · trivial
    · split
      · exact notYet w h
      · split
        · exact notYet w h
        · split
          · trivial
          · exact h
          · trivial
          · exact notYet w h
          · split
            · exact h
            · split
              · exact notYet w h
              · rename_i f _ _ _ _ _ _ _ _
                have hr := run_up p (choose (.early g)) n w h
                generalize (choose (.early g)).run p w = r at hr
                cases r with
                | ok x w' =>
                  match x with
                  | 0 => exact notYet w' hr
                  | _ + 1 => exact hr
                | halt x w' => trivial
theorem apply_up {n : Nat} {p : Program} {listen : Bool} {fr : Frame} {cs : List Frame} {dy : Option Dying} {s : Sem Next} {w : World} (h : n ≤ w.drawn) : upG n (stepG.apply p listen fr cs dy s w) := by
  unfold stepG.apply
  have hr : upR n (if listen then s.runT p w #[] else (s.run p w, #[])).1 := by
    cases listen
    · exact run_up p s n w h
    · exact runT_up p s n w #[] h
  simp only
  apply after_up
  generalize hq : (if listen = true then s.runT p w #[] else (s.run p w, #[])) = q at hr
  split
  all_goals
    rename_i e
    rw [e] at hr
    try (first | exact hr | trivial | exact endFatal_up hr | exact early_up hr)
  all_goals repeat' split
  all_goals first | exact hr | trivial
theorem oper_up {n : Nat} {p : Program} {listen : Bool} {fr : Frame} {cs : List Frame} {dy : Option Dying} {w : World} (h : n ≤ w.drawn) : upG n (stepG.oper p listen fr cs dy w) := by
  unfold stepG.oper
  split
  · trivial
  · split
    · exact apply_up h
    · exact apply_up h
theorem leave_up {n : Nat} {p : Program} {main : Bool} {fr : Frame} {cs : List Frame} {dy : Option Dying} {w : World} {jump : Option Code} {why : Outcome} {c : Prop} [Decidable c] {g : Goroutine} (h : n ≤ w.drawn) : upG n (match fr.roundOf with
      | none => if c then GStep.go g w else .ended why w
      | some l => GStep.after (seen p fr.fn ((Instr.endRound l jump).runT p w #[]).2) (match ((Instr.endRound l jump).runT p w #[]).1 with
        | .ok v w => doReturn p main fr cs dy v w
        | .halt _ w => .ended (.stuck "range over a function: no such loop" (fr.pos p)) w)) := by
  split
  · exact ite_up h trivial
  · apply after_up
    split
    · rename_i e; exact doReturn_up (runT_fst_up h e)
    · trivial
theorem elim_up {n : Nat} {α : Type} {o : Option α} {a : GStep} {f : α → GStep} (h1 : upG n a) (h2 : ∀ x, upG n (f x)) : upG n (o.elim a f) := by
  cases o
  · exact h1
  · exact h2 _
theorem exec_up {n : Nat} {p : Program} {main listen : Bool} {fr : Frame} {cs : List Frame} {dy : Option Dying} {w : World} (h : n ≤ w.drawn) : upG n (stepG.exec p main listen fr cs dy w) := by
  unfold stepG.exec
  simp only
  split
  case h_1 => exact leave_up h
  case h_2 => exact leave_up h
  case h_13 => exact elim_up (leave_up h) fun _ => h
  case h_14 => exact elim_up (leave_up h) fun _ => h
  all_goals first
    | exact h
    | trivial
    | exact apply_up h
    | exact elim_up trivial fun _ => apply_up h
    | (split <;> first | exact h | trivial; done)
    | (apply after_up; split <;> rename_i e <;> first | exact runT_fst_up h e | exact runT_fsth_up h e | exact apply_up (runT_fst_up h e) | trivial)
    | (refine ite_up h ?_; split <;> first | trivial | (rename_i e; have := run_ok_up h e; exact this))
    | exact ite_up (oper_up h) h
theorem stepG_up {n : Nat} {p : Program} {main listen : Bool} {g : Goroutine} {w : World} (h : n ≤ w.drawn) : upG n (stepG p main g w listen) := by
  unfold stepG
  split
  split
  · exact die_up h
  · exact exec_up h
  · exact unwind_up h

/-! ### the machine -/
def upS (n : Nat) : Stepped → Prop
  | .next m => n ≤ m.world.drawn
  | .ended _ _ => True
theorem sites_up {n : Nat} {c : Prop} [Decidable c] {a b : Stepped × Array MemOp} (h1 : upS n a.1) (h2 : upS n b.1) : upS n (if c then a else b).1 := by
  split
  · exact h1
  · exact h2
theorem site_up {n : Nat} {c : Prop} [Decidable c] {a b : Stepped} (h1 : upS n a) (h2 : upS n b) : upS n (if c then a else b) := by
  split
  · exact h1
  · exact h2
theorem look_up {n : Nat} {p : Program} {gs : Array Goroutine} {rest : Rest} {w : World} (h : n ≤ w.drawn) : upS n (look p gs rest w) := by
  unfold look
  split
  · simp only
    refine site_up trivial ?_
    split
    · trivial
    · split
      · rename_i e
        have := run_ok_up h e
        exact this
      · trivial
      · trivial
  · trivial
theorem communicate_up {n : Nat} {p : Program} {rest : Rest} {gs : Array Goroutine} {i : Nat} {g : Goroutine} {cases : Array CommCase} {blocking : Bool} {shape : CommShape} {w : World} (h : n ≤ w.drawn) : upS n (communicate p rest gs i g cases blocking shape w).1 := by
  unfold communicate
  simp only
  refine sites_up trivial (sites_up ?_ ?_)
  · refine sites_up ?_ h
    split
    · rename_i w' e
      unfold waitingAt at e
      split at e
      · split at e
        · cases e; exact h
        · cases e
      · cases e; exact h
    · trivial
  · split
    · trivial
    · rename_i e
      have hw := run_ok_up h e
      split
      · split
        · rename_i e2; exact run_halt_up hw e2
        · trivial
      all_goals first
        | exact hw
        | trivial
        | skip
      all_goals
        split
        · exact hw
        · split
          · rename_i e2
            have := run_ok_up hw e2
            exact this
          · trivial
theorem retime_up {m : Machine} {k : Nat} {t : Timer} {when_ period : Nat} : (retime m k t when_ period).2.world.drawn = m.world.drawn := by
  unfold retime
  split
  rename_i e
  split at e
  · unfold drain at e
    split at e
    · cases e; rfl
    · cases e; rfl
  · cases e; rfl
theorem withPoller_up {m m' : Machine} {var : Addr} (h : timerOp.opened m var = some m') : m'.world.drawn = m.world.drawn := by
  unfold timerOp.opened at h
  split at h
  · split at h
    · cases h; rfl
    · cases h
  · cases h; rfl
theorem named_up {m : Machine} {var : Addr} {f : Nat → Timer → Value × Machine} {r : Value × Machine} {n : Nat} (hf : ∀ k t, (f k t).2.world.drawn = n) (h : timerOp.named m var f = .ok r) : r.2.world.drawn = n := by
  unfold timerOp.named at h
  split at h
  · cases h; exact hf _ _
  · cases h
theorem timerOp_up {m : Machine} {op : TimerOp} {r : Value × Machine} (h : timerOp m op = .ok r) : r.2.world.drawn = m.world.drawn := by
  unfold timerOp at h
  split at h
  · split at h
    · cases h; rfl
    · split at h
      · split at h
        · cases h
        · cases h; rfl
      · cases h
  · exact named_up (fun k t => retime_up) h
  · split at h
    · rename_i e
      have := withPoller_up e
      exact named_up (fun k t => retime_up.trans this) h
    · cases h
  · cases h; rfl
theorem runT_step {n : Nat} {p : Program} {m : Machine} {i : Nat} {listen : Bool} (h : n ≤ m.world.drawn) : upS n (Go.runT p m i listen).1 := by
  unfold Go.runT
  simp only
  have hs := stepG_up (p := p) (main := i == 0) (listen := listen) (g := (m.gs.swapAt! i { (default : Goroutine) with status := .finished }).1) h
  split
  all_goals
    rename_i e
    rw [e] at hs
  · trivial
  · exact communicate_up hs
  · exact hs
  · exact hs
  · exact site_up trivial hs
  · exact hs
  · exact look_up hs
  · exact hs
  · exact hs
  · split
    · exact hs
    · exact hs
    · trivial
  · split
    · rename_i e2
      have := timerOp_up e2
      show n ≤ _
      rw [this]; exact hs
    · exact hs
    · trivial
    · trivial
theorem serve_up {n : Nat} {p : Program} {m : Machine} {k : Nat} (h : n ≤ m.world.drawn) : upS n (serve p m k) := by
  unfold serve
  split
  · trivial
  · exact h
  · simp only
    split
    · trivial
    · exact h
def upM (n : Nat) : Move → Prop
  | .goroutine m _ => n ≤ m.world.drawn
  | .machine s _ => upS n s
theorem mite_up {n : Nat} {c : Prop} [Decidable c] {a b : Move} (h1 : upM n a) (h2 : upM n b) : upM n (if c then a else b) := by
  split
  · exact h1
  · exact h2
theorem askOn_up {n : Nat} {p : Program} {m : Machine} (h : n ≤ m.world.drawn) : upM n (askOn p m) := by
  unfold askOn
  simp only
  have pick : ∀ m : Machine, ∀ rs : List Nat, n ≤ m.world.drawn → upM n (match (choose (.sched rs.length)).run p m.world with
      | .halt _ w => Move.machine (.ended (.stuck "sched" "") w)
      | .ok k world =>
        if rs.length ≤ 1 then .goroutine { m with world } (rs.getD k 0) else
        match (choose (.extern "sched.slice" 65536)).run p world with
        | .halt _ w => .machine (.ended (.stuck "sched.slice" "") w)
        | .ok n world => .goroutine { m with world, rest := { m.rest with slice := if n = 0 then none else some (rs.getD k 0, n) } } (rs.getD k 0)) := by
    intro m rs h
    split
    · trivial
    · rename_i e
      have hw := run_ok_up h e
      refine mite_up hw ?_
      split
      · trivial
      · rename_i e2
        have := run_ok_up hw e2
        exact this
  split
  · trivial
  · rename_i e
    have hw := run_ok_up h e
    refine mite_up (serve_up hw) ?_
    split
    · split
      · exact hw
      · refine mite_up hw ?_
        split
        · trivial
        · trivial
    · split
      · exact pick { m with world := _ } _ hw
      · split
        · trivial
        · rename_i e2
          exact pick { m with world := _ } _ (run_ok_up hw e2)
        · rename_i e2
          have := run_ok_up hw e2
          exact this
        · rename_i e2
          have := run_ok_up hw e2
          exact pick _ _ this
theorem ask_move_up {n : Nat} {p : Program} {m : Machine} (h : n ≤ m.world.drawn) : upM n (ask p m) := by
  unfold ask
  refine mite_up ?_ (askOn_up h)
  split
  · trivial
  · rename_i e
    have hl := look_up (p := p) (gs := m.gs) (rest := m.rest) (run_ok_up h e)
    split
    · rename_i e2
      rw [e2] at hl
      exact askOn_up hl
    · exact hl
  · rename_i e
    exact askOn_up (run_ok_up h e)
theorem move_up {n : Nat} {p : Program} {m : Machine} (h : n ≤ m.world.drawn) : upM n (move p m) := by
  unfold move
  split
  · exact mite_up h trivial
  · split
    · exact mite_up h (ask_move_up h)
    · exact ask_move_up h
theorem step_up {p : Program} {m m' : Machine} (h : step p m = .next m') : m.world.drawn ≤ m'.world.drawn := by
  have hm := move_up (p := p) (m := m) (Nat.le_refl _)
  unfold step stepT at h
  split at h
  · rename_i m1 i1 e
    rw [e] at hm
    have := runT_step (p := p) (i := i1) (listen := true) hm
    rw [h] at this
    exact this
  · rename_i e
    rw [e] at hm
    have h : _ = Stepped.next m' := h
    subst h
    exact hm
theorem steps_up {p : Program} {m m' : Machine} (h : Steps p m m') : m.world.drawn ≤ m'.world.drawn := by
  obtain ⟨n, hn⟩ := h
  induction n generalizing m with
  | zero => cases hn; exact Nat.le_refl _
  | succ n ih =>
    unfold runN at hn
    split at hn
    · rename_i e
      exact Nat.le_trans (step_up e) (ih hn)
    · rename_i hx
      exact absurd hn (hx _)
/-- A call that returns has given no draw back. -/
theorem calls_up {P : Program} {f : FuncId} {args : Array Value} {w : World} {R : Ending → World → Prop} (h : Calls P f args w R) (hR : ∀ e w', R e w' → e ≠ .outgrown) : Calls P f args w fun e w' => R e w' ∧ w.drawn ≤ w'.drawn := by
  intro cs
  obtain ⟨e, w', fr, hr, hc, hf, hl⟩ := h cs
  refine ⟨e, w', fr, ⟨hr, ?_⟩, hc, hf, hl⟩
  have := hR e w' hr
  cases e with
  | returned v => exact steps_up hc
  | panicked c => exact steps_up hc
  | outgrown => exact absurd rfl this
end Go.Eng
