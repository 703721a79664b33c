/- The engine, part S: a call walked in place, and a call that is lent own memory to read; nothing of any program is proved here. -/
import Derived.Test.YtbhmplbckkipjaaEngR
namespace Go.Eng
open Go Go.RowKit
set_option linter.unusedSimpArgs false
set_option linter.unusedVariables false

/-! ### in place -/
def inlQ (C : Cx) (fn : Func) (j : Nat) (vs : List Value) (k : KE) : KQ
  | .normal, tc, h => resX C.T tc h fn.results.toList fun x => (match itemAt h j with
    | .held vs' ts => vs' = vs ∧ setH h j .dead fun h => k x ts h
    | _ => False)
  | .ret, tc, h => resX C.T tc h fn.results.toList fun x => (match itemAt h j with
    | .held vs' ts => vs' = vs ∧ setH h j .dead fun h => k x ts h
    | _ => False)
  | _, _, _ => False
/-- The callee's code, in the caller's memory; the caller's slots lie aside meanwhile. -/
def inlX (C : Cx) (fn : Func) (args : List XV) (ts : List XV) (h : List It) (k : KE) (vs : List Value) : Prop :=
  lenK h fun n => snocH h (.held vs ts) fun h1 => forceTs (padX fn.ntmps args) fun tc => codeX { C with rd := none } (bodyOf fn) (inlQ C fn n vs k) tc h1

section
variable {C : Cx} (hT : TabOk C.P C.T)

theorem Heap.drop {w0 : Org} {F : Nat → Prop} {E : Env} {h : List It} {w : World} (hp : Heap w0 F E h w) (j : Nat) : Heap w0 F E (h.set j .dead) w := by
  have at_ : ∀ {k : Nat} {y : It}, (h.set j .dead)[k]? = some y → y = .dead ∨ h[k]? = some y := by
    intro k y hy
    by_cases he : j = k
    · subst he
      rw [List.getElem?_set_self'] at hy
      cases hh : h[j]? with
      | none => rw [hh] at hy; simp at hy
      | some z => rw [hh] at hy; simp at hy; exact .inl hy.symm
    · rw [List.getElem?_set_ne he] at hy; exact .inr hy
  refine ⟨hp.bs, hp.le, hp.nb, by simp [hp.n], ?_, ?_, ?_, hp.fr⟩
  · intro k y hy
    rcases at_ hy with rfl | hy
    · trivial
    · exact hp.ok k y hy
  · intro k y b hy hb
    rcases at_ hy with rfl | hy
    · simp [Ow] at hb
    · exact hp.own k y b hy hb
  · intro i k x y b hx hy hb hb'
    rcases at_ hx with rfl | hx
    · simp [Ow] at hb
    · rcases at_ hy with rfl | hy
      · simp [Ow] at hb'
      · exact hp.sep i k x y b hx hy hb hb'

include hT in
theorem callx_inline {f : FuncId} {args ts : List XV} {h : List It} {k : KE} {fn : Func} (hf : C.P.funcs[f]? = some fn) (hb : fn.body.isSome = true) (hn : (fn.name == "runtime.NumGoroutine") = false)
    (hh : ∀ vs, inlX C fn args ts h k vs) : CallX C f args ts h k := by
  unfold CallX
  refine ⟨⟨fn, hf, hn, hb⟩, fun w0 F E w vs us hr hargs hp => ?_⟩
  obtain ⟨c, hc⟩ := Option.isSome_iff_exists.1 hb
  replace hh := hh vs
  unfold inlX at hh
  rw [lenK_eq, snocH_eq, forceTs_eq, bodyOf, hc] at hh
  have hle := Env.push_le E 0 undef
  have hp1 : Heap w0 F (E.push 0 undef) (h ++ [.held vs ts]) w := hp.push (Fr.refl _ _) (show RelTs _ ts vs from hr.mono hle) (fun c hc => by simp [Ow] at hc)
  have ha := hargs.mono hle
  refine callsIn_wide.1 (callsIn_of_wp_marks (n := 0) hf hc trivial (codeX_sound (C := { C with rd := none }) hT c hh (Cfg.start (w0 := w0) (F := F) (E := E.push 0 undef) rfl ?_ hp1) ?_))
  · have hl := ha.len
    simp only [Array.toList_append, Array.toList_replicate, List.size_toArray, padX, hl]
    exact ha.append (rep_undef _)
  · intro e tc h' a w' hq hcfg
    obtain ⟨w1, F1, hsub, hd, E', hr', hp'⟩ := hcfg
    have key : (resX C.T tc h' fn.results.toList fun x => (match itemAt h' h.length with
        | .held vs' ts => vs' = vs ∧ setH h' h.length .dead fun h => k x ts h
        | _ => False)) → LeavesInM Fence.wide 0 C.P fn a.tmps (fun e w' => ∃ u x ts' h'' E'', e = .returned u ∧ k x ts' h'' ∧ RelV E'' x u ∧ RelTs E'' ts' vs ∧ Heap w0 F E'' h'' w') a.defers .returning w' := fun hq =>
      Heap.fnf hsub hd hp' fun w'' hp'' => by
        obtain ⟨x, u, hk, hx, hrun⟩ := resX_sound hT hq hr' hp''
        split at hk
        case h_2 => exact hk.elim
        rename_i vs' ts' hit
        obtain ⟨rfl, hk⟩ := hk
        rw [setH_eq] at hk
        have hheld := hp''.ok _ _ (itemAt_eq _ _ hit (by simp))
        exact ⟨u, hrun, u, x, ts', _, E', rfl, hk, hx, hheld, hp''.drop _⟩
    cases e with
    | normal => exact key hq
    | ret => exact key hq
    | exit n => exact hq.elim
    | goto n => exact hq.elim
end

/-- Numbers taken for literals. -/
def litC : XC → XC
  | .i k n => .il k n
  | x => x
def litV : XV → XV
  | .c x => .c (litC x)
  | .a l => .a (l.map litC)
  | x => x
theorem litC_rel {E : Env} {x : XC} {v : Value} (h : RelC E x v) : RelC E (litC x) v := by cases x <;> exact h
theorem litL_rel {E : Env} : ∀ {l : List XC} {vs : List Value}, RelL E l vs → RelL E (l.map litC) vs
  | [], [], _ => trivial
  | _ :: _, _ :: _, h => ⟨litC_rel h.1, litL_rel h.2⟩
  | [], _ :: _, h => h.elim
  | _ :: _, [], h => h.elim
theorem litV_rel {E : Env} {x : XV} {v : Value} (h : RelV E x v) : RelV E (litV x) v := by
  cases x with
  | c x => exact litC_rel h
  | a l => obtain ⟨vs, e, hl⟩ := h; exact ⟨vs, e, litL_rel hl⟩
  | un => exact h
  | t l => exact h
theorem litTs_rel {E : Env} : ∀ {l : List XV} {vs : List Value}, RelTs E l vs → RelTs E (l.map litV) vs
  | [], [], _ => trivial
  | _ :: _, _ :: _, h => ⟨litV_rel h.1, litTs_rel h.2⟩
  | [], _ :: _, h => h.elim
  | _ :: _, [], h => h.elim
/-- A call whose numbers are literals. -/
theorem callx_lit {C : Cx} {f : FuncId} {args ts : List XV} {h : List It} {k : KE} (hh : CallX C f (args.map litV) ts h k) : CallX C f args ts h k := by
  unfold CallX at *
  exact ⟨hh.1, fun w0 F E w vs us hr hargs hp => hh.2 w0 F E w vs us hr (litTs_rel hargs) hp⟩

/-! ### lent to read -/
def lendC (h : List It) (x : XC) : XC :=
  match x with
  | .ow it => (match itemAt h it with | .row _ z xs => rsOf xs z | .prow _ z as none => rsP as z | _ => .ow it)
  | .p it off => (match itemAt h it with | .cells _ cs => (match allSt cs with | true => .ep (cs.length - off) (fun j => nthC cs (off + j)) | false => .p it off) | _ => .p it off)
  | x => x
def lendV (h : List It) : XV → XV
  | .c x => .c (lendC h x)
  | .a l => .a (l.map (lendC h))
  | x => x

section
variable {C : Cx} {E : Env} {h : List It} {w0 : Org} {w : World} {F : Nat → Prop}

/-- All that the run owns, too, doesn't turn meanwhile. -/
def Env.lent (E : Env) (h : List It) (w : World) : Env := E.more w fun b => ∃ (k : Nat) (x : It), h[k]? = some x ∧ Ow E k x b

theorem Heap.lent_ok (hp : Heap w0 F E h w) : (E.lent h w).bs.ok w := by
  rintro b (hb | ⟨k, x, hx, hb⟩)
  · exact ⟨(hp.bs b hb).1, rfl⟩
  · exact ⟨(hp.own k x b hx hb).1, rfl⟩

theorem lendC_rel (hp : Heap w0 F E h w) {x : XC} {v : Value} (hr : RelC E x v) : RelC (E.lent h w) (lendC h x) v := by
  have hle : EnvLe E (E.lent h w) := hp.le_more
  unfold lendC
  split
  · rename_i it
    split
    · rename_i e z xs hit
      have hx := itemAt_eq _ _ hit (by simp)
      rw [hr.2.1]
      exact hp.rs_of hx fun b hb => ⟨it, _, hx, hb⟩
    · rename_i e z as hit
      have hx := itemAt_eq _ _ hit (by simp)
      rw [hr.2.1]
      obtain ⟨ys, Ss, hpr⟩ := hp.ok it _ hx
      exact hpr.rs_of hp.bs fun b hb => ⟨it, _, hx, hb⟩
    · exact RelC.mono hle _ _ hr
  · rename_i it off
    split
    · rename_i ty cs hit
      split
      · rename_i hst
        have hx := itemAt_eq _ _ hit (by simp)
        obtain ⟨vs, hv, hrel⟩ := hp.ok it _ hx
        obtain ⟨hn, rfl⟩ := hr
        refine ⟨_, rfl, fun j hj => ?_⟩
        have hxj : cs[off + j]? = some (cs[off + j]'(by omega)) := List.getElem?_eq_getElem (by omega)
        obtain ⟨u, hu, hru⟩ := hrel.get _ hxj
        refine ⟨.inr ⟨it, _, hx, rfl⟩, u, ?_, ?_, ?_⟩
        · show w.cell? _ = some u
          rw [add_lit]
          simp only [World.cell?, hv]
          simpa using hu
        · show St (nthC cs (off + j))
          rw [nthC_eq _ _ _ hxj]; exact allSt_iff hst _ (List.mem_of_getElem? hxj)
        · show RelC _ (nthC cs (off + j)) u
          rw [nthC_eq _ _ _ hxj]; exact RelC.mono hle _ _ hru
      · exact RelC.mono hle _ _ hr
    · exact RelC.mono hle _ _ hr
  · exact RelC.mono hle _ _ hr

theorem lendV_rel (hp : Heap w0 F E h w) {x : XV} {v : Value} (hr : RelV E x v) : RelV (E.lent h w) (lendV h x) v := by
  cases x with
  | un => trivial
  | c x => exact lendC_rel hp hr
  | a l =>
    obtain ⟨vs, rfl, hl⟩ := hr
    refine ⟨vs, rfl, ?_⟩
    have key : ∀ {l : List XC} {vs : List Value}, RelL E l vs → RelL (E.lent h w) (l.map (lendC h)) vs := by
      intro l
      induction l with
      | nil => intro vs h; cases vs with | nil => trivial | cons _ _ => exact h.elim
      | cons x l ih => intro vs h; cases vs with | nil => exact h.elim | cons v vs => exact ⟨lendC_rel hp h.1, ih h.2⟩
    exact key hl
  | t l => exact RelV.mono (x := .t l) hp.le_more hr

theorem lendTs_rel (hp : Heap w0 F E h w) : ∀ {ts : List XV} {vs : List Value}, RelTs E ts vs → RelTs (E.lent h w) (ts.map (lendV h)) vs
  | [], [], _ => trivial
  | _ :: _, _ :: _, hr => ⟨lendV_rel hp hr.1, lendTs_rel hp hr.2⟩
  | [], _ :: _, hr => hr.elim
  | _ :: _, [], hr => hr.elim

/-- Nothing of memory in it. -/
def flatC : XC → Bool
  | .un | .il _ _ | .i _ _ | .bt | .bf | .b _ | .v _ => true
  | _ => false
def flatL : List XC → Bool
  | [] => true
  | x :: l => (match flatC x with | true => flatL l | false => false)
def flatWs : List XW → Bool
  | [] => true
  | .c x :: l => (match flatC x with | true => flatWs l | false => false)
  | .a m :: l => (match flatL m with | true => flatWs l | false => false)
def flatV : XV → Bool
  | .un => true
  | .c x => flatC x
  | .a l => flatL l
  | .t l => flatWs l
theorem flatC_rel {E' : Env} {x : XC} {v : Value} (hs : flatC x = true) (hr : RelC E x v) : RelC E' x v := by
  cases x <;> simp [flatC] at hs <;> exact hr
theorem flatL_rel {E' : Env} : ∀ {l : List XC} {vs : List Value}, flatL l = true → RelL E l vs → RelL E' l vs
  | [], [], _, _ => trivial
  | x :: l, v :: vs, hs, h => by
    unfold flatL at hs
    split at hs
    · rename_i h1; exact ⟨flatC_rel h1 h.1, flatL_rel hs h.2⟩
    · cases hs
  | [], _ :: _, _, h => h.elim
  | _ :: _, [], _, h => h.elim
theorem flatWs_rel {E' : Env} : ∀ {l : List XW} {vs : List Value}, flatWs l = true → RelWs E l vs → RelWs E' l vs
  | [], [], _, _ => trivial
  | .c x :: l, v :: vs, hs, h => by
    unfold flatWs at hs
    split at hs
    · rename_i h1; exact ⟨flatC_rel h1 h.1, flatWs_rel hs h.2⟩
    · cases hs
  | .a m :: l, v :: vs, hs, h => by
    unfold flatWs at hs
    split at hs
    · rename_i h1
      obtain ⟨us, e, hl⟩ := h.1
      exact ⟨⟨us, e, flatL_rel h1 hl⟩, flatWs_rel hs h.2⟩
    · cases hs
  | [], _ :: _, _, h => h.elim
  | .c _ :: _, [], _, h => h.elim
  | .a _ :: _, [], _, h => h.elim
theorem flatV_rel {E' : Env} {x : XV} {v : Value} (hs : flatV x = true) (hr : RelV E x v) : RelV E' x v := by
  cases x with
  | un => trivial
  | c x => exact flatC_rel hs hr
  | a l => obtain ⟨vs, e, hl⟩ := hr; exact ⟨vs, e, flatL_rel hs hl⟩
  | t l => obtain ⟨vs, e, hl⟩ := hr; exact ⟨vs, e, flatWs_rel hs hl⟩

theorem Heap.stays {w0 : Org} {F : Nat → Prop} {E : Env} {w w' : World} (hp : Heap w0 F E h w) (hf : Fr (fun _ => False) w w') : Heap w0 F E h w' := by
  have keep : ∀ k, k < w.heap.size → w'.heap[k]? = w.heap[k]? := fun k hk => hf.block k hk (fun x => x)
  refine ⟨fun k hB => ⟨Nat.lt_of_lt_of_le (hp.bs k hB).1 hf.size, (keep k (hp.bs k hB).1).trans (hp.bs k hB).2⟩, hp.le, hp.nb, hp.n, ?_, ?_, hp.sep, ?_⟩
  · intro k x hx
    exact (hp.ok k x hx).of_block fun b hb => keep b (hp.own k x b hx hb).1
  · intro k x b hx hb
    have h1 := hp.own k x b hx hb
    exact ⟨Nat.lt_of_lt_of_le h1.1 hf.size, h1.2⟩
  · exact ⟨hf.os.trans hp.fr.os, hf.tape.trans hp.fr.tape, hf.output.trans hp.fr.output, Nat.le_trans hp.fr.size hf.size,
      fun k hk hF => (keep k (Nat.lt_of_lt_of_le hk hp.fr.size)).trans (hp.fr.block k hk hF)⟩

/-- A call by contract, of a function that reads what the caller owns. -/
theorem callx_lend {f : FuncId} {args : List XV} {ts : List XV} {k : KE} {args' : List XV} {v : XV} (hf : Fn C.P f args' (Tells v)) (hl : args.map (lendV h) = args') (hs : stXs args' = true) (hv : flatV v = true) (hk : k v ts h) : CallX C f args ts h k := by
  unfold CallX
  refine ⟨hf.ok, fun w0 F E w vs us hr hargs hp => ?_⟩
  have hle : EnvLe E (E.lent h w) := hp.le_more
  refine (hf.run (E.lent h w).bs w us hp.lent_ok (stXs_rel (E := E.lent h w) (E' := ⟨(E.lent h w).bs, 0, fun _ => 0, fun _ => undef, fun _ _ => False⟩) rfl hs (hl ▸ lendTs_rel hp hargs))).mono fun e w' ⟨u, x, h', E', he, hR, hx, hp'⟩ => ?_
  exact ⟨u, v, ts, h, E, he, hk, flatV_rel hv (entV_rel hR hx), hr, hp.stays hp'.fr⟩

end
end Go.Eng
