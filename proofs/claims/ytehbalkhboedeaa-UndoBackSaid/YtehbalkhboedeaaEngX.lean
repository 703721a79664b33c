/- The engine, part X: loops and scopes by invariants with a condition. Nothing of any program is proved here. -/
import Derived.Test.YtehbalkhboedeaaEnc
namespace Go.Eng
open Go Go.RowKit
set_option linter.unusedVariables false
section
variable {C : Cx} (hT : TabOk C.P C.T)
include hT in
/-- A loop: I holds at each head of it. -/
theorem loopi {b : Code} {Q : KQ} {ts : List XV} {h : List It} {ι : Type} (I : ι → Prop) (S : ι → List (Nat × XV)) (H : ι → List It) (μ : ι → Nat) (i0 : ι) (n : Nat) (hn : n = ts.length) (hI : I i0) (h0 : Wk ts h (S i0) (H i0))
    (hstep : ∀ i, I i → forceTs (frame n (S i)) fun t => codeX C b (roundQ (fun t h => ∃ j, I j ∧ μ j < μ i ∧ t.length = n ∧ Wk t h (S j) (H j)) Q) t (H i)) : LoopX C b Q ts h := by
  refine loopx hT (ι := {i // I i}) (fun i => S i.1) (fun i => H i.1) (fun i => μ i.1) ⟨i0, hI⟩ n hn h0 fun ⟨i, hi⟩ => ?_
  have := hstep i hi
  rw [forceTs_eq] at this ⊢
  have e : (fun (t : List XV) (h : List It) => ∃ j, I j ∧ μ j < μ i ∧ t.length = n ∧ Wk t h (S j) (H j)) = fun t h => ∃ j : {i // I i}, μ j.1 < μ i ∧ t.length = n ∧ Wk t h (S j.1) (H j.1) := by
    funext t h
    apply propext
    exact ⟨fun ⟨j, hj, hr⟩ => ⟨⟨j, hj⟩, hr⟩, fun ⟨⟨j, hj⟩, hr⟩ => ⟨j, hj, hr⟩⟩
  rw [e] at this
  exact this
include hT in
/-- A scope: I holds wherever its label is come to. -/
theorem scopei {b rest : Code} {Q : KQ} {ts : List XV} {h : List It} {ι : Type} (l : Nat) (hf : findLabel b l = some rest) (I : ι → Prop) (S : ι → List (Nat × XV)) (H : ι → List It) (μ : ι → Nat) (n : Nat) (hn : n = ts.length)
    (first : codeX C b (jumpQ l (fun t h => ∃ i, I i ∧ t.length = n ∧ Wk t h (S i) (H i)) Q) ts h)
    (pass : ∀ i, I i → forceTs (frame n (S i)) fun t => codeX C rest (jumpQ l (fun t h => ∃ j, I j ∧ μ j < μ i ∧ t.length = n ∧ Wk t h (S j) (H j)) Q) t (H i)) : ScopeX C b Q ts h := by
  refine scopex hT (ι := {i // I i}) l hf (fun i => S i.1) (fun i => H i.1) (fun i => μ i.1) n hn ?_ fun ⟨i, hi⟩ => ?_
  · have e : (fun (t : List XV) (h : List It) => ∃ j, I j ∧ t.length = n ∧ Wk t h (S j) (H j)) = fun t h => ∃ j : {i // I i}, t.length = n ∧ Wk t h (S j.1) (H j.1) := by
      funext t h
      apply propext
      exact ⟨fun ⟨j, hj, hr⟩ => ⟨⟨j, hj⟩, hr⟩, fun ⟨⟨j, hj⟩, hr⟩ => ⟨j, hj, hr⟩⟩
    rw [e] at first
    exact first
  · have := pass i hi
    rw [forceTs_eq] at this ⊢
    have e : (fun (t : List XV) (h : List It) => ∃ j, I j ∧ μ j < μ i ∧ t.length = n ∧ Wk t h (S j) (H j)) = fun t h => ∃ j : {i // I i}, μ j.1 < μ i ∧ t.length = n ∧ Wk t h (S j.1) (H j.1) := by
      funext t h
      apply propext
      exact ⟨fun ⟨j, hj, hr⟩ => ⟨⟨j, hj⟩, hr⟩, fun ⟨⟨j, hj⟩, hr⟩ => ⟨j, hj, hr⟩⟩
    rw [e] at this
    exact this
/-- What is to hold at a label, left for steps ahead of it. -/
@[irreducible] def LabX (K : KS) (t : List XV) (h : List It) : Prop := ∀ w0 F a w, Cfg w0 F t h a w → ∃ t2 h2, K t2 h2 ∧ Cfg w0 F t2 h2 a w
theorem labx_go {K : KS} {t : List XV} {h : List It} (hh : K t h) : LabX K t h := by
  unfold LabX
  exact fun w0 F a w hc => ⟨t, h, hh, hc⟩
/-- Code up to a label, and what is to hold there. -/
def toLab (C : Cx) (l : Nat) (K : KS) : Code → KQ → KS
  | .seq a b, Q, t, h => (match findLabel a l with
    | none => codeX C a (seqQ (toLab C l K b Q) Q) t h
    | some _ => (match a with
      | .label _ => LabX K t h
      | _ => False))
  | _, _, _, _ => False
include hT in
theorem toLab_sound {w0 : Org} {F : Nat → Prop} {l : Nat} {K : KS} {Q : KQ} {Q' : Exit → Act → World → Prop} (hQ : QOk w0 F Q Q') : ∀ (c : Code) {rest : Code} {t : List XV} {h : List It} {a : Act} {w : World}, findLabel c l = some rest → toLab C l K c Q t h → Cfg w0 F t h a w →
    (∀ t h a w, K t h → Cfg w0 F t h a w → ∃ t2 h2 Q2, codeX C rest Q2 t2 h2 ∧ Cfg w0 F t2 h2 a w ∧ QOk w0 F Q2 Q') → c.wpIn (fen C.rd) 0 C.P Q' a w
  | .seq x y, rest, t, h, a, w, hf, hh, hc, hK => by
    unfold toLab at hh
    unfold findLabel at hf
    split at hh
    · rename_i e
      rw [e] at hf
      exact wpIn_seq (codeX_sound hT x hh hc (hQ.seq fun t h a w hn hc' => toLab_sound hQ y hf hn hc' hK))
    · rename_i r e
      rw [e] at hf
      split at hh
      · rename_i l'
        simp only [Option.some.injEq] at hf
        unfold findLabel at e
        split at e
        · cases e
          subst hf
          unfold LabX at hh
          obtain ⟨t0, h0, hk0, hc0⟩ := hh w0 F a w hc
          obtain ⟨t2, h2, Q2, h1, h3, h4⟩ := hK t0 h0 a w hk0 hc0
          refine wpIn_seq (wpIn_label ?_)
          refine codeX_sound hT y (Q := Q2) ?_ h3 h4
          unfold codeX at h1
          have e : cutB C.js Code.skip = false := by
            unfold cutB
            cases C.js <;> rfl
          rw [e] at h1
          unfold codeX at h1
          exact h1
        · cases e
      · exact hh.elim
  | .skip, _, _, _, _, _, _, hh, _, _ => hh.elim
  | .label _, _, _, _, _, _, _, hh, _, _ => hh.elim
  | .ret, _, _, _, _, _, _, hh, _, _ => hh.elim
  | .exit _, _, _, _, _, _, _, hh, _, _ => hh.elim
  | .goto _, _, _, _, _, _, _, hh, _, _ => hh.elim
  | .region _ _ _, _, _, _, _, _, _, hh, _, _ => hh.elim
  | .cond _ _ _, _, _, _, _, _, _, hh, _, _ => hh.elim
  | .block _ _, _, _, _, _, _, _, hh, _, _ => hh.elim
  | .loop _, _, _, _, _, _, _, hh, _, _ => hh.elim
  | .scope _, _, _, _, _, _, _, hh, _, _ => hh.elim
  | .rangeFunc _ _ _ _, _, _, _, _, _, _, hh, _, _ => hh.elim
  | .refuse _, _, _, _, _, _, _, hh, _, _ => hh.elim
include hT in
/-- A scope: I holds where its label is come to, the first time and each time after. -/
theorem scopel {b rest : Code} {Q : KQ} {ts : List XV} {h : List It} {ι : Type} (l : Nat) (hf : findLabel b l = some rest) (I : ι → Prop) (S : ι → List (Nat × XV)) (H : ι → List It) (μ : ι → Nat) (n : Nat)
    (first : toLab C l (fun t h => ∃ i, I i ∧ t.length = n ∧ Wk t h (S i) (H i)) b (jumpQ l (fun _ _ => False) Q) ts h)
    (pass : ∀ i, I i → forceTs (frame n (S i)) fun t => codeX C rest (jumpQ l (fun t h => ∃ j, I j ∧ μ j < μ i ∧ t.length = n ∧ Wk t h (S j) (H j)) Q) t (H i)) : ScopeX C b Q ts h := by
  unfold ScopeX
  intro w0 F Q' a w hQ hc
  let J : Nat → Act → World → Prop := fun m a w => ∃ i, I i ∧ μ i = m ∧ Cfg w0 F (frame n (S i)) (H i) a w
  refine wpIn_scope_jumps l (fun a w => ∃ m, J m a w) (fun a w => leastOf (fun m => J m a w)) hf ?_ ?_
  · refine toLab_sound hT (Q := jumpQ l (fun _ _ => False) Q) ?_ b hf first hc ?_
    · intro e t h a w hq hc
      cases e with
      | normal => exact hQ .normal _ _ _ _ hq hc
      | ret => exact hQ .ret _ _ _ _ hq hc
      | exit n => exact hQ (.exit n) _ _ _ _ hq hc
      | goto n => obtain ⟨_, hq⟩ := when_iff hq; exact hq.elim
    · intro t h a w ⟨i, hi, hlen, hk⟩ hc
      have h1 := pass i hi
      rw [forceTs_eq] at h1
      refine ⟨_, _, _, h1, by rw [← hlen]; exact hk.cfg hc, ?_⟩
      intro e t h a' w' hq hc
      cases e with
      | normal => exact hQ .normal _ _ _ _ hq hc
      | ret => exact hQ .ret _ _ _ _ hq hc
      | exit n => exact hQ (.exit n) _ _ _ _ hq hc
      | goto n =>
        obtain ⟨he, j, hj, _, hlen, hk⟩ := when_iff hq
        exact ⟨Nat.eq_of_beq_eq_true he, μ j, j, hj, rfl, by rw [← hlen]; exact hk.cfg hc⟩
  · intro a w hI
    obtain ⟨i, hi, hm, hc⟩ := (leastOf_spec hI).1
    have h1 := pass i hi
    rw [forceTs_eq] at h1
    refine codeX_sound hT rest h1 hc ?_
    intro e t h a' w' hq hc
    cases e with
    | normal => exact hQ .normal _ _ _ _ hq hc
    | ret => exact hQ .ret _ _ _ _ hq hc
    | exit n => exact hQ (.exit n) _ _ _ _ hq hc
    | goto n =>
      obtain ⟨he, j, hj, hlt, hlen, hk⟩ := when_iff hq
      have hI' : J (μ j) a' w' := ⟨j, hj, rfl, by rw [← hlen]; exact hk.cfg hc⟩
      refine ⟨Nat.eq_of_beq_eq_true he, ⟨μ j, hI'⟩, ?_⟩
      have := (leastOf_spec (p := fun m => J m a' w') ⟨_, hI'⟩).2 _ hI'
      have hi' : μ i = leastOf (fun m => J m a w) := hm
      show leastOf (fun m => J m a' w') < leastOf (fun m => J m a w)
      omega
include hT in
/-- No cut after all. -/
theorem seqx_go {x y : Code} {Q : KQ} {ts : List XV} {h : List It} (hh : codeX C x (seqQ (codeX C y Q) Q) ts h) : SeqX C x y Q ts h := by
  unfold SeqX
  intro w0 F Q' a w hQ hc
  exact wpIn_seq (codeX_sound hT x hh hc (hQ.seq fun t h a w hn hc' => codeX_sound hT y hn hc' hQ))
/-- Code, up to the piece that begins with a region of this number. -/
def beginsB (id : Nat) (c : Code) : Bool := match firstId c with | some n => Nat.beq n id | none => false
def uptoX (C : Cx) (id : Nat) (K : KS) : Code → KQ → KS
  | .seq a b, Q, t, h => (match beginsB id b with
    | true => codeX C a (seqQ K Q) t h
    | false => codeX C a (seqQ (uptoX C id K b Q) Q) t h)
  | _, _, _, _ => False
/-- .. and from there on. -/
def restOf (id : Nat) : Code → Code
  | .seq a b => (match beginsB id b with | true => b | false => restOf id b)
  | c => c
include hT in
theorem uptoX_sound {w0 : Org} {F : Nat → Prop} {js : List Nat} {id : Nat} {K : KS} {Q : KQ} {Q' : Exit → Act → World → Prop} (hQ : QOk w0 F Q Q') : ∀ (c : Code) {t : List XV} {h : List It} {a : Act} {w : World}, uptoX { C with js := js } id K c Q t h → Cfg w0 F t h a w →
    (∀ t h a w, K t h → Cfg w0 F t h a w → (restOf id c).wpIn (fen C.rd) 0 C.P Q' a w) → c.wpIn (fen C.rd) 0 C.P Q' a w
  | .seq x y, t, h, a, w, hh, hc, hK => by
    unfold uptoX at hh
    unfold restOf at hK
    split at hh
    · rename_i e
      rw [e] at hK
      exact wpIn_seq (codeX_sound (C := { C with js := js }) hT x hh hc (hQ.seq fun t h a w hn hc' => hK t h a w hn hc'))
    · rename_i e
      rw [e] at hK
      exact wpIn_seq (codeX_sound (C := { C with js := js }) hT x hh hc (hQ.seq fun t h a w hn hc' => uptoX_sound hQ y hn hc' hK))
  | .skip, _, _, _, _, hh, _, _ => hh.elim
  | .label _, _, _, _, _, hh, _, _ => hh.elim
  | .ret, _, _, _, _, hh, _, _ => hh.elim
  | .exit _, _, _, _, _, hh, _, _ => hh.elim
  | .goto _, _, _, _, _, hh, _, _ => hh.elim
  | .region _ _ _, _, _, _, _, hh, _, _ => hh.elim
  | .cond _ _ _, _, _, _, _, hh, _, _ => hh.elim
  | .block _ _, _, _, _, _, hh, _, _ => hh.elim
  | .loop _, _, _, _, _, hh, _, _ => hh.elim
  | .scope _, _, _, _, _, hh, _, _ => hh.elim
  | .rangeFunc _ _ _ _, _, _, _, _, hh, _, _ => hh.elim
  | .refuse _, _, _, _, _, hh, _, _ => hh.elim
include hT in
/-- The cut: whichever way it goes up to there, one state is come to. -/
theorem seqx_upto {x y : Code} {Q : KQ} {ts : List XV} {h : List It} {ι : Type} (id : Nat) (js : List Nat) (I : ι → Prop) (S : ι → List (Nat × XV)) (H : ι → List It) (n : Nat)
    (first : uptoX { C with js := [] } id (fun t h => ∃ i, I i ∧ t.length = n ∧ Wk t h (S i) (H i)) (.seq x y) Q ts h)
    (rest : ∀ i, I i → forceTs (frame n (S i)) fun t => codeX { C with js := js } (restOf id (.seq x y)) Q t (H i)) : SeqX C x y Q ts h := by
  unfold SeqX
  intro w0 F Q' a w hQ hc
  refine uptoX_sound hT hQ (.seq x y) first hc fun t h a w hn hc' => ?_
  obtain ⟨i, hi, hl, hk⟩ := hn
  have h1 := rest i hi
  rw [forceTs_eq] at h1
  subst hl
  exact codeX_sound (C := { C with js := js }) hT _ h1 (hk.cfg hc') hQ
include hT in
/-- A statement whose order is drawn: what reads goes ahead, the rest in each order that may be ('tl': the items that it writes). -/
theorem drawx_auto {id : Nat} {ops : List Oper} {k : KS} {ts : List XV} {h : List It} (tl : List Nat) (hm : C.P.follows .mixedOrders = true) (hs : Region.noSelect ops.toArray = true)
    (hB : okS ops.toArray ops.toArray.size (Array.replicate ops.toArray.size false) (autoS ops.toArray [] ops.toArray.size (Array.replicate ops.toArray.size false)) = true)
    (hh : anyX C ops (rdOf h.length tl) k (autoS ops.toArray [] ops.toArray.size (Array.replicate ops.toArray.size false)) ts h) (hnd : C.rd = none ∨ noDefer ops.toArray = true := by first | exact .inl rfl | exact .inr (by kernel_rfl)) : DrawX C id ops k ts h :=
  drawx_plan hT tl _ hm hs hB hh hnd
end
theorem ep1 {m : Nat} {f g : Nat → XC} (hm : 1 ≤ m) (h : f 0 = g 0) : entV (.c (.ep m f)) (.c (.ep 1 g)) :=
  ⟨hm, fun j hj => by obtain rfl : j = 0 := by omega
                      exact entC_of_eq h⟩
/-- A call by contract, of a function that reads what the caller owns: the contract may ask for less. -/
theorem callx_lent {C : Cx} {f : FuncId} {args : List XV} {ts : List XV} {h : List It} {k : KE} {args' : List XV} {v : XV} (hf : Fn C.P f args' (Tells v)) (hl : entVs (args.map (lendV h)) args') (hs : stXs args' = true) (hv : flatV v = true) (hk : k v ts h) : CallX C f args ts h k := by
  unfold CallX
  refine ⟨hf.ok, fun w0 F E w vs us hr hargs hp => ?_⟩
  refine (hf.run (E.lent h w).bs w us hp.lent_ok (stXs_rel (E := E.lent h w) (E' := ⟨(E.lent h w).bs, 0, fun _ => 0, fun _ => undef, fun _ _ => False⟩) rfl hs (entVs_rel hl (lendTs_rel hp hargs)))).mono fun e w' ⟨u, x, h', E', he, hR, hx, hp'⟩ => ?_
  exact ⟨u, v, ts, h, E, he, hk, flatV_rel hv (entV_rel hR hx), hr, hp.stays hp'.fr⟩
theorem callp_lent {C : Cx} {f : FuncId} {args : List XV} {h : List It} {k : XV → Prop} {args' : List XV} {v : XV} (hf : Fn C.P f args' (Tells v)) (hl : entVs (args.map (lendV h)) args') (hs : stXs args' = true) (hv : flatV v = true) (hk : k v) : CallP C f args h k := by
  unfold CallP
  refine ⟨hf.ok, v, hk, fun w0 F E w us hargs hp => ?_⟩
  refine (hf.run (E.lent h w).bs w us hp.lent_ok (stXs_rel (E := E.lent h w) (E' := ⟨(E.lent h w).bs, 0, fun _ => 0, fun _ => undef, fun _ _ => False⟩) rfl hs (entVs_rel hl (lendTs_rel hp hargs)))).mono fun e w' ⟨u, x, h', E', he, hR, hx, hp'⟩ => ?_
  exact ⟨u, E, he, EnvLe.refl E, flatV_rel hv (entV_rel hR hx), hp.stays hp'.fr⟩
end Go.Eng
