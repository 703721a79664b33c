/- The engine, part P: loops walked round by round, and the last step of a row; nothing of any program is proved here. -/
import Derived.Test.YtbhmplbckkipjaaEngO
import Derived.LoopN
import Derived.LoopNIn
import Derived.WideKeyArgs
import Derived.ProofKit
import Derived.OpenShut
namespace Go.Eng
open Go Go.RowKit Go.ChangeShapes Go.WideShapes
set_option linter.unusedSimpArgs false
set_option linter.unusedVariables false

/-! ### loops, round by round -/
def roundsX (C : Cx) (b : Code) (Q : KQ) : Nat → KS
  | 0, _, _ => False
  | n + 1, ts, h => codeX C b (roundQ (roundsX C b Q n) Q) ts h

section
variable {C : Cx} (hT : TabOk C.P C.T)
include hT in
theorem roundsX_sound {w0 : Org} {F : Nat → Prop} {b : Code} {Q : KQ} {Q' : Exit → Act → World → Prop} (hQ : QOk w0 F Q Q') : ∀ (n : Nat) {ts : List XV} {h : List It} {a : Act} {w : World}, roundsX C b Q n ts h → Cfg w0 F ts h a w → Code.roundsIn (fen C.rd) 0 C.P b Q' n a w
  | 0, _, _, _, _, hh, _ => hh
  | n + 1, ts, h, a, w, hh, hc => by
    refine codeX_sound hT b hh hc ?_
    intro e t h a w hq hc
    cases e with
    | normal => exact roundsX_sound hQ n hq hc
    | ret => exact hQ .ret _ _ _ _ hq hc
    | exit n => exact hQ (.exit n) _ _ _ _ hq hc
    | goto n => exact hQ (.goto n) _ _ _ _ hq hc

include hT in
/-- A loop of n rounds at most, each walked. -/
theorem loopx_rounds {b : Code} {Q : KQ} {ts : List XV} {h : List It} (n : Nat) (hh : roundsX C b Q n ts h) : LoopX C b Q ts h := by
  unfold LoopX
  intro w0 F Q' a w hQ hc
  exact wpIn_loop_rounds n (roundsX_sound hT hQ n hh hc)

end

/-! ### a scope with a jump, time by time -/
def againX (C : Cx) (rest : Code) (l : Nat) (Q : KQ) : Nat → KS
  | 0, _, _ => False
  | n + 1, ts, h => codeX C rest (jumpQ l (againX C rest l Q n) Q) ts h

section
variable {C : Cx} (hT : TabOk C.P C.T)
include hT in
/-- A scope whose label is jumped to n times at most, each walked. -/
theorem scopex_rounds {b rest : Code} {Q : KQ} {ts : List XV} {h : List It} (l n : Nat) (hf : findLabel b l = some rest) (hh : codeX C b (jumpQ l (againX C rest l Q n) Q) ts h) : ScopeX C b Q ts h := by
  unfold ScopeX
  intro w0 F Q' a w hQ hc
  let I : Nat → Act → World → Prop := fun m a w => ∃ ts h, againX C rest l Q m ts h ∧ Cfg w0 F ts h a w
  refine wpIn_scope_jumps l (fun a w => ∃ m, I m a w) (fun a w => leastOf (fun m => I m a w)) hf ?_ ?_
  · refine codeX_sound hT b hh hc ?_
    intro e t h a w hq hc
    cases e with
    | normal => exact hQ .normal _ _ _ _ hq hc
    | ret => exact hQ .ret _ _ _ _ hq hc
    | exit n => exact hQ (.exit n) _ _ _ _ hq hc
    | goto n' =>
      obtain ⟨he, hk⟩ := when_iff hq
      exact ⟨Nat.eq_of_beq_eq_true he, n, t, h, hk, hc⟩
  · intro a w hI
    have hI0 := (leastOf_spec hI).1
    generalize hm : leastOf (fun m => I m a w) = m at hI0
    obtain ⟨ts, h, hk, hc⟩ := hI0
    cases m with
    | zero => exact hk.elim
    | succ m =>
      refine codeX_sound hT rest hk hc ?_
      intro e t h a' w' hq hc
      cases e with
      | normal => exact hQ .normal _ _ _ _ hq hc
      | ret => exact hQ .ret _ _ _ _ hq hc
      | exit n => exact hQ (.exit n) _ _ _ _ hq hc
      | goto n' =>
        obtain ⟨he, hk⟩ := when_iff hq
        have hI' : I m a' w' := ⟨t, h, hk, hc⟩
        refine ⟨Nat.eq_of_beq_eq_true he, ⟨m, hI'⟩, ?_⟩
        exact Nat.lt_succ_of_le ((leastOf_spec (p := fun m => I m a' w') ⟨_, hI'⟩).2 _ hI')
end

/-! ### the last step of a row -/
section
variable {H : Type} {enc : TypeId × Value → H} {P : Program}
theorem trodAll_stays (hl : laidOutB P = true) {W W' : World} (hb : Below W.heap.size W W') {sp : Nat → Bool} :
    ∀ {ts : List TypeId} {vs : List Value} {ds : List (DataW H)} {ps : List MemPlace}, (ts.all fun t => P.readableRec t && decide (t < P.types.size)) = true →
      DataW.TrodAll enc P W 0 (fun _ => true) true ts vs ds ps → (∀ p ∈ ps, p.block < W.heap.size) → (∀ p ∈ ps, sp p.block = true) → DataW.TrodAll enc P W' 0 sp true ts vs ds ps
  | [], vs, ds, ps, _, h, _, _ => by obtain ⟨rfl, rfl, rfl⟩ := trodAll_nil h; exact trodAll_mk0
  | t :: ts, vs, ds, ps, ht, h, hlt, hsp => by
    obtain ⟨v, vs', d, ds', p, p', rfl, rfl, rfl, h0, h1⟩ := trodAll_cons h
    simp only [List.all_cons, Bool.and_eq_true, decide_eq_true_eq] at ht
    exact Go.trodAll_cons_mk (WideElems.Trod_stays hl ht.1.1 ht.1.2 h0 (fun x hx => hb.same (hlt x (by simp [hx]))) (fun x hx => hsp x (by simp [hx])))
      (trodAll_stays hl hb ht.2 h1 (fun x hx => hlt x (by simp [hx])) (fun x hx => hsp x (by simp [hx])))

theorem post_true {f : Func} {s : ChangeSpec} {apart fresh handsOn again : Bool} {W W' : World} {args : Array Value} {ds gs : List (DataW H)} {before : List MemPlace} {tb : TypeId}
    (hl : laidOutB P = true) (hps : (f.params.toList.all fun t => P.readableRec t && decide (t < P.types.size)) = true) (htb : f.resultTypes = #[tb]) (hub : P.underlying tb = some .bool)
    (hvars : s.vars = [])
    (hW : DataW.Whole enc P f.params.toList s.vars apart W args.toList ds gs before)
    (hres : (s.fn H (ds ++ gs)).results = [.lit (.bool true)]) (hargs : (s.fn H (ds ++ gs)).args = ds) (hvs : (s.fn H (ds ++ gs)).vars = [])
    (hb : Below W.heap.size W W') : s.post enc P f apart fresh handsOn again W args (.bool true) W' := by
  have hlt : ∀ p ∈ before, p.block < W.heap.size := fun p hp => hW.lt p hp
  have hold : ∀ p ∈ before, (fun b => decide (b < W.heap.size)) p.block = true := fun p hp => by simpa using hlt p hp
  have hW0 := hW
  obtain ⟨p, q, hA, hV, hpq, hz, hn⟩ := hW0
  have hq : gs = [] ∧ q = [] := by rw [hvars] at hV; exact trodVars_none hV
  obtain ⟨rfl, rfl⟩ := hq
  obtain rfl : before = p := by simpa using hpq
  have harg : ∀ sp : Nat → Bool, (∀ x ∈ before, sp x.block = true) → DataW.TrodAll enc P W' 0 sp true f.params.toList args.toList (s.fn H (ds ++ [])).args before := fun sp hsp => by
    rw [hargs]; exact trodAll_stays hl hb hps hA hlt hsp
  have hresT : ∀ (b : Nat) (sp : Nat → Bool) (hd : Bool), DataW.TrodAll enc P W' b sp hd f.resultTypes.toList ((Value.bool true).resultList f.resultTypes.size) (s.fn H (ds ++ [])).results [] := fun b sp hd => by
    rw [hres, htb]; exact Go.trodAll_cons_mk (shut_bool hub _) trodAll_mk0
  have hvarT : ∀ sp : Nat → Bool, DataW.TrodVars enc P W' sp s.vars (s.fn H (ds ++ [])).vars [] := fun sp => by
    rw [hvs, hvars]; rfl
  refine ⟨ds, [], before, [], before, [], hW, hresT _ _ _, harg _ hold, hvarT _, World.keptBut_mono (fun p hp => ⟨hp, ?_⟩) (hb.frame (· ∈ before)), fun _ => ?_⟩
  · exact Or.inr (by simpa using hp)
  · refine ⟨?_, _, _, ([] ++ before) ++ [], ⟨[] ++ before, [], trodAll_append (harg _ (fun _ _ => rfl)) (hresT _ _ _), hvarT _, rfl, ?_, ?_⟩, ?_⟩
    · exact ok_one htb rfl (okWide_bool_mk hub _)
    · intro b off hp
      have hin : MemPlace.cell b off ∈ before := by simpa using hp
      rw [hb.frozen (hlt _ hin)]
      exact hz b off hin
    · intro ha
      have := hn ha
      simpa using this
    · intro p hp _
      simpa using hp
end

/-- All that stands when a row begins: it doesn't turn. -/
def rowBase (W : World) : Base := ⟨W, fun b => b < W.heap.size⟩
def rowEnv (W : World) : Env := ⟨rowBase W, 0, fun _ => 0, fun _ => undef, fun _ _ => False⟩
theorem rowBase_ok (W : World) : (rowBase W).ok W := fun _ h => ⟨h, rfl⟩

/-- A law comes to true and turns nothing. -/
def LawTrue (P : Program) (f : FuncId) (us : Array Value) (W : World) : Prop := Calls P f us W fun e w' => e = .returned (.bool true) ∧ Below W.heap.size W w'
theorem Fn.law {P : Program} {f : FuncId} {xs : List XV} (hf : Fn P f xs (Tells (.c (.b true)))) {W : World} {us : List Value} (hr : RelTs (rowEnv W) xs us) : LawTrue P f us.toArray W :=
  (hf.run (rowBase W) W us (rowBase_ok W) hr).mono fun e w' ⟨u, x, h', E', he, hR, hx, hp⟩ => by
    have : u = .bool true := entV_rel hR hx
    exact ⟨by rw [he, this], hp.fr.below⟩
end Go.Eng
