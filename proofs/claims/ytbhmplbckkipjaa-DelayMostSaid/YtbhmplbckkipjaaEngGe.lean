/- The engine, part Ge: such steps by name; contracts of functions that turn what the caller owns. Nothing of any program is proved here. -/
import Derived.Test.YtbhmplbckkipjaaEngGd
namespace Go.Eng
open Go Go.RowKit
set_option linter.unusedSimpArgs false
set_option linter.unusedVariables false

inductive Gh where
  /-- A nil slice in a cell is an own (empty) row from here on, at place j. -/
  | nil (it off j e z : Nat) (pr : Bool)
  /-- Element i of a row of packs is opened. -/
  | open_ (it i : Nat) (xs : List XC) (hs : List It)
  /-- The element that lies open is shut: its items stand at the places js. -/
  | close (it : Nat) (js : List Nat) (xs : List XC) (hs : List It)
  /-- A block, and the items at js that lie behind it, are one pack. -/
  | pack (it : Nat) (js : List Nat) (hs : List It)
  | unpack (it : Nat) (x : XC) (y0 : It) (tl : List It)
  /-- A row is laid aside for good. -/
  | frz (it : Nat)
  /-- An item says less. -/
  | le (it : Nat) (y : It)
  | drop (it : Nat)

def ghX (gh : Gh) (h : List It) (K : (XC → XC) → List It → Prop) : Prop :=
  match gh with
  | .nil it off j e z pr => (match itemAt h it with
    | .cells ty cs => (match nthC cs off with
      | .v (.slice none 0 0) => when (Nat.blt off cs.length && deadB h j) (gHK (killC j) h fun h1 => gLK (killC j) cs fun cs1 => forceL (cs1.set off (.ow j)) fun cs2 => setH h1 it (.cells ty cs2) fun h2 => putH h2 j (nilRow pr e z) fun h3 => K (killC j) h3)
      | _ => False)
    | _ => False)
  | .open_ it i xs hs => (match itemAt h it with
    | .prow e z as none => as[i]? = some (PackL xs hs) ∧ lenK h fun n => renLK (fun j => n + j) xs fun xs' => setH h it (.prow e z as (some (i, xs'))) fun h1 => renHK (fun j => n + j) hs fun hs' => appH h1 hs' fun h2 => K (fun x => x) h2
    | _ => False)
  | .close it js xs hs => (match itemAt h it with
    | .prow e z as (some (i, cs)) => when (nodupB js && !memJ it js && wfL hs.length xs && wfH hs.length hs) (renLK (nthN js) xs fun xs' => entL cs xs' ∧ renHK (nthN js) hs fun hs' => preAt h js hs' ∧
        setH h it (.prow e z (as.set i (PackL xs hs)) none) fun h1 => killAtK js h1 fun h2 => K (fun x => x) h2)
    | _ => False)
  | .pack it js hs => (match itemAt h it with
    | .dead => False
    | _ => when (nodupB (it :: js) && wfH hs.length hs && Nat.blt 0 hs.length) (renHK (nthN (it :: js)) hs fun hs' => preAt h (it :: js) hs' ∧ gHK (packG it) h fun h1 => setH h1 it (.abs (Pk (.p 0 0) hs)) fun h2 => killAtK js h2 fun h3 => K (packG it) h3))
  | .unpack it x y0 tl => (match itemAt h it with
    | .abs A => A = Pk x (y0 :: tl) ∧ lenK h fun n => renCK (sigU it n) x fun r => gHK (unpackG it r) h fun h1 => renItK (sigU it n) y0 fun y => setH h1 it y fun h2 => renHK (sigU it n) tl fun tl' => appH h2 tl' fun h3 => K (unpackG it r) h3
    | _ => False)
  | .frz it => (match itemAt h it with
    | .row _ z xs => frzH it (rsOf xs z) h fun h1 => setH h1 it .dead fun h2 => K (frzC it (rsOf xs z)) h2
    | .prow _ z as none => frzH it (rsP as z) h fun h1 => setH h1 it .dead fun h2 => K (frzC it (rsP as z)) h2
    | _ => False)
  | .le it y => ItLe (itemAt h it) y ∧ (match itemAt h it with | .dead => False | _ => True) ∧ setH h it y fun h1 => K (fun x => x) h1
  | .drop it => setH h it .dead fun h1 => K (fun x => x) h1

theorem frzC_gst {w0 : Org} {F : Nat → Prop} {E : Env} {h : List It} {w : World} (hp : Heap w0 F E h w) {it : Nat} {x : It} {r : XC} (hx : h[it]? = some x) (hrs : RelC (E.more w (Ow E it x)) r (E.sl it)) : ∃ E2, Heap w0 F E2 ((h.map (frzIt it r)).set it .dead) w ∧ Gst E E2 (frzC it r) := by
  obtain ⟨hle, hp'⟩ := hp.freezeTo hx hrs
  exact ⟨_, hp', fun x v hr => frzC_rel hle hrs hr⟩

theorem le_sound {h : List It} {it : Nat} {x y : It} (hx : h[it]? = some x) (hle : ItLe x y) : GhS h (fun x => x) (h.set it y) := by
  intro w0 F E w hp
  have hit : it < h.length := (List.getElem?_eq_some_iff.1 hx).1
  have hg : Gst E E (fun x => x) := fun _ _ h => h
  refine ⟨E, hp.remix rfl (by simp [hp.n]) hg (fun k => k ≠ it) (fun k z hz hk => ?_) (fun k z hz hk => ?_) (fun j k a b c _ _ hj hk _ _ => ?_), hg⟩
  · rcases at_set hz with ⟨h1, _⟩ | ⟨_, hz⟩
    · exact absurd h1 hk
    · exact ⟨z, hz, (gIt_id z).symm, rfl, rfl, rfl⟩
  · rcases at_set hz with ⟨h1, rfl, _⟩ | ⟨h1, _⟩
    · subst h1; exact ⟨hle.ok' (hp.ok k x hx), fun b hb => ⟨k, x, fun h => h rfl, hx, hle.ow' hb⟩⟩
    · exact absurd h1 hk
  · have e1 : j = it := Classical.byContradiction fun e => hj e
    have e2 : k = it := Classical.byContradiction fun e => hk e
    rw [e1, e2]

theorem ghX_sound {gh : Gh} {h : List It} {K : (XC → XC) → List It → Prop} (hh : ghX gh h K) : ∃ g h2, GhS h g h2 ∧ K g h2 := by
  cases gh with
  | nil it off j e z pr =>
    simp only [ghX] at hh
    split at hh
    case h_2 => exact hh.elim
    rename_i ty cs hit
    split at hh
    case h_2 => exact hh.elim
    rename_i hc
    obtain ⟨hb, hh⟩ := when_iff hh
    rw [gHK_eq, gLK_eq, forceL_eq, setH_eq, putH_eq] at hh
    simp only [Bool.and_eq_true] at hb
    have hoff : off < cs.length := blt_lt hb.1
    have hc' : cs[off]? = some (.v (.slice none 0 0)) := by rw [nthC_getD, List.getElem?_eq_getElem hoff] at hc; rw [List.getElem?_eq_getElem hoff]; simpa using hc
    have := nil_sound (pr := pr) (e := e) (z := z) (itemAt_eq _ _ hit (by simp)) hc' hb.2
    rw [List.length_set] at this
    simp only [List.length_set, List.length_map] at hh
    exact ⟨_, _, this, hh⟩
  | open_ it i xs hs =>
    simp only [ghX] at hh
    split at hh
    case h_2 => exact hh.elim
    rename_i e z as hit
    obtain ⟨ha, hh⟩ := hh
    rw [lenK_eq, renLK_eq, setH_eq, renHK_eq, appH_eq] at hh
    exact ⟨_, _, open_sound (itemAt_eq _ _ hit (by simp)) ha, hh⟩
  | close it js xs hs =>
    simp only [ghX] at hh
    split at hh
    case h_2 => exact hh.elim
    rename_i e z as i cs hit
    obtain ⟨hb, hh⟩ := when_iff hh
    simp only [Bool.and_eq_true, Bool.not_eq_true'] at hb
    rw [renLK_eq] at hh
    obtain ⟨h1, hh⟩ := hh
    rw [renHK_eq] at hh
    obtain ⟨h2, hh⟩ := hh
    rw [setH_eq, killAtK_eq] at hh
    exact ⟨_, _, close_sound (itemAt_eq _ _ hit (by simp)) (nodupB_iff hb.1.1.1) (fun hm => by have h3 := hb.1.1.2; rw [memJ_iff.2 hm] at h3; cases h3) h1 h2 hb.1.2 hb.2, hh⟩
  | pack it js hs =>
    simp only [ghX] at hh
    split at hh
    case h_1 => exact hh.elim
    rename_i hnd
    obtain ⟨hb, hh⟩ := when_iff hh
    simp only [Bool.and_eq_true] at hb
    rw [renHK_eq] at hh
    obtain ⟨h2, hh⟩ := hh
    rw [gHK_eq, setH_eq, killAtK_eq] at hh
    exact ⟨_, _, pack_sound (itemAt_eq _ _ rfl (fun e => hnd e)) (nodupB_iff hb.1.1) h2 hb.1.2 (blt_lt hb.2), hh⟩
  | unpack it x y0 tl =>
    simp only [ghX] at hh
    split at hh
    case h_2 => exact hh.elim
    rename_i A hit
    obtain ⟨rfl, hh⟩ := hh
    rw [lenK_eq, renCK_eq, gHK_eq, renItK_eq, setH_eq, renHK_eq, appH_eq] at hh
    exact ⟨_, _, unpack_sound (itemAt_eq _ _ hit (by simp)), hh⟩
  | frz it =>
    simp only [ghX] at hh
    split at hh
    · rename_i e z xs hit
      rw [frzH_eq, setH_eq] at hh
      have hx := itemAt_eq _ _ hit (by simp)
      exact ⟨_, _, fun w0 F E w hp => frzC_gst hp hx (hp.rs_of hx (fun b hb => hb)), hh⟩
    · rename_i e z as hit
      rw [frzH_eq, setH_eq] at hh
      have hx := itemAt_eq _ _ hit (by simp)
      exact ⟨_, _, fun w0 F E w hp => frzC_gst hp hx (by obtain ⟨ys, Ss, hpr⟩ := hp.ok it _ hx; exact hpr.rs_of hp.bs (fun b hb => hb)), hh⟩
    · exact hh.elim
  | le it y =>
    simp only [ghX] at hh
    obtain ⟨h1, h2, hh⟩ := hh
    rw [setH_eq] at hh
    have hnd : itemAt h it ≠ .dead := fun e => by rw [e] at h2; exact h2
    exact ⟨_, _, le_sound (itemAt_eq _ _ rfl hnd) h1, hh⟩
  | drop it =>
    simp only [ghX] at hh
    rw [setH_eq] at hh
    exact ⟨_, _, fun w0 F E w hp => ⟨E, hp.drop it, fun _ _ h => h⟩, hh⟩

/-! ### wherever the walk stops -/
section
variable {C : Cx} {ts : List XV} {h : List It}
theorem cfg_ghs {w0 : Org} {F : Nat → Prop} {g : XC → XC} {h2 : List It} {a : Act} {w : World} (hg : GhS h g h2) (hc : Cfg w0 F ts h a w) : Cfg w0 F (ts.map (gV g)) h2 a w := by
  obtain ⟨w1, F1, hs, hd, E, hr, hp⟩ := hc
  obtain ⟨E2, hp2, hgst⟩ := hg w1 F1 E w hp
  exact ⟨w1, F1, hs, hd, E2, hgst.ts hr, hp2⟩
theorem callx_gh (gh : Gh) {f : FuncId} {args : List XV} {k : KE} (hh : ghX gh h fun g h2 => gTsK g args fun args => gTsK g ts fun ts => CallX C f args ts h2 k) : CallX C f args ts h k := by
  obtain ⟨g, h2, hg, hh⟩ := ghX_sound hh
  rw [gTsK_eq, gTsK_eq] at hh
  unfold CallX at hh ⊢
  refine ⟨hh.1, fun w0 F E w vs us hr hargs hp => ?_⟩
  obtain ⟨E2, hp2, hgst⟩ := hg w0 F E w hp
  exact hh.2 w0 F E2 w vs us (hgst.ts hr) (hgst.ts hargs) hp2
theorem yieldx_gh (gh : Gh) {l : Nat} {args : List XV} {k : KE} (hh : ghX gh h fun g h2 => gTsK g args fun args => gTsK g ts fun ts => YieldX C l args ts h2 k) : YieldX C l args ts h k := by
  obtain ⟨g, h2, hg, hh⟩ := ghX_sound hh
  rw [gTsK_eq, gTsK_eq] at hh
  unfold YieldX at hh ⊢
  intro w0 F E w vs us hr hargs hp
  obtain ⟨E2, hp2, hgst⟩ := hg w0 F E w hp
  exact hh w0 F E2 w vs us (hgst.ts hr) (hgst.ts hargs) hp2
theorem opx_gh (gh : Gh) {o : Oper} {k : KE} (hh : ghX gh h fun g h2 => gTsK g ts fun ts => OpX C o ts h2 k) : OpX C o ts h k := by
  obtain ⟨g, h2, hg, hh⟩ := ghX_sound hh
  rw [gTsK_eq] at hh
  unfold OpX at hh ⊢
  refine ⟨hh.1, fun w0 F E w a hr hp => ?_⟩
  obtain ⟨E2, hp2, hgst⟩ := hg w0 F E w hp
  exact hh.2 w0 F E2 w a (hgst.ts hr) hp2
theorem loopx_gh (gh : Gh) {b : Code} {Q : KQ} (hh : ghX gh h fun g h2 => gTsK g ts fun ts => LoopX C b Q ts h2) : LoopX C b Q ts h := by
  obtain ⟨g, h2, hg, hh⟩ := ghX_sound hh
  rw [gTsK_eq] at hh
  unfold LoopX at hh ⊢
  exact fun w0 F Q' a w hQ hc => hh w0 F Q' a w hQ (cfg_ghs hg hc)
theorem scopex_gh (gh : Gh) {b : Code} {Q : KQ} (hh : ghX gh h fun g h2 => gTsK g ts fun ts => ScopeX C b Q ts h2) : ScopeX C b Q ts h := by
  obtain ⟨g, h2, hg, hh⟩ := ghX_sound hh
  rw [gTsK_eq] at hh
  unfold ScopeX at hh ⊢
  exact fun w0 F Q' a w hQ hc => hh w0 F Q' a w hQ (cfg_ghs hg hc)
theorem seqx_gh (gh : Gh) {x y : Code} {Q : KQ} (hh : ghX gh h fun g h2 => gTsK g ts fun ts => SeqX C x y Q ts h2) : SeqX C x y Q ts h := by
  obtain ⟨g, h2, hg, hh⟩ := ghX_sound hh
  rw [gTsK_eq] at hh
  unfold SeqX at hh ⊢
  exact fun w0 F Q' a w hQ hc => hh w0 F Q' a w hQ (cfg_ghs hg hc)
theorem regx_gh (gh : Gh) {id : Nat} {ops : List Oper} {Q : KQ} (hh : ghX gh h fun g h2 => gTsK g ts fun ts => RegX C id ops Q ts h2) : RegX C id ops Q ts h := by
  obtain ⟨g, h2, hg, hh⟩ := ghX_sound hh
  rw [gTsK_eq] at hh
  unfold RegX at hh ⊢
  exact fun w0 F Q' a w hQ hc => hh w0 F Q' a w hQ (cfg_ghs hg hc)
theorem drawx_gh (gh : Gh) {id : Nat} {ops : List Oper} {Q : KS} (hh : ghX gh h fun g h2 => gTsK g ts fun ts => DrawX C id ops Q ts h2) : DrawX C id ops Q ts h := by
  obtain ⟨g, h2, hg, hh⟩ := ghX_sound hh
  rw [gTsK_eq] at hh
  unfold DrawX at hh ⊢
  exact fun w0 F Q' a w hQ hc => hh w0 F Q' a w hQ (cfg_ghs hg hc)
theorem rangex_gh (gh : Gh) {f : Operand} {ps : Array Tmp} {as b : Code} {Q : KQ} (hh : ghX gh h fun g h2 => gTsK g ts fun ts => RangeX C f ps as b Q ts h2) : RangeX C f ps as b Q ts h := by
  obtain ⟨g, h2, hg, hh⟩ := ghX_sound hh
  rw [gTsK_eq] at hh
  unfold RangeX at hh ⊢
  exact fun w0 F Q' a w hQ hc => hh w0 F Q' a w hQ (cfg_ghs hg hc)
end

/-! ### contracts of functions that turn what the caller owns -/
/-- At a function's end: the answer v, over the items hs'; what was told of vs holds. -/
def MT (v : XV) (hs' : List It) (fx : List XC) (vs : List Value) : XV → List It → Prop := fun x h =>
  ∀ w0 F E w u, Heap w0 F E h w → RelV E x u → ∃ E2, Heap w0 F E2 hs' w ∧ RelV E2 v u ∧ RelL E2 fx vs
theorem mt_gh (gh : Gh) {v : XV} {hs' : List It} {fx : List XC} {vs : List Value} {x : XV} {h : List It} (hh : ghX gh h fun g h2 => gVK g x fun x => MT v hs' fx vs x h2) : MT v hs' fx vs x h := by
  obtain ⟨g, h2, hg, hh⟩ := ghX_sound hh
  rw [gVK_eq] at hh
  intro w0 F E w u hp hr
  obtain ⟨E2, hp2, hgst⟩ := hg w0 F E w hp
  exact hh w0 F E2 w _ hp2 (hgst.v hr)
/-- Cells as values of slots. -/
def cLs (l : List XC) : List XV := l.map .c
theorem cLs_rel {E : Env} : ∀ {l : List XC} {vs : List Value}, RelTs E (cLs l) vs ↔ RelL E l vs
  | [], [] => Iff.rfl
  | _ :: l, _ :: vs => and_congr Iff.rfl (cLs_rel (l := l) (vs := vs))
  | [], _ :: _ => Iff.rfl
  | _ :: _, [] => Iff.rfl

/-- The items at these places, alone. -/
theorem Heap.sub {w0 : Org} {F : Nat → Prop} {E : Env} {h : List It} {w : World} (hp : Heap w0 F E h w) {js : List Nat} (hnd : js.Nodup) {hs : List It} (hpre : preAt h js (hs.map (renIt (nthN js)))) (hwh : wfH hs.length hs = true) :
    Heap w0 F (E.sub js hs.length) hs w := by
  obtain ⟨hpk, hown⟩ := PkOk.shut hp hnd (xs := []) (vs := []) hpre rfl hwh trivial
  exact hp.re rfl rfl hpk.ok (fun k y b hy hb => by
    obtain ⟨m, y', hy', hb'⟩ := hpk.own k y b hy hb
    obtain ⟨x, h1, h2, _⟩ := hown m y' b hy' hb'
    exact ⟨_, x, h1, h2⟩) hpk.sep

/-- The end: where the items stand, and where it stands what is told of vs. -/
theorem mt_done {v : XV} {hs' : List It} {fx : List XC} {vs : List Value} {x : XV} {h : List It} (js : List Nat) (jh : Nat) {ys : List XV} (hnd : nodupB js = true) (hwh : wfH hs'.length hs' = true) (hwv : wfV hs'.length v = true) (hwf : wfL hs'.length fx = true)
    (hit : itemAt h jh = .held vs ys) (hv : entV x (renV (nthN js) v)) (hf : entVs ys (cLs (fx.map (renC (nthN js))))) (hpre : preAt h js (hs'.map (renIt (nthN js)))) : MT v hs' fx vs x h := by
  intro w0 F E w u hp hr
  have hU := E.sub_u js hs'.length
  have hheld : RelTs E ys vs := hp.ok _ _ (itemAt_eq _ _ hit (by simp))
  exact ⟨E.sub js hs'.length, hp.sub (nodupB_iff hnd) hpre hwh, unrenV hU hwv (entV_rel hv hr), unrenL hU hwf (cLs_rel.1 (entVs_rel hf hheld))⟩
/-- .. with a tuple. -/
def wfWs (n : Nat) : List XW → Bool
  | [] => true
  | .c x :: l => (match wfC n x with | true => wfWs n l | false => false)
  | .a x :: l => (match wfL n x with | true => wfWs n l | false => false)
theorem unrenWs {σ : Nat → Nat} {E0 E : Env} (hE : EnvU σ E0 E) : ∀ {l : List XW} {vs : List Value}, wfWs E0.n l = true → RelWs E (l.map fun | .c x => .c (renC σ x) | .a l => .a (l.map (renC σ))) vs → RelWs E0 l vs
  | [], [], _, _ => trivial
  | .c x :: l, v :: vs, hw, h => by
    unfold wfWs at hw
    split at hw
    · rename_i h1; exact ⟨unrenC hE h1 h.1, unrenWs hE hw h.2⟩
    · cases hw
  | .a x :: l, v :: vs, hw, h => by
    unfold wfWs at hw
    split at hw
    · rename_i h1; exact ⟨by obtain ⟨us, e, hl⟩ := h.1; exact ⟨us, e, unrenL hE h1 hl⟩, unrenWs hE hw h.2⟩
    · cases hw
  | [], _ :: _, _, h => h.elim
  | _ :: _, [], _, h => h.elim
theorem mt_done_t {l : List XW} {hs' : List It} {fx : List XC} {vs : List Value} {x : XV} {h : List It} (js : List Nat) (jh : Nat) {ys : List XV} (hnd : nodupB js = true) (hwh : wfH hs'.length hs' = true) (hwv : wfWs hs'.length l = true) (hne : l ≠ []) (hwf : wfL hs'.length fx = true)
    (hit : itemAt h jh = .held vs ys) (hv : entV x (renV (nthN js) (.t l))) (hf : entVs ys (cLs (fx.map (renC (nthN js))))) (hpre : preAt h js (hs'.map (renIt (nthN js)))) : MT (.t l) hs' fx vs x h := by
  intro w0 F E w u hp hr
  have hU := E.sub_u js hs'.length
  have hheld : RelTs E ys vs := hp.ok _ _ (itemAt_eq _ _ hit (by simp))
  refine ⟨E.sub js hs'.length, hp.sub (nodupB_iff hnd) hpre hwh, ?_, unrenL hU hwf (cLs_rel.1 (entVs_rel hf hheld))⟩
  have h1 := entV_rel hv hr
  cases l with
  | nil => exact absurd rfl hne
  | cons a l => obtain ⟨us, e, hl⟩ := h1; exact ⟨us, e, unrenWs hU hwv hl⟩

/-- A contract: called with these arguments over these items, which the caller owns, the function comes to the answer v over the items hs'; what is told of fx stays. -/
structure FnM (P : Program) (f : FuncId) (xs : List XV) (hs : List It) (fx : List XC) (v : XV) (hs' : List It) : Prop where
  ok : FnOk P f
  run : ∀ w0 F E w us vs, Heap w0 F E hs w → RelTs E xs us → RelL E fx vs → Calls P f us.toArray w fun e w' => ∃ u E', e = .returned u ∧ Heap w0 F E' hs' w' ∧ RelV E' v u ∧ RelL E' fx vs

/-- .. from its code. -/
theorem FnM.ofJ {P : Program} {T : Tab} (hT : TabOk P T) (js : List Nat) {f : FuncId} {fn : Func} (hf : P.funcs[f]? = some fn) (hb : fn.body.isSome = true) (hn : (fn.name == "runtime.NumGoroutine") = false) {xs : List XV} {hs : List It} {fx : List XC} {v : XV} {hs' : List It}
    (hh : ∀ vs, fnX ⟨P, T, js, none⟩ fn xs (hs ++ [.held vs (cLs fx)]) (MT v hs' fx vs)) : FnM P f xs hs fx v hs' := by
  refine ⟨⟨fn, hf, hn, hb⟩, fun w0 F E w us vs hp hr hfx => ?_⟩
  have hle := Env.push_le E 0 undef
  have hp1 : Heap w0 F (E.push 0 undef) (hs ++ [.held vs (cLs fx)]) w := hp.push (Fr.refl _ _) (show RelTs _ (cLs fx) vs from cLs_rel.2 (hfx.mono hle)) (fun c hc => by simp [Ow] at hc)
  refine (fnX_sound hT hf hb (hh vs) (hr.mono hle) hp1).mono fun e w' ⟨u, x, h', E', he, hR, hx, hp'⟩ => ?_
  obtain ⟨E2, h1, h2, h3⟩ := hR _ _ _ _ _ hp' hx
  exact ⟨u, E2, he, h1, h2, h3⟩
theorem FnM.of {P : Program} {T : Tab} (hT : TabOk P T) {f : FuncId} {fn : Func} (hf : P.funcs[f]? = some fn) (hb : fn.body.isSome = true) (hn : (fn.name == "runtime.NumGoroutine") = false) {xs : List XV} {hs : List It} {fx : List XC} {v : XV} {hs' : List It}
    (hh : ∀ vs, fnX ⟨P, T, [], none⟩ fn xs (hs ++ [.held vs (cLs fx)]) (MT v hs' fx vs)) : FnM P f xs hs fx v hs' := FnM.ofJ hT [] hf hb hn hh
end Go.Eng
