/- The engine, part Gh: a nil slice in a slot as an own row of packs; stable cells as a pack. Nothing of any program is proved here. -/
import Derived.Test.YtehbalkhboedeaaEngGg
import Derived.Test.YtehbalkhboedeaaEngP3
import Derived.Test.YtehbalkhboedeaaEngX
namespace Go.Eng
open Go Go.RowKit
set_option linter.unusedSimpArgs false
set_option linter.unusedVariables false
section
variable {C : Cx}
theorem cfg_nilp {w0 : Org} {F : Nat → Prop} {ts : List XV} {h : List It} {a : Act} {w : World} (j e z : Nat) (hg : get ts j = .c (.v (.slice none 0 0))) (hc : Cfg w0 F ts h a w) :
    Cfg w0 F (ts.set j (.c (.ow h.length))) (h ++ [.prow e z [] none]) a w := by
  obtain ⟨w1, F1, hsub, hd, E, hr, hp⟩ := hc
  have hv := hr.get j
  rw [hg] at hv
  have hv : a.tmps.toList.getD j undef = .slice none 0 0 := hv.1
  have hle := Env.push_le E 0 (.slice none 0 0)
  refine ⟨w1, F1, hsub, hd, E.push 0 (.slice none 0 0), ?_, ?_⟩
  · refine RelTs.set_self j (hr.mono hle) ?_
    rw [hv]
    exact ⟨by simp [Env.push, hp.n], by simp [Env.push, hp.n], rfl⟩
  · refine hp.push (Fr.refl _ _) ⟨[], fun _ _ => False, by simpa [Env.push] using World.ownsRow_nil w 0 e z, fun i a ha => (by simp at ha), fun i cs e => (by cases e), fun _ _ _ h => h.elim, fun _ _ h => h.elim, fun b hb => ?_⟩ (fun c hc => ?_)
    · simp [Env.push, Value.ownBlock] at hb
    · simp [Ow, Env.push, Value.ownBlock] at hc
/-- A nil slice in slot j is an own row of packs from here on. -/
theorem loopx_nilp {b : Code} {Q : KQ} {ts : List XV} {h : List It} (j e z : Nat) (hg : get ts j = .c (.v (.slice none 0 0))) (hh : lenK h fun n => setK ts j (.c (.ow n)) fun ts => snocH h (.prow e z [] none) fun h => LoopX C b Q ts h) : LoopX C b Q ts h := by
  rw [lenK_eq, setK_eq, snocH_eq] at hh
  exact loopx_cfg (fun w0 F a w => cfg_nilp j e z hg) hh
theorem relL_st {E E2 : Env} (hb : E2.bs = E.bs) : ∀ {l : List XC} {vs : List Value}, (∀ x ∈ l, St x) → RelL E l vs → RelL E2 l vs
  | [], [], _, _ => trivial
  | x :: l, v :: vs, hs, h => ⟨RelC.stable (E := E) (by rw [hb]; exact fun _ h => ⟨h, rfl⟩) _ _ (hs x (by simp)) h.1, relL_st hb (fun y hy => hs y (by simp [hy])) h.2⟩
/-- Stable cells are a pack. -/
theorem stL_pack (l : List XC) : AbsL.le (StL l) (PackL l []) := by
  rintro bs vs S w ⟨hs, E, rfl, hr⟩
  refine ⟨{ E with n := 0 }, rfl, ⟨rfl, relL_st (E := E) (E2 := { E with n := 0 }) rfl hs hr, fun k y hy => by simp at hy, fun k y b hy => by simp at hy, fun j k x y b hx => by simp at hx⟩⟩
/-- A row of stable cells is a row of packs. -/
theorem packs_sound {h : List It} {it e z : Nat} {xs : List (List XC)} (hx : h[it]? = some (.row e z xs)) : GhS h (fun x => x) (h.set it (.prow e z (xs.map StL) none)) := by
  intro w0 F E w hp
  have hit : it < h.length := (List.getElem?_eq_some_iff.1 hx).1
  let E2 : Env := { E with ext := fun k => if k = it then (fun b => (E.sl it).ownBlock = some b) else E.ext k }
  have hc : EnvC E E2 := ⟨Nat.le_refl _, fun _ _ => rfl, fun _ _ => rfl, fun _ h => ⟨h, rfl⟩⟩
  have hg : Gst E E2 (fun x => x) := Gst.id hc
  have hxt : E2.ext it = fun b => (E.sl it).ownBlock = some b := by simp [E2]
  obtain ⟨ys, hrow, hrel, hlen, hst⟩ := hp.ok it _ hx
  refine ⟨E2, hp.remix rfl (by simp [hp.n, E2]) hg (fun k => k ≠ it) (fun k y hy hk => ?_) (fun k y hy hk => ?_) (fun j k a b c _ _ hj hk _ _ => ?_), hg⟩
  · rcases at_set hy with ⟨h1, _⟩ | ⟨_, hy⟩
    · exact absurd h1 hk
    · exact ⟨y, hy, (gIt_id y).symm, rfl, rfl, by simp [E2, hk]⟩
  · rcases at_set hy with ⟨h1, rfl, _⟩ | ⟨h1, _⟩
    · subst h1
      refine ⟨⟨ys, fun _ _ => False, by rw [List.length_map]; exact hrow, fun i a ha _ => ?_, fun i cs e => (by cases e), fun _ _ _ h => h.elim, fun _ _ h => h.elim, fun b hb => ?_⟩, fun b hb => ⟨k, _, fun h => h rfl, hx, ?_⟩⟩
      · rw [List.getElem?_map, Option.map_eq_some_iff] at ha
        obtain ⟨cs, hcs, rfl⟩ := ha
        refine ⟨fun x hx2 => hst x (List.mem_flatten.2 ⟨cs, List.mem_of_getElem? hcs, hx2⟩), E, rfl, ?_⟩
        rw [← flatten_at xs i cs hlen hcs]
        exact (hrel.drop _).take _
      · rw [hxt]; exact hb
      · have hb : E2.ext k b := hb
        rw [hxt] at hb
        exact hb
    · exact absurd h1 hk
  · have e1 : j = it := Classical.byContradiction fun e => hj e
    have e2 : k = it := Classical.byContradiction fun e => hk e
    rw [e1, e2]
theorem loopx_packs (it e z : Nat) {b : Code} {Q : KQ} {ts : List XV} {h : List It} {xs : List (List XC)} (hx : itemAt h it = .row e z xs) (hh : setH h it (.prow e z (xs.map StL) none) fun h => LoopX C b Q ts h) : LoopX C b Q ts h := by
  rw [setH_eq] at hh
  exact loopx_cfg (fun w0 F a w hc => by
    have := cfg_ghs (packs_sound (itemAt_eq _ _ hx (by simp))) hc
    rw [show ts.map (gV fun x => x) = ts from by rw [List.map_congr_left (fun x _ => gV_id x)]; exact List.map_id _] at this
    exact this) hh
theorem regx_packs (it e z : Nat) {id : Nat} {ops : List Oper} {Q : KQ} {ts : List XV} {h : List It} {xs : List (List XC)} (hx : itemAt h it = .row e z xs) (hh : setH h it (.prow e z (xs.map StL) none) fun h => RegX C id ops Q ts h) : RegX C id ops Q ts h := by
  rw [setH_eq] at hh
  unfold RegX at hh ⊢
  exact fun w0 F Q' a w hQ hc => hh w0 F Q' a w hQ (by
    have := cfg_ghs (packs_sound (itemAt_eq _ _ hx (by simp))) hc
    rw [show ts.map (gV fun x => x) = ts from by rw [List.map_congr_left (fun x _ => gV_id x)]; exact List.map_id _] at this
    exact this)
theorem labx_gh (gh : Gh) {K : KS} {ts : List XV} {h : List It} (hh : ghX gh h fun g h2 => gTsK g ts fun ts => LabX K ts h2) : LabX K ts h := by
  obtain ⟨g, h2, hg, hh⟩ := ghX_sound hh
  rw [gTsK_eq] at hh
  unfold LabX at hh ⊢
  exact fun w0 F a w hc => hh w0 F a w (cfg_ghs hg hc)
theorem labx_packs (it e z : Nat) {K : KS} {ts : List XV} {h : List It} {xs : List (List XC)} (hx : itemAt h it = .row e z xs) (hh : setH h it (.prow e z (xs.map StL) none) fun h => LabX K ts h) : LabX K ts h := by
  rw [setH_eq] at hh
  unfold LabX at hh ⊢
  exact fun w0 F a w hc => hh w0 F a w (by
    have := cfg_ghs (packs_sound (itemAt_eq _ _ hx (by simp))) hc
    rw [show ts.map (gV fun x => x) = ts from by rw [List.map_congr_left (fun x _ => gV_id x)]; exact List.map_id _] at this
    exact this)
end
end Go.Eng
