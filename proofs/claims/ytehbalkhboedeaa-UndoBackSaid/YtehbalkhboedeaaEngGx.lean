/- The engine, part Gx: m[k] = v of whole numbers inside a drawn statement. Nothing of any program is proved here. -/
import Derived.Test.YtehbalkhboedeaaEngW
import Derived.Test.YtehbalkhboedeaaEngP4
namespace Go.Eng
open Go Go.RowKit
set_option linter.unusedSimpArgs false
set_option linter.unusedVariables false
section
variable {C : Cx} (hT : TabOk C.P C.T) {ts : List XV} {h : List It} {k : KE}
include hT in
theorem updA_run {dst : Option Tmp} {t : TypeId} {x y z : Operand} {ty : TypeId} {pos : String} {after : Array Edge} {guard : Option (Nat × Bool)} {it : Nat} {ag : Bool} {ks : List IntKind} {va : Bool} {vz : Nat} {dom : List (List Int)} {val : List Int → List XC} {q : List Int} {kt et : TypeId} {ei : TI} {l : List XC}
    (hx : opv ts x = .c (.ow it)) (hit : itemAt h it = .abs (MapA ag ks va vz dom val)) (hy : kx (opv ts y) = some (ks, q)) (hya : isA (opv ts y) = ag) (ht : fitMp C.T t ks.length ag = some (kt, et, ei)) (hva : isA (opv ts z) = va) (hvz : l.length = vz)
    (hz : cells (opv ts z) = some l) (hst : allSt l = true)
    {w0 : Org} {F : Nat → Prop} {E : Env} {w : World} {a : Act} (hr : RelTs E ts a.tmps.toList) (hp : Heap w0 F E h w) :
    ∃ w', (execOp a.eval ⟨dst, .mapUpdate t x y z, ty, pos, after, guard⟩).run C.P w = .ok .skip w' ∧ Heap w0 F E (h.set it (.abs (MapA ag ks va vz (insD dom q) (updV val q l)))) w' ∧
      w'.heap.size = w.heap.size ∧ ∀ b, ¬ E.ext it b → w'.heap[b]? = w.heap[b]? := by
  have hxr := opv_rel hr x
  have hyr := opv_rel hr y
  have hzr := opv_rel hr z
  rw [hx] at hxr
  have hi := itemAt_eq _ _ hit (by simp)
  obtain ⟨b, es, clock, hv, hS, hw, hrel, hnd, hpw, hcl⟩ := hp.ok it _ hi
  obtain ⟨hkey, hlen⟩ := kx_rel hy hyr
  rw [hya] at hkey
  obtain ⟨hu, K, hei⟩ := fitMp_spec hT ht
  have hxv : a.eval x = .map (some b) := hxr.2.1.trans hv
  have hobj : (getObj b).run C.P w = .ok (.map es clock) w := by simp [getObj, Sem.run, hw]
  have hset : ∀ o : Obj, (setObj b o).run C.P w = .ok () { w with heap := w.heap.setIfInBounds b o } := fun o => by simp [setObj, Sem.run, hw]
  have hblt : b < w.heap.size := (Array.getElem?_eq_some_iff.1 hw).1
  have hzc := cells_rel hz hzr
  have hzv : a.eval z = mkVal va (a.eval z).cells.toList := by
    cases hzz : opv ts z with
    | un => rw [hzz] at hz; simp [cells] at hz
    | t _ => rw [hzz] at hz; simp [cells] at hz
    | c c =>
      rw [hzz] at hva hzr
      have h1 := RelC.one (E := E) hzr
      subst hva
      generalize a.eval z = u at h1
      cases u <;> simp [isA, mkVal, Value.cells] <;> simp [Value.oneCell'] at h1
    | a m =>
      rw [hzz] at hva hzr
      obtain ⟨vs, hvs, _⟩ := hzr
      subst hva
      rw [hvs]; simp [isA, mkVal, Value.cells]
  have hlz : (a.eval z).cells.toList.length = vz := by rw [← hzc.len]; exact hvz
  have hag : ag = false → ks.length = 1 := by
    intro e; subst e
    cases hyy : opv ts y with
    | un => rw [hyy] at hy; simp [kx] at hy
    | t _ => rw [hyy] at hy; simp [kx] at hy
    | a _ => rw [hyy] at hya; simp [isA] at hya
    | c c =>
      rw [hyy] at hy; simp only [kx] at hy
      split at hy
      · cases hy; rfl
      · cases hy
  have hentry : q.length = ks.length ∧ (mkVal ag (keyCells ks q)) = mkVal ag (keyCells ks q) ∧ ∃ us, us.length = vz ∧ a.eval z = mkVal va us ∧ RelL ⟨E.bs, 0, fun _ => 0, fun _ => undef, fun _ _ => False⟩ (updV val q l q) us ∧ ∀ x ∈ updV val q l q, St x := by
    refine ⟨hlen, rfl, _, hlz, hzv, ?_, ?_⟩
    · simp only [updV, if_pos]; exact RelL.ofSt (E := E) (E' := ⟨E.bs, 0, fun _ => 0, fun _ => undef, fun _ _ => False⟩) rfl (allSt_iff hst) hzc
    · simp only [updV, if_pos]; exact allSt_iff hst
  have finish : ∀ (es' : Array MapEntry) (clock' : Nat), EsRel E.bs ag ks va vz (updV val q l) es'.toList (insD dom q) → (insD dom q).Nodup → es'.toList.Pairwise (fun x y => x.born < y.born) → (∀ e ∈ es'.toList, e.born < clock') →
      Heap w0 F E (h.set it (.abs (MapA ag ks va vz (insD dom q) (updV val q l)))) { w with heap := w.heap.setIfInBounds b (.map es' clock') } := fun es' clock' h1 h2 h3 h4 =>
    hp.putAbs hi ⟨b, es', clock', hv, hS, by simp [hblt], h1, h2, h3, h4⟩ (by simp) rfl rfl rfl (fun k hk => by
      have : b ≠ k := fun e => hk (e ▸ hS)
      simp [this])
  have sz : ∀ o : Obj, ({ w with heap := w.heap.setIfInBounds b o } : World).heap.size = w.heap.size := fun o => by simp
  have keep : ∀ (o : Obj) (c : Nat), ¬ E.ext it c → ({ w with heap := w.heap.setIfInBounds b o } : World).heap[c]? = w.heap[c]? := fun o c hc => by
    have : b ≠ c := fun e => hc (e ▸ hS)
    simp [this]
  rcases find_key (w := w) K hlen hrel with ⟨h1, h2⟩ | ⟨j, e, h1, h2, h3⟩
  · have hins : insD dom q = dom ++ [q] := by simp [insD, h1]
    refine ⟨_, ?_, finish (es.push { key := mkVal ag (keyCells ks q), val := a.eval z, born := clock }) (clock + 1) ?_ ?_ ?_ ?_, sz _, keep _⟩
    · simp [execOp, Instr.mapUpdate, run_underlying hu, hxv, hobj, hkey, check_key K hlen, h2, hset]
    · rw [hins, Array.toList_push]
      exact esrel_push (hrel.mono fun k hk => by simp only [updV]; rw [if_neg (fun (e : k = q) => h1 (e ▸ hk))]) hentry
    · rw [hins]; exact nodup_snoc hnd h1
    · rw [Array.toList_push, List.pairwise_append]
      exact ⟨hpw, by simp, fun x hx y hy => by simp at hy; subst hy; exact hcl x hx⟩
    · intro e he
      rw [Array.toList_push] at he
      rcases List.mem_append.1 he with he | he
      · exact Nat.lt_succ_of_lt (hcl e he)
      · simp at he; subst he; exact Nat.lt_succ_self _
  · have hmem : q ∈ dom := List.mem_of_getElem? h2
    have hins : insD dom q = dom := by simp [insD, hmem]
    obtain ⟨_, hekey, _⟩ := esrel_at j hrel h1 h2
    have hej : es[j]? = some e := by simpa using h1
    have hjlt : j < es.size := (Array.getElem?_eq_some_iff.1 hej).1
    have hmod : es.modify j (fun e' => { e' with key := mkVal ag (keyCells ks q), val := a.eval z }) = es.setIfInBounds j { e with key := mkVal ag (keyCells ks q), val := a.eval z } := by
      apply Array.ext_getElem?
      intro i
      rw [Array.getElem?_modify, Array.getElem?_setIfInBounds]
      split
      · rename_i e1; subst e1; have hget := (Array.getElem?_eq_some_iff.1 hej).2; simp [hej, hjlt, hget]
      · rfl
    refine ⟨_, ?_, finish (es.setIfInBounds j { e with key := mkVal ag (keyCells ks q), val := a.eval z }) clock ?_ ?_ ?_ ?_, sz _, keep _⟩
    · simp [execOp, Instr.mapUpdate, run_underlying hu, hxv, hobj, hkey, check_key K hlen, h3, hset, hej, hekey, stays_key hlen hag, hmod]
    · rw [hins, Array.toList_setIfInBounds]
      exact esrel_upd j hrel hnd h2 hentry
    · rw [hins]; exact hnd
    · rw [Array.toList_setIfInBounds]
      have := born_set (e' := { e with key := mkVal ag (keyCells ks q), val := a.eval z }) h1 rfl
      rw [← List.pairwise_map (f := MapEntry.born) (R := (· < ·)), this, List.pairwise_map]; exact hpw
    · intro e' he
      rw [Array.toList_setIfInBounds] at he
      have := born_set (e' := { e with key := mkVal ag (keyCells ks q), val := a.eval z }) h1 rfl
      have hm : e'.born ∈ (es.toList.set j { e with key := mkVal ag (keyCells ks q), val := a.eval z }).map MapEntry.born := List.mem_map_of_mem he
      rw [this] at hm
      obtain ⟨e2, h4, h5⟩ := List.mem_map.1 hm
      rw [← h5]; exact hcl e2 h4


include hT in
theorem opf_updA {dst : Option Tmp} {t : TypeId} {x y z : Operand} {ty : TypeId} {pos : String} {after : Array Edge} {guard : Option (Nat × Bool)} {it : Nat} {ag : Bool} {ks : List IntKind} {va : Bool} {vz : Nat} {dom : List (List Int)} {val : List Int → List XC} {q : List Int} {kt et : TypeId} {ei : TI} {l : List XC}
    (hx : opv ts x = .c (.ow it)) (hit : itemAt h it = .abs (MapA ag ks va vz dom val)) (hy : kx (opv ts y) = some (ks, q)) (hya : isA (opv ts y) = ag) (ht : fitMp C.T t ks.length ag = some (kt, et, ei)) (hva : isA (opv ts z) = va) (hvz : l.length = vz)
    (hz : cells (opv ts z) = some l) (hst : allSt l = true) {rd : Nat → Bool} (hrd : rd it = false) (hk : setH h it (.abs (MapA ag ks va vz (insD dom q) (updV val q l))) fun h => k .un ts h) : OpFX C ⟨dst, .mapUpdate t x y z, ty, pos, after, guard⟩ ts h rd k := by
  rw [setH_eq] at hk
  unfold OpFX
  intro w0 F E w a hr hp
  obtain ⟨w', hrun, hp2, hsz, hkeep⟩ := updA_run hT (dst := dst) (pos := pos) (after := after) (guard := guard) (ty := ty) hx hit hy hya ht hva hvz hz hst hr hp
  have hi := itemAt_eq _ _ hit (by simp)
  exact ⟨some it, fun j e => by cases e; exact hrd, .skip, undef, w', .un, ts, _, E, .inr ⟨rfl, rfl⟩, hrun, hk, trivial, hr, hp2, ⟨by omega, fun b hb hno => hkeep b (fun e => hno it _ rfl hi e)⟩, After.set hi rfl⟩
end
end Go.Eng
