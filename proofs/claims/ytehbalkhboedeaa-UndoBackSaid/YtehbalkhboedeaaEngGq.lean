/- The engine, part Gq: a map's keys, sorted, as the library does it. Nothing of any program is proved here. -/
import Derived.Test.YtehbalkhboedeaaEngGi
import Derived.Test.YtehbalkhboedeaaEngW
import Derived.Shelf.SlIterI.Nil
namespace Go.Eng
open Go Go.RowKit Go.Sort Go.Proofs Go.Maps
open Go.WideElems (Fit rd rg pl rd_val elemAt)
set_option linter.unusedSimpArgs false
set_option linter.unusedVariables false
abbrev trueR : Value → Option (DataW Unit × List MemPlace) := fun _ => some (.lit (.bool true), [])
theorem esrel_keys {bs : Base} {va : Bool} {vz : Nat} {val : List Int → List XC} : ∀ {es : List MapEntry} {dom : List (List Int)}, EsRel bs false [.i64] va vz val es dom → es.map (·.key) = dom.map fun k => Value.int .i64 (k.headD 0)
  | [], [], _ => rfl
  | [], _ :: _, h => h.elim
  | _ :: _, [], h => h.elim
  | e :: es, k :: dom, h => by
    obtain ⟨⟨h1, h2, _⟩, h3⟩ := h
    have : ∃ a, k = [a] := by
      match k, h1 with
      | [a], _ => exact ⟨a, rfl⟩
    obtain ⟨a, rfl⟩ := this
    rw [List.map_cons, List.map_cons, esrel_keys h3, h2]
    rfl
theorem esrel_dom {bs : Base} {va : Bool} {vz : Nat} {val : List Int → List XC} : ∀ {es : List MapEntry} {dom : List (List Int)}, EsRel bs false [.i64] va vz val es dom → ∀ k ∈ dom, ∃ a, k = [a]
  | [], [], _ => by simp
  | [], _ :: _, h => h.elim
  | _ :: _, [], h => h.elim
  | e :: es, k :: dom, h => by
    obtain ⟨⟨h1, h2, _⟩, h3⟩ := h
    intro q hq
    rcases List.mem_cons.1 hq with rfl | hq
    · match q, h1 with
      | [a], _ => exact ⟨a, rfl⟩
    · exact esrel_dom h3 q hq
theorem mapA_owns {P : Program} {kt : TypeId} (hk : P.underlying kt = some (.int .i64)) {es : Array MapEntry} {clock b : Nat} {w : World} {bs : Base} {va : Bool} {vz : Nat} {val : List Int → List XC} {dom : List (List Int)}
    (hw : w.heap[b]? = some (.map es clock)) (hrel : EsRel bs false [.i64] va vz val es.toList dom) (hnd : dom.Nodup) (hborn : es.toList.Pairwise fun x y => x.born < y.born) (hcl : ∀ e ∈ es.toList, e.born < clock)
    (hdl : dom.length ≤ 1000000) (hwf : ∀ k ∈ dom, (Lit.int .i64 (k.headD 0)).wf = true) :
    ∃ D : DataW Unit, w.ownsMap P kt trueR b es.size D ∧ (intKeys D).Perm (dom.map fun k => k.headD 0) ∧ Maps.size D = dom.length := by
  have hke := esrel_keys hrel
  have hlen : es.size = dom.length := by
    have := congrArg List.length hke
    simpa using this
  have hrd : ∀ x ∈ es.toList, ∃ a, (Lit.int .i64 a).wf = true ∧ x.key = .int .i64 a ∧ rg P kt trueR x = (.int .i64 a, .lit (.bool true)) ∧ ∃ y, rd P kt trueR x = some y := by
    intro x hx
    have : x.key ∈ es.toList.map (·.key) := List.mem_map.2 ⟨x, hx, rfl⟩
    rw [hke] at this
    obtain ⟨k, hkd, e⟩ := List.mem_map.1 this
    have hw := hwf k hkd
    have hr : rd P kt trueR x = some (.int .i64 (k.headD 0), .lit (.bool true)) := by
      simp only [rd, ← e, keyOf_int_mk hk hw, Option.bind_some, Option.map_some]
    exact ⟨k.headD 0, hw, e.symm, by rw [rg, hr]; rfl, _, hr⟩
  have hknd : (es.toList.map (·.key)).Nodup := by
    rw [hke]
    refine List.pairwise_map.2 (hnd.imp_of_mem fun {p q} hp hq hne e => hne ?_)
    obtain ⟨a, rfl⟩ := esrel_dom hrel p hp
    obtain ⟨c, rfl⟩ := esrel_dom hrel q hq
    simpa using e
  refine ⟨_, ⟨es, clock, hw, ⟨by rw [hlen]; simp only [maxLen]; omega, ⟨hcl, ?_, hknd⟩, fun x hx => (hrd x hx).elim fun a h => h.2.2.2⟩, Nat.le_refl _, rfl⟩, ?_, ?_⟩
  · exact List.pairwise_map.2 (hborn.imp fun h => Nat.ne_of_lt h)
  · have h1 : (intKeys (.map ((es.toList.map (rg P kt trueR)).foldr DataW.insert []) : DataW Unit)).Perm ((es.toList.map (rg P kt trueR)).map fun p => intOf p.1) := (WideShapes.sorted_perm _).map _
    refine h1.trans (.of_eq ?_)
    have h2 : (es.toList.map (·.key)).map (fun v => match v with | .int _ a => a | _ => 0) = (dom.map fun k => Value.int .i64 (k.headD 0)).map (fun v => match v with | .int _ a => a | _ => 0) := by rw [hke]
    rw [List.map_map, List.map_map] at h2
    rw [List.map_map]
    refine Eq.trans (List.map_congr_left fun x hx => ?_) h2
    obtain ⟨a, _, h3, h4, _⟩ := hrd x hx
    show intOf (rg P kt trueR x).1 = _
    simp only [Function.comp_apply]
    rw [h4, h3]
    rfl
  · rw [Maps.size_eq]
    have := (WideShapes.sorted_perm (es.toList.map (rg P kt trueR))).length_eq
    rw [this, List.length_map, Array.length_toList, hlen]
theorem keysSorted_m {P : Program} {f g : FuncId} {e kt bt : TypeId} (hok : FnOk P f) (hk : P.underlying kt = some (.int .i64))
    (hcon : ∀ (bx b : Nat) (w : World) (D : DataW Unit) (nn : Nat), bx < w.heap.size → w.cell? ⟨bx, 0, none⟩ = some (.map (some b)) → w.ownsMap P kt trueR b nn D → Maps.size D ≤ 1000000 →
      Calls P f #[.func (.func g) #[] #[.pointer (some ⟨bx, 0, none⟩)]] w fun r w' => ∃ (v : Value) (ss : List Int), r = .returned v ∧ ss.Perm (intKeys D) ∧ w'.ownsRow w.heap.size e 1 v ss.length ((ss.mergeSort (fun x y => decide (x ≤ y))).map (Value.int .i64)) ∧ (v = .slice none 0 0 ↔ ss = []) ∧ Below w.heap.size w w')
    {va : Bool} {vz : Nat} {val : List Int → List XC} {dom : List (List Int)} (hdl : dom.length ≤ 1000000) (hwf : ∀ k ∈ dom, (Lit.int .i64 (k.headD 0)).wf = true) (fx : List XC) :
    FnM P f [.c (.fn g 1 (nthC [.p 1 0]))] [.abs (MapA false [.i64] va vz dom val), .cells bt [.ow 0]] fx (.c (.ow 2)) [.abs (MapA false [.i64] va vz dom val), .cells bt [.ow 0], rowI e (sortL (dom.map fun k => k.headD 0))] := by
  refine ⟨hok, fun w0 F E w us vs hp hr hfx => ?_⟩
  have hn1 : E.n = 2 := hp.n
  obtain ⟨b, es, clock, hsl, hS, hw, hrel, hnd, hborn, hcl⟩ := hp.ok 0 _ rfl
  obtain ⟨cs, hbx, hcs⟩ := hp.ok 1 _ rfl
  obtain ⟨D, hown, hperm, hsize⟩ := mapA_owns (P := P) hk hw hrel hnd hborn hcl hdl hwf
  match us, hr with
  | [fv], ⟨hfv, _⟩ =>
  obtain ⟨caps, hfv, hcsz, hcaps⟩ := hfv
  obtain ⟨u, hu, hp0⟩ := hcaps 0 (by omega)
  have hu0 : u = .pointer (some ⟨E.blk 1, 0, none⟩) := hp0.2
  subst hu0
  have hcv : caps = #[.pointer (some ⟨E.blk 1, 0, none⟩)] := by
    refine Array.ext (by simpa using hcsz) fun i h1 h2 => ?_
    obtain rfl : i = 0 := by simp at h2; omega
    have := Array.getElem?_eq_some_iff.1 hu
    simpa using this.2
  subst hcv
  subst hfv
  have hbl : E.blk 1 < w.heap.size := (Array.getElem?_eq_some_iff.1 hbx).1
  have hcell : w.cell? ⟨E.blk 1, 0, none⟩ = some (.map (some b)) := by
    match hcl2 : cs.toList, hcs with
    | [v], ⟨hv, _⟩ =>
      have hv : v = E.sl 0 := hv.2.1
      have hcs' : cs = #[v] := by rw [← Array.toArray_toList (xs := cs), hcl2]
      simp [World.cell?, hbx, hcs', hv, hsl]
  refine (hcon (E.blk 1) b w D _ hbl hcell hown (by omega)).mono fun r w' ⟨v', ss, he, hpm, ho, hnil, hb⟩ => ?_
  subst he
  have hsl2 : ss.mergeSort (fun x y => decide (x ≤ y)) = sortL (dom.map fun k => k.headD 0) := mergeSort_of_perm_i (hpm.trans hperm)
  have hssl : ss.length = (sortL (dom.map fun k => k.headD 0)).length := by rw [← hsl2]; simp
  rw [hsl2, hssl] at ho
  refine ⟨v', E.push 0 v', rfl, ?_, ?_, hfx.mono (Env.push_le _ _ _)⟩
  · have hs : (E.push 0 v').sl E.n = v' := by simp [Env.push]
    refine hp.push (x := rowI e (sortL (dom.map fun k => k.headD 0))) ⟨hb.os, hb.tape, hb.output, hb.size, fun k hk _ => hb.block k hk⟩ ⟨(sortL (dom.map fun k => k.headD 0)).map (Value.int .i64), ?_, relI' _, fun l hl => ?_, stI _⟩ (fun c hc => ?_)
    · rw [List.length_map, hs]
      refine ⟨ho.1, ?_⟩
      rcases ho.2 with h | ⟨g, cap, cur, h1, _, h2⟩
      · exact .inl h
      · exact .inr ⟨g, cap, cur, h1, Nat.zero_le _, h2⟩
    · obtain ⟨m, _, rfl⟩ := List.mem_map.1 hl
      rfl
    · have hc : ((E.push 0 v').sl E.n).ownBlock = some c := hc
      rw [hs] at hc
      exact ho.lt c hc
  · refine ⟨by simp [Env.push, hn1], by simp [Env.push, hn1], ?_⟩
    rcases ho.2 with ⟨h, _⟩ | ⟨g, cap, cur, h, _⟩ <;> rw [h] <;> rfl
end Go.Eng
