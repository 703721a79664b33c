/- The engine, part Rm: loops over a map. Nothing of any program is proved here. -/
import Derived.Test.YtehbalkhboedeaaEngW
import Derived.Test.YtehbalkhboedeaaEngP4
import Derived.Maps.RangeRun
namespace Go.Eng
open Go Go.RowKit
open Go.ChangeMaps (setBlock)
set_option linter.unusedSimpArgs false
set_option linter.unusedVariables false

theorem EsRel.stable {bs bs' : Base} (hbs : BsLe bs bs') {ag : Bool} {ks : List IntKind} {va : Bool} {vz : Nat} {val : List Int → List XC} : ∀ {l : List MapEntry} {dom : List (List Int)}, EsRel bs ag ks va vz val l dom → EsRel bs' ag ks va vz val l dom
  | [], [], _ => trivial
  | e :: l, k :: dom, ⟨⟨h1, h2, us, h3, h4, h5, h6⟩, h7⟩ => by
    refine ⟨⟨h1, h2, us, h3, h4, ?_, h6⟩, EsRel.stable hbs h7⟩
    have : ∀ {l : List XC} {vs : List Value}, (∀ x ∈ l, St x) → RelL ⟨bs, 0, fun _ => 0, fun _ => undef, fun _ _ => False⟩ l vs → RelL ⟨bs', 0, fun _ => 0, fun _ => undef, fun _ _ => False⟩ l vs := by
      intro l
      induction l with
      | nil => intro vs _ h; cases vs with | nil => trivial | cons _ _ => exact h.elim
      | cons x l ih =>
        intro vs hs h
        cases vs with
        | nil => exact h.elim
        | cons v vs => exact ⟨RelC.stable (E := ⟨bs, 0, fun _ => 0, fun _ => undef, fun _ _ => False⟩) (E' := ⟨bs', 0, fun _ => 0, fun _ => undef, fun _ _ => False⟩) (fun b hb => hbs b hb) x v (hs x (by simp)) h.1, ih (fun y hy => hs y (by simp [hy])) h.2⟩
    exact this h6 h5
  | [], _ :: _, h => h.elim
  | _ :: _, [], h => h.elim

/-- A map that a loop goes over: its block, the stamps of its entries, its clock. -/
def MapE (ag : Bool) (ks : List IntKind) (va : Bool) (vz : Nat) (dom : List (List Int)) (val : List Int → List XC) (b : Nat) (bl : List Nat) (ck : Nat) : Abs where
  is bs v S w := ∃ es : Array MapEntry, v = .map (some b) ∧ S b ∧ w.heap[b]? = some (.map es ck) ∧ EsRel bs ag ks va vz val es.toList dom ∧ dom.Nodup ∧ es.toList.Pairwise (fun x y => x.born < y.born) ∧ (∀ e ∈ es.toList, e.born < ck) ∧ es.toList.map (·.born) = bl
  one := by rintro bs v S w ⟨es, rfl, _⟩; rfl
  st := by
    rintro bs bs' v S w w' hbs hS ⟨es, rfl, hb, hw, hrel, hrest⟩
    exact ⟨es, rfl, hb, (hS b hb).trans hw, hrel.stable hbs, hrest⟩
theorem MapE.toA {ag : Bool} {ks : List IntKind} {va : Bool} {vz : Nat} {dom : List (List Int)} {val : List Int → List XC} {b : Nat} {bl : List Nat} {ck : Nat} {bs : Base} {v : Value} {S : Nat → Prop} {w : World} (h : (MapE ag ks va vz dom val b bl ck).is bs v S w) : (MapA ag ks va vz dom val).is bs v S w := by
  obtain ⟨es, h1, h2, h3, h4, h5, h6, h7, _⟩ := h
  exact ⟨b, es, ck, h1, h2, h3, h4, h5, h6, h7⟩

/-- The keys that are still to come. -/
def lfK (dom : List (List Int)) (bl : List Nat) (sn : Array Nat) : List (List Int) := ((dom.zip bl).filter fun p => !sn.contains p.2).map Prod.fst
theorem lfK_nil : ∀ {dom : List (List Int)} {bl : List Nat}, bl.length = dom.length → lfK dom bl #[] = dom
  | [], [], _ => rfl
  | d :: dom, c :: bl, h => by
    have := lfK_nil (dom := dom) (bl := bl) (by simpa using h)
    simp only [lfK] at *
    simpa using this
  | [], _ :: _, h => by simp at h
  | _ :: _, [], h => by simp at h
theorem lfK_cons {d : List Int} {dom : List (List Int)} {c : Nat} {bl : List Nat} {sn : Array Nat} : lfK (d :: dom) (c :: bl) sn = if sn.contains c = true then lfK dom bl sn else d :: lfK dom bl sn := by
  unfold lfK
  by_cases h : c ∈ sn <;> simp [h]
theorem lfK_sub : ∀ {dom : List (List Int)} {bl : List Nat} {sn : Array Nat} {q : List Int}, q ∈ lfK dom bl sn → q ∈ dom := by
  intro dom bl sn q h
  unfold lfK at h
  obtain ⟨p, hp, rfl⟩ := List.mem_map.1 h
  exact (List.of_mem_zip (List.mem_filter.1 hp).1).1
theorem lfK_push_not : ∀ {dom : List (List Int)} {bl : List Nat} {sn : Array Nat} {x : Nat}, x ∉ bl → lfK dom bl (sn.push x) = lfK dom bl sn := by
  intro dom bl sn x h
  unfold lfK
  congr 1
  apply List.filter_congr
  intro p hp
  have : p.2 ∈ bl := (List.of_mem_zip hp).2
  have hne : p.2 ≠ x := fun e => h (e ▸ this)
  simp [hne]
theorem lfK_push : ∀ {dom : List (List Int)} {bl : List Nat} {sn : Array Nat} {i : Nat} {q : List Int} {x : Nat}, dom.Nodup → bl.Nodup → dom[i]? = some q → bl[i]? = some x → lfK dom bl (sn.push x) = (lfK dom bl sn).erase q
  | [], _, _, _, _, _, _, _, h, _ => by simp at h
  | _ :: _, [], _, _, _, _, _, _, _, h => by simp at h
  | d :: dom, c :: bl, sn, 0, q, x, hd, hb, hq, hx => by
    simp only [List.getElem?_cons_zero, Option.some.injEq] at hq hx
    subst hq; subst hx
    have hd' := List.nodup_cons.1 hd
    have hb' := List.nodup_cons.1 hb
    rw [lfK_cons, lfK_cons, if_pos (by simp), lfK_push_not hb'.1]
    split
    · rw [List.erase_of_not_mem (fun h => hd'.1 (lfK_sub h))]
    · simp
  | d :: dom, c :: bl, sn, i + 1, q, x, hd, hb, hq, hx => by
    simp only [List.getElem?_cons_succ] at hq hx
    have hd' := List.nodup_cons.1 hd
    have hb' := List.nodup_cons.1 hb
    have hne : d ≠ q := fun e => hd'.1 (e ▸ List.mem_of_getElem? hq)
    have hnc : c ≠ x := fun e => hb'.1 (e ▸ List.mem_of_getElem? hx)
    have hc : (sn.push x).contains c = sn.contains c := by simp [hnc]
    rw [lfK_cons, lfK_cons, hc, lfK_push hd'.2 hb'.2 hq hx]
    split
    · rfl
    · rw [List.erase_cons_tail (by simpa using hne)]
theorem lfK_mem {dom : List (List Int)} {bl : List Nat} {sn : Array Nat} {i : Nat} {q : List Int} {x : Nat} (hq : dom[i]? = some q) (hx : bl[i]? = some x) (hn : sn.contains x = false) : q ∈ lfK dom bl sn := by
  unfold lfK
  refine List.mem_map.2 ⟨(q, x), List.mem_filter.2 ⟨?_, by simpa using hn⟩, rfl⟩
  refine List.mem_of_getElem? (i := i) ?_
  rw [List.getElem?_zip_eq_some]
  exact ⟨hq, hx⟩
theorem lfK_none {dom : List (List Int)} {bl : List Nat} {sn : Array Nat} (h : ∀ x ∈ bl, sn.contains x = true) : lfK dom bl sn = [] := by
  unfold lfK
  rw [List.map_eq_nil_iff, List.filter_eq_nil_iff]
  intro p hp
  simpa using h p.2 (List.of_mem_zip hp).2

/-- A loop over the map in block b: the keys still to come, and the key that came last. -/
def IterA (dom : List (List Int)) (b : Nat) (bl : List Nat) (ck : Nat) (todo : List (List Int)) (cur : Option (List Int)) : Abs where
  is bs v S w := ∃ r sn, v = .pointer (some ⟨r, 0, none⟩) ∧ S r ∧ w.heap[r]? = some (.mapIter (some b) ck sn ck) ∧ lfK dom bl sn = todo ∧ ∀ q, cur = some q → ∃ (i x : Nat) (sn' : Array Nat), dom[i]? = some q ∧ bl[i]? = some x ∧ sn = sn'.push x
  one := by rintro bs v S w ⟨r, sn, rfl, _⟩; rfl
  st := by
    rintro bs bs' v S w w' hbs hS ⟨r, sn, rfl, hr, hw, hrest⟩
    exact ⟨r, sn, rfl, hr, (hS r hr).trans hw, hrest⟩

/-- A key's cells. -/
def keyX (ks : List IntKind) (q : List Int) : List XC := List.zipWith XC.i ks q
theorem keyX_rel {E : Env} : ∀ (ks : List IntKind) (q : List Int), RelL E (keyX ks q) (keyCells ks q)
  | [], [] => trivial
  | k :: ks, n :: q => ⟨rfl, keyX_rel ks q⟩
  | [], _ :: _ => trivial
  | _ :: _, [] => trivial

section
variable {C : Cx} (hT : TabOk C.P C.T) {ts : List XV} {h : List It} {k : KE}
variable {ag : Bool} {ks : List IntKind} {va : Bool} {vz : Nat} {dom : List (List Int)} {val : List Int → List XC}
include hT in
/-- range m -/
theorem opx_range {dst : Option Tmp} {t ty : TypeId} {x : Operand} {pos : String} {after : Array Edge} {guard : Option (Nat × Bool)} {it : Nat} {ti : TI} {kt et : Nat}
    (hx : opv ts x = .c (.ow it)) (hit : itemAt h it = .abs (MapA ag ks va vz dom val)) (ht : C.T t = some ti) (hkd : ti.kd = .mp kt et)
    (hk : ∀ b bl ck, bl.length = dom.length → dom.Nodup → bl.Nodup → setH h it (.abs (MapE ag ks va vz dom val b bl ck)) fun h => lenK h fun n => snocH h (.abs (IterA dom b bl ck dom none)) fun h => k (.c (.ow n)) ts h) : OpX C ⟨dst, .range t x, ty, pos, after, guard⟩ ts h k := by
  unfold OpX
  refine And.intro (fun c e => Op.noConfusion e) ?_
  intro w0 F E w a hr hp
  have hxr := opv_rel hr x
  rw [hx] at hxr
  have hi := itemAt_eq _ _ hit (by simp)
  obtain ⟨b, es, clock, hv, hS, hw, hrel, hnd, hpw, hcl⟩ := hp.ok it _ hi
  have hu := mkKd_mp ((TIs.of (hT _ _ ht)).kd.symm.trans hkd)
  have hxv : a.eval x = .map (some b) := hxr.2.1.trans hv
  have hbl : (es.toList.map (·.born)).Nodup := by
    rw [List.nodup_iff_pairwise_ne]
    exact (List.pairwise_map.2 hpw).imp (fun h => Nat.ne_of_lt h)
  have hk := hk b (es.toList.map (·.born)) clock (by simp only [List.length_map]; exact EsRel.len hrel) hnd hbl
  rw [setH_eq, lenK_eq, snocH_eq] at hk
  have hrun := run_range_map w t kt et b es clock hu hw
  have hp1 : Heap w0 F E (h.set it (.abs (MapE ag ks va vz dom val b (es.toList.map (·.born)) clock))) w :=
    hp.putAbs hi ⟨es, hv, hS, hw, hrel, hnd, hpw, hcl, rfl⟩ rfl rfl rfl rfl (fun _ _ => rfl)
  let S : Nat → Prop := fun c => c = w.heap.size
  have hle := Env.push_le E 0 (.pointer (some ⟨w.heap.size, 0, none⟩)) S
  refine ⟨_, .pointer (some ⟨w.heap.size, 0, none⟩), w.alloc (.mapIter (some b) clock #[] clock), _, ts, _, E.push 0 (.pointer (some ⟨w.heap.size, 0, none⟩)) S, .inl rfl, ?_, hk, ?_, hr.mono hle, hp1.push (Fr.alloc w _) ?_ ?_⟩
  · simp [execOp, hxv, hrun]
  · have hn := hp1.n
    rw [List.length_set] at hn
    exact ⟨by simp [Env.push, hp.n], by simp [Env.push, hp.n], rfl⟩
  · refine ⟨w.heap.size, #[], by simp [Env.push], by simp [Env.push, S], heap_alloc_new w _, lfK_nil (by simp only [List.length_map]; exact EsRel.len hrel), fun q hq => by cases hq⟩
  · intro c hc
    have : c = w.heap.size := by simpa [Ow, Env.push, S] using hc
    subst this
    exact ⟨Nat.le_refl _, by simp⟩

theorem born_at {es : List MapEntry} {bl : List Nat} (hb : es.map (·.born) = bl) {i : Nat} {e : MapEntry} (he : es[i]? = some e) : bl[i]? = some e.born := by
  subst hb; rw [List.getElem?_map, he]; rfl

/-- The next entry, whichever. -/
theorem opx_next {dst : Option Tmp} {ty : TypeId} {x : Operand} {pos : String} {after : Array Edge} {guard : Option (Nat × Bool)} {it j b : Nat} {bl : List Nat} {ck : Nat} {todo : List (List Int)} {cur : Option (List Int)}
    (hx : opv ts x = .c (.ow j)) (hij : j ≠ it) (hit : itemAt h it = .abs (MapE ag ks va vz dom val b bl ck)) (hjt : itemAt h j = .abs (IterA dom b bl ck todo cur))
    (hk0 : todo = [] → k (.t [.c .bf]) ts h)
    (hk1 : ∀ q, q ∈ todo → q ∈ dom → q.length = ks.length → setH h j (.abs (IterA dom b bl ck (todo.erase q) (some q))) fun h => mkW ag (keyX ks q) fun kw => mkW va (val q) fun vw => k (.t [.c .bt, kw, vw]) ts h) : OpX C ⟨dst, .next x false, ty, pos, after, guard⟩ ts h k := by
  unfold OpX
  refine And.intro (fun c e => Op.noConfusion e) ?_
  intro w0 F E w a hr hp
  have hxr := opv_rel hr x
  rw [hx] at hxr
  have hi := itemAt_eq _ _ hit (by simp)
  have hj := itemAt_eq _ _ hjt (by simp)
  obtain ⟨es, hv, hS, hw, hrel, hnd, hpw, hcl, hbl⟩ := hp.ok it _ hi
  obtain ⟨r, sn, hvj, hSr, hwr, hlf, hcur⟩ := hp.ok j _ hj
  have hxv : a.eval x = .pointer (some ⟨r, 0, none⟩) := hxr.2.1.trans hvj
  have hbn : bl.Nodup := by
    rw [← hbl, List.nodup_iff_pairwise_ne]
    exact (List.pairwise_map.2 hpw).imp (fun h => Nat.ne_of_lt h)
  rcases run_next_at (P := C.P) w ty r b ck ck sn es ck hwr hw hcl (Nat.le_refl _) with ⟨h0, hrun⟩ | ⟨e, he, w1, hal, hrun⟩
  · refine ⟨_, .tuple #[.bool false], w, _, ts, h, E, .inl rfl, by simp [execOp, hxv, hrun], hk0 ?_, ⟨_, rfl, rfl, trivial⟩, hr, hp⟩
    rw [← hlf, ← hbl]
    refine lfK_none fun y hy => ?_
    obtain ⟨e, he, rfl⟩ := List.mem_map.1 hy
    exact all_seen es sn h0 e he
  · obtain ⟨hem, hes⟩ := mem_left he
    obtain ⟨i, hie⟩ := List.mem_iff_getElem?.1 hem
    have hil : i < dom.length := by rw [← EsRel.len hrel]; exact (List.getElem?_eq_some_iff.1 hie).1
    have hq : dom[i]? = some dom[i] := List.getElem?_eq_getElem hil
    have hbi := born_at hbl hie
    obtain ⟨hql, hkey, us, hul, hev, hur, hst⟩ := esrel_at i hrel hie hq
    have hmem : dom[i] ∈ todo := by rw [← hlf]; exact lfK_mem hq hbi hes
    have hk := hk1 dom[i] hmem (List.mem_of_getElem? hq) hql
    rw [setH_eq] at hk
    obtain ⟨kw, hk, hkr⟩ := mkW_sound (E := E) hk (keyX_rel ks dom[i])
    have hur' : RelL E (val dom[i]) us := RelL.ofSt (E := ⟨E.bs, 0, fun _ => 0, fun _ => undef, fun _ _ => False⟩) (E' := E) rfl hst hur
    obtain ⟨vw, hk, hvr⟩ := mkW_sound hk hur'
    have hw1 : w1.heap = w.heap ∧ w1.os = w.os ∧ w1.tape = w.tape ∧ w1.output = w.output := by rcases hal with rfl | rfl <;> exact ⟨rfl, rfl, rfl, rfl⟩
    have hrlt : r < w.heap.size := (Array.getElem?_eq_some_iff.1 hwr).1
    refine ⟨_, .tuple #[.bool true, e.key, e.val], setBlock w1 r (.mapIter (some b) ck (sn.push e.born) ck), _, ts, _, E, .inl rfl, by simp [execOp, hxv, hrun], hk, ⟨_, rfl, rfl, hkey ▸ hkr, hev ▸ hvr, trivial⟩, hr, ?_⟩
    refine hp.putAbs hj ⟨r, sn.push e.born, hvj, hSr, ?_, ?_, ?_⟩ ?_ hw1.2.1 hw1.2.2.1 hw1.2.2.2 (fun c hc => ?_)
    · simp [setBlock, hw1.1, hrlt]
    · rw [lfK_push hnd hbn hq hbi, hlf]
    · intro q hq'
      cases hq'
      exact ⟨i, e.born, sn, hq, hbi, rfl⟩
    · simp [setBlock, hw1.1]
    · have : r ≠ c := fun e => hc (e ▸ hSr)
      simp [setBlock, hw1.1, this]

/-- The entry that came last. -/
theorem opx_entry {dst : Option Tmp} {ty : TypeId} {x : Operand} {pos : String} {after : Array Edge} {guard : Option (Nat × Bool)} {it j b : Nat} {bl : List Nat} {ck : Nat} {todo : List (List Int)} {q : List Int}
    (hx : opv ts x = .c (.ow j)) (hit : itemAt h it = .abs (MapE ag ks va vz dom val b bl ck)) (hjt : itemAt h j = .abs (IterA dom b bl ck todo (some q)))
    (hk : mkW ag (keyX ks q) fun kw => mkW va (val q) fun vw => k (.t [kw, vw]) ts h) : OpX C ⟨dst, .entry x, ty, pos, after, guard⟩ ts h k := by
  unfold OpX
  refine And.intro (fun c e => Op.noConfusion e) ?_
  intro w0 F E w a hr hp
  have hxr := opv_rel hr x
  rw [hx] at hxr
  have hi := itemAt_eq _ _ hit (by simp)
  have hj := itemAt_eq _ _ hjt (by simp)
  obtain ⟨es, hv, hS, hw, hrel, hnd, hpw, hcl, hbl⟩ := hp.ok it _ hi
  obtain ⟨r, sn, hvj, hSr, hwr, hlf, hcur⟩ := hp.ok j _ hj
  obtain ⟨i, y, sn', hq, hy, rfl⟩ := hcur q rfl
  have hxv : a.eval x = .pointer (some ⟨r, 0, none⟩) := hxr.2.1.trans hvj
  have hil : i < es.toList.length := by rw [EsRel.len hrel]; exact (List.getElem?_eq_some_iff.1 hq).1
  have hie : es.toList[i]? = some es.toList[i] := List.getElem?_eq_getElem hil
  have hbi := born_at hbl hie
  rw [hy] at hbi
  cases hbi
  have hbn : (es.toList.map (·.born)).Nodup := by
    rw [List.nodup_iff_pairwise_ne]
    exact (List.pairwise_map.2 hpw).imp (fun h => Nat.ne_of_lt h)
  obtain ⟨hql, hkey, us, hul, hev, hur, hst⟩ := esrel_at i hrel hie hq
  have hrun := run_entry_at (P := C.P) w r b ck sn' es ck es.toList[i] hwr hw (List.getElem_mem hil) hbn
  obtain ⟨kw, hk, hkr⟩ := mkW_sound (E := E) hk (keyX_rel ks q)
  have hur' : RelL E (val q) us := RelL.ofSt (E := ⟨E.bs, 0, fun _ => 0, fun _ => undef, fun _ _ => False⟩) (E' := E) rfl hst hur
  obtain ⟨vw, hk, hvr⟩ := mkW_sound hk hur'
  exact ⟨_, .tuple #[es.toList[i].key, es.toList[i].val], w, _, ts, h, E, .inl rfl, by simp [execOp, hxv, hrun], hk, ⟨_, rfl, hkey ▸ hkr, hev ▸ hvr, trivial⟩, hr, hp⟩
end
end Go.Eng
