/- The engine, part Sf: the library's sort by a function, the comparison by contract. Nothing of any program is proved here. -/
import Derived.Test.YtehbalkhboedeaaEngMo
import Derived.Test.YtehbalkhboedeaaEngP4
import Derived.Test.YtehbalkhboedeaaEngGi
import Derived.Shelf.SlSortCmp.WholeK
import Derived.Shelf.SlSortCmp.NoneTotal
namespace Go.Eng
open Go Go.RowKit Go.Sort Go.Shelf Go.Lib Go.Proofs
set_option linter.unusedSimpArgs false
set_option linter.unusedVariables false
set_option maxRecDepth 100000

/-- The value of a cell that has but one. -/
def valC : XC → Value
  | .il k n => .int k n
  | .i k n => .int k n
  | .bt => .bool true
  | .bf => .bool false
  | .b x => .bool x
  | .v x => x
  | _ => undef
def detC : XC → Bool
  | .il _ _ | .i _ _ | .bt | .bf | .b _ => true
  | .v x => x.oneCell'
  | _ => false
theorem detC_rel {E : Env} {x : XC} {v : Value} (h : detC x = true) : RelC E x v ↔ v = valC x := by
  cases x <;> simp [detC] at h <;> simp [RelC, valC, h]
theorem detC_st {x : XC} (h : detC x = true) : St x := by
  cases x <;> simp [detC] at h <;> trivial
theorem detC_one {x : XC} (h : detC x = true) : (valC x).oneCell' = true := by
  cases x <;> simp [detC] at h <;> first | exact h | rfl
theorem detL_rel {E : Env} : ∀ {l : List XC} {vs : List Value}, (∀ x ∈ l, detC x = true) → (RelL E l vs ↔ vs = l.map valC)
  | [], [], _ => by simp [RelL]
  | x :: l, v :: vs, h => by
    have h1 := detC_rel (E := E) (v := v) (h x (by simp))
    have h2 := detL_rel (E := E) (l := l) (vs := vs) (fun y hy => h y (by simp [hy]))
    simp [RelL, h1, h2]
  | [], _ :: _, _ => by simp [RelL]
  | _ :: _, [], _ => by simp [RelL]

/-- A function that tells a number, as the library's sorts ask for it. -/
theorem cmp_of_fn {P : Program} {g : FuncId} {x y : List XC} {n : Int} (hf : Fn P g [.a x, .a y] (Tells (.c (.i .i64 n)))) (hx : ∀ c ∈ x, detC c = true) (hy : ∀ c ∈ y, detC c = true) (W : World) :
    Calls P g #[.agg (x.map valC).toArray, .agg (y.map valC).toArray] W fun e w' => e = .returned (.int .i64 n) ∧ ∃ q os', w' = grow (W.drewN q) os' := by
  have h1 := hf.run ⟨W, fun _ => False⟩ W [.agg (x.map valC).toArray, .agg (y.map valC).toArray] (fun _ h => h.elim) ⟨⟨_, rfl, by rw [detL_rel hx]⟩, ⟨_, rfl, by rw [detL_rel hy]⟩, trivial⟩
  refine (calls_up h1 (fun e w' ⟨u, x, h', E', he, _⟩ => by rw [he]; exact fun h => by cases h)).mono fun e w' ⟨⟨u, x, h', E', he, hR, hr, hp⟩, hd⟩ => ?_
  have hu : u = .int .i64 n := entV_rel hR hr
  refine ⟨by rw [he, hu], w'.drawn - W.drawn, w'.heap.extract W.heap.size w'.heap.size, ?_⟩
  have hfr := hp.fr
  have hsz : W.heap.size ≤ w'.heap.size := hfr.size
  have hheap : w'.heap = W.heap ++ w'.heap.extract W.heap.size w'.heap.size := by
    apply Array.ext_getElem?
    intro i
    by_cases hi : i < W.heap.size
    · rw [Array.getElem?_append_left hi]
      exact hfr.block i hi (fun x => x)
    · rw [Array.getElem?_append_right (by omega), Array.getElem?_extract]
      by_cases hi2 : i < w'.heap.size
      · rw [if_pos (by omega)]; congr 1; omega
      · rw [if_neg (by omega), Array.getElem?_eq_none (by omega)]
  obtain ⟨hp', tape, drawn, os, output⟩ := w'
  simp only at hd hheap
  have e1 : tape = W.tape := hfr.tape
  have e2 : os = W.os := hfr.os
  have e3 : output = W.output := hfr.output
  have e4 : W.drawn + (drawn - W.drawn) = drawn := by omega
  simp only [grow, World.drewN, e4, e1, e2, e3, ← hheap]

section
variable {α : Type} {z : Nat} {enc : α → List XC}
abbrev encVs (enc : α → List XC) (x : α) : List Value := (enc x).map valC
theorem relK (hdet : ∀ x, ∀ c ∈ enc x, detC c = true) {E : Env} (l : List α) (ys : List Value) : RelL E (l.map enc).flatten ys ↔ ys = (l.map (encVs enc)).flatten := by
  rw [detL_rel]
  · rw [List.map_flatten, List.map_map]; rfl
  · intro c hc
    obtain ⟨m, hm, hc⟩ := List.mem_flatten.1 hc
    obtain ⟨x, _, rfl⟩ := List.mem_map.1 hm
    exact hdet x c hc
theorem stK (hdet : ∀ x, ∀ c ∈ enc x, detC c = true) (l : List α) : ∀ x ∈ (l.map enc).flatten, St x := by
  intro c hc
  obtain ⟨m, hm, hc⟩ := List.mem_flatten.1 hc
  obtain ⟨x, _, rfl⟩ := List.mem_map.1 hm
  exact detC_st (hdet x c hc)
theorem lenVs (hz : ∀ x, (enc x).length = z) (l : List α) : (l.map (encVs enc)).flatten.length = l.length * z := by
  induction l with
  | nil => simp
  | cons x l ih => simp only [List.map_cons, List.flatten_cons, List.length_append, ih, List.length_cons, List.length_map, hz]; rw [Nat.succ_mul, Nat.add_comm]
theorem flatVs [Inhabited α] (hz : ∀ x, (enc x).length = z) (l : List α) : (flatK (encVs enc) z l.toArray).toList = (l.map (encVs enc)).flatten := by
  have key : ∀ n, n ≤ l.length → ((List.range (n * z)).map fun t => (encVs enc l.toArray[t / z]!)[t % z]!) = ((l.take n).map (encVs enc)).flatten := by
    intro n
    induction n with
    | zero => intro _; simp
    | succ n ih =>
      intro h
      have hlt : n < l.length := by omega
      rw [Nat.succ_mul, List.range_add, List.map_append, ih (by omega), List.take_succ_eq_append_getElem hlt, List.map_append, List.flatten_append]
      congr 1
      simp only [List.map_cons, List.map_nil, List.flatten_cons, List.flatten_nil, List.append_nil]
      apply List.ext_getElem?
      intro j
      rw [List.getElem?_map, List.getElem?_map]
      by_cases hj : j < z
      · rw [List.getElem?_range hj]
        have e1 : (n * z + j) / z = n := by rw [Nat.mul_comm, Nat.mul_add_div (by omega), Nat.div_eq_of_lt hj, Nat.add_zero]
        have e2 : (n * z + j) % z = j := by rw [Nat.mul_comm, Nat.mul_add_mod, Nat.mod_eq_of_lt hj]
        have e3 : l.toArray[n]! = l[n] := by simp [hlt]
        have hjl : j < (encVs enc l[n]).length := by rw [List.length_map, hz]; exact hj
        simp only [Option.map_some, e1, e2, e3]
        rw [getElem!_pos (encVs enc l[n]) j hjl, ← List.getElem?_eq_getElem hjl]
      · rw [List.getElem?_eq_none (by simp; omega), List.getElem?_eq_none (by simp [hz]; omega)]; rfl
  have := key l.length (Nat.le_refl _)
  rw [List.take_length] at this
  rw [← this]
  simp [flatK]
theorem heap_sortedK {w : World} {g n : Nat} {os : Array Obj} {cur : Array Value} {e : TypeId} {fr : Nat × Nat} (d : Array Value) (hb : w.heap[g]? = some (.cells cur e fr)) :
    (grow (putRow id (Sort.ahead w n) g 0 d) os).heap[g]? = some (.cells (putCells id 0 d cur) e fr) := by
  have hg : g < w.heap.size := (Array.getElem?_eq_some_iff.1 hb).1
  rw [heap_grow_old _ _ (by simpa using hg)]
  simp [putRow, mapBlock, Sort.ahead, Array.getElem?_modify, hb, onCells]
theorem grownBy_sortedK {w : World} {g n : Nat} {os : Array Obj} (d : Array Value) : w.grownBy (grow (putRow id (Sort.ahead w n) g 0 d) os) (some g) := by
  refine ⟨rfl, rfl, rfl, by simp, fun k hk hne => ?_⟩
  rw [heap_grow_old _ _ (by simpa using hk)]
  have : g ≠ k := fun e => hne (by rw [e])
  simp [putRow, mapBlock, Sort.ahead, Array.getElem?_modify, this]
theorem take_putCellsK (cur : Array Value) (ts : List Value) (h : ts.length ≤ cur.size) : (putCells id 0 ts.toArray cur).toList.take ts.length = ts := by
  apply List.ext_getElem?
  intro j
  by_cases hj : j < ts.length
  · rw [List.getElem?_take_of_lt hj, Array.getElem?_toList]
    simp [putCells, hj, show j < cur.size by omega]
  · rw [List.getElem?_take_eq_none (by omega), List.getElem?_eq_none (by omega)]
/-- A row of its own, sorted by a function. -/
theorem sortK_m [Inhabited α] {P : Program} {f : FuncId} {e : TypeId} (g : Nat) (hok : FnOk P f) (hz : ∀ x, (enc x).length = z) (hdet : ∀ x, ∀ c ∈ enc x, detC c = true) (srt : List α → List α) (hperm : ∀ l, (srt l).length = l.length)
    (h1 : ∀ (blk cap : Nat) (l : List α) (w : World), HoldsK (encVs enc) z w blk 0 l.toArray → blk < w.heap.size → l.length < 4611686018427387904 → Calls P f #[.slice (some ⟨blk, 0, none⟩) l.length cap, .func (.func g) #[] #[]] w fun e w' => e = .returned (.tuple #[]) ∧ ∃ n os, w' = sortWorldK (encVs enc) z w blk 0 n (srt l).toArray os)
    (h0 : ∀ (p : Option Addr) (cap : Nat) (w : World), Calls P f #[.slice p 0 cap, .func (.func g) #[] #[]] w fun e w' => e = .returned (.tuple #[]) ∧ w' = w)
    (l : List α) (hl : l.length < 4611686018427387904) (fx : List XC) : FnM P f [.c (.ow 0), .c (.v (.func (.func g) #[] #[]))] [.row e z (l.map enc)] fx (.t []) [.row e z ((srt l).map enc)] := by
  refine ⟨hok, fun w0 F E w us vs hp hr hfx => ?_⟩
  obtain ⟨ys, hown, hrel, hlen, hst⟩ := hp.ok 0 _ rfl
  rw [relK hdet] at hrel
  subst hrel
  match us, hr with
  | [v, fv], ⟨hv, hfv, _⟩ =>
  have hfv : fv = .func (.func g) #[] #[] := hfv.1
  subst hfv
  obtain ⟨_, hv, _⟩ : 0 < E.n ∧ v = E.sl 0 ∧ v.oneCell' = true := hv
  subst hv
  obtain ⟨hn, hown⟩ := hown
  rw [List.length_map] at hown
  rcases hown with ⟨hs0, hn0⟩ | ⟨b, cap, cur, hs, hg0, hb, hnc, hcm, hsz, htk⟩
  · have hz0 : l = [] := List.length_eq_zero_iff.1 (by simpa using hn0)
    subst hz0
    rw [hs0]
    refine (h0 none 0 w).mono fun e w' ⟨he, hw⟩ => ?_
    subst hw
    have e0 : srt [] = [] := List.length_eq_zero_iff.1 (hperm [])
    exact ⟨_, E, he, by rw [e0]; exact hp, tup0, hfx⟩
  · rw [hs]
    have hH : HoldsK (encVs enc) z w b 0 l.toArray := by
      intro j hj
      have hj' : j < l.length * z := by simpa using hj
      refine ⟨?_, by simp [World.frozen?, hb]⟩
      have h1 : (cur.toList.take (l.length * z))[j]? = ((l.map (encVs enc)).flatten)[j]? := by rw [htk]
      rw [List.getElem?_take_of_lt hj', ← flatVs hz l] at h1
      simp only [World.cell?, hb, Nat.zero_add]
      simp only [Option.isSome_none, Bool.false_eq_true, if_false]
      rw [← Array.getElem?_toList, h1, Array.getElem?_toList]
      simp [hj']
    have hlt : b < w.heap.size := (Array.getElem?_eq_some_iff.1 hb).1
    refine (h1 b cap l w hH hlt hl).mono fun e2 w' ⟨he, n, os, hw⟩ => ?_
    refine ⟨_, E, he, ?_, tup0, hfx⟩
    have hw : w' = grow (putRow id (Sort.ahead w n) b 0 (flatK (encVs enc) z (srt l).toArray)) os := hw
    have hfl : flatK (encVs enc) z (srt l).toArray = ((srt l).map (encVs enc)).flatten.toArray := by rw [← flatVs hz]
    rw [hfl] at hw
    subst hw
    have hlen2 : (srt l).length = l.length := hperm l
    have hlv := lenVs hz (srt l)
    have hgb := grownBy_sortedK (w := w) (g := b) (n := n) (os := os) ((srt l).map (encVs enc)).flatten.toArray
    have hsl : ∀ c, Ow E 0 (.row e z (l.map enc)) c ↔ c = b := fun c => by
      show (E.sl 0).ownBlock = some c ↔ _
      rw [hs]
      simp only [Value.ownBlock, Option.some.injEq]
      exact eq_comm
    have hsl2 : ∀ c, Ow E 0 (.row e z ((srt l).map enc)) c ↔ c = b := hsl
    refine hp.turnTo (it := 0) (x := .row e z (l.map enc)) (y := .row e z ((srt l).map enc)) (E' := E) rfl hgb.size hgb.os hgb.tape hgb.output (fun c hb2 hno => hgb.block c hb2 (fun e => hno ((hsl c).2 (by simpa using e)))) rfl rfl rfl (fun _ _ => rfl) (fun _ _ => rfl) (fun c hb2 => ?_) ?_
    · have := (hsl2 c).1 hb2
      subst this
      exact ⟨.inl ((hsl c).2 rfl), Nat.lt_of_lt_of_le hlt hgb.size⟩
    · refine ⟨((srt l).map (encVs enc)).flatten, ?_, (relK hdet _ _).2 rfl, fun l hl => ?_, stK hdet _⟩
      · rw [List.length_map, hs]
        refine ⟨by rw [hlv], .inr ⟨b, cap, _, ?_, hg0, heap_sortedK _ hb, by rw [hlen2]; exact hnc, hcm, by simp [putCells, hsz], ?_⟩⟩
        · rw [hlen2]
        · rw [← hlv]; exact take_putCellsK cur _ (by rw [hlv, hlen2, hsz]; exact Nat.mul_le_mul_right z hnc)
      · obtain ⟨m, _, rfl⟩ := List.mem_map.1 hl
        exact hz m
end

/-- slices.SortFunc, the comparison by contract: a strict order that parts whatever two. -/
theorem sortFunc_fn {P : Program} {ρ : Ren} (L : SlLaysF0.n6 P ρ) {α : Type} [Inhabited α] {z : Nat} {enc : α → List XC} {e : TypeId} {f : FuncId} (hfe : ρ.f 6 = f) (g : Nat) (hok : FnOk P f) (hz : ∀ x, (enc x).length = z) (hdet : ∀ x, ∀ c ∈ enc x, detC c = true)
    (aE : ∀ w, (isAgg (ρ.t 24)).run P w = .ok true w) (zE : ∀ w, (Go.sizeOf (ρ.t 24)).run P w = .ok z w) (eg : ∀ args w, (callFunc g args).run P w = .ok (.enter g args) w)
    (cf : α → α → Int) (hO : SWO (ltOf cf)) (hT : ∀ x y, (ltOf cf) x y = false → (ltOf cf) y x = false → x = y)
    (hcmp : ∀ x y, Fn P g [.a (enc x), .a (enc y)] (Tells (.c (.i .i64 (cf x y))))) (l : List α) (hl : l.length < 4611686018427387904) (fx : List XC) :
    FnM P f [.c (.ow 0), .c (.v (.func (.func g) #[] #[]))] [.row e z (l.map enc)] fx (.t []) [.row e z ((l.mergeSort fun x y => !(ltOf cf) y x).map enc)] := by
  subst hfe
  refine sortK_m g hok hz hdet (fun l => l.mergeSort fun x y => !(ltOf cf) y x) (fun l => List.length_mergeSort ..) (fun blk cap l w hH hb hl => ?_) (fun p cap w => ?_) l hl fx
  · exact AnyQ.slices_SortFunc_total L z aE zE (encVs enc) (fun x => by rw [List.length_map, hz]) (fun x v hv => by
      obtain ⟨c, hc, rfl⟩ := List.mem_map.1 hv
      exact detC_one (hdet x c hc)) cf hO g #[] blk 0 cap l.toArray w eg (fun _ _ _ _ x y => cmp_of_fn (hcmp x y) (hdet x) (hdet y) _) hH hb hl hT
  · exact AnyF.slices_SortFunc_none { L with } p cap _ w
end Go.Eng
