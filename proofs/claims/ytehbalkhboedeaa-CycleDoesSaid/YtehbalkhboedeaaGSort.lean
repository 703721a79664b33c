/- The program's sort of edges. -/
import Derived.Test.YtehbalkhboedeaaCyc2
namespace Go.Proofs.Ytehbalkhboedeaa
open Go Go.Eng Go.Shelf Go.RowKit Go.Lib Go.Sort Go.Proofs
set_option maxRecDepth 100000
set_option linter.unusedVariables false
set_option linter.unusedSimpArgs false
def cfG (x y : Eg) : Int := if ltE x y = true then -1 else if x = y then 0 else 1
set_option maxHeartbeats 2000000 in
theorem less_g (x y : Eg) (W : World) : Calls Try.prog 76 #[.agg #[.int .i64 x.fr, .int .i64 x.to], .agg #[.int .i64 y.fr, .int .i64 y.to]] W fun e w' => e = .returned (.bool (ltE x y)) ∧ ∃ os', w' = grow W os' := by
  obtain ⟨a, b⟩ := x
  obtain ⟨c, d⟩ := y
  dsimp only
  go_enter Try.func76, Try.ntmps76
  go_wp2
  all_goals
    go_ret
    refine ⟨?_, _, by rw [alloc_eq_grow, alloc_eq_grow, grow_grow]⟩
    congr 2
    unfold ltE
    try simp at *
    try rw [Bool.eq_iff_iff]
    try simp
    try omega
set_option maxHeartbeats 2000000 in
theorem two_cells (W : World) (x1 x2 y1 y2 : Value) (t : TypeId) (os : Array Obj) {w' : World} (h : w' = grow ((W.alloc (.cells #[x1, x2] t)).alloc (.cells #[y1, y2] t)) os) :
    w'.cell? ⟨W.heap.size, 0, none⟩ = some x1 ∧ w'.cell? ⟨W.heap.size, 1, none⟩ = some x2 ∧ w'.cell? ⟨W.heap.size + 1, 0, none⟩ = some y1 ∧ w'.cell? ⟨W.heap.size + 1, 1, none⟩ = some y2 ∧ ∃ os', w' = grow W os' := by
  have e : w' = grow W (#[.cells #[x1, x2] t] ++ #[.cells #[y1, y2] t] ++ os) := by rw [h, alloc_eq_grow, alloc_eq_grow, grow_grow, grow_grow, Array.append_assoc]
  have hs : (W.alloc (.cells #[x1, x2] t)).heap.size = W.heap.size + 1 := by simp
  have hs2 : ((W.alloc (.cells #[x1, x2] t)).alloc (.cells #[y1, y2] t)).heap.size = W.heap.size + 2 := by simp
  have b1 : w'.heap[W.heap.size]? = some (.cells #[x1, x2] t (0, 0)) := by
    rw [h, heap_grow_old _ _ (by omega), Below.heap_alloc _ _ _ (by omega)]; exact heap_alloc_new _ _
  have b2 : w'.heap[W.heap.size + 1]? = some (.cells #[y1, y2] t (0, 0)) := by
    rw [h, heap_grow_old _ _ (by omega), ← hs]; exact heap_alloc_new _ _
  refine ⟨?_, ?_, ?_, ?_, _, e⟩ <;> simp only [World.cell?, b1, b2] <;> rfl
set_option maxHeartbeats 2000000 in
theorem cmp_g (x y : Eg) (W : World) : Calls Try.prog 75 #[.agg (encV x).toArray, .agg (encV y).toArray] W fun e w' => e = .returned (.int .i64 (cfG x y)) ∧ ∃ q os', w' = grow (W.drewN q) os' := by
  unfold encV
  go_enter Try.func75, Try.ntmps75
  go_wp2_with (go_at_call 76; refine (less_g x y _).mono ?_; rintro e w' ⟨rfl, os, hw⟩; rcases two_cells W _ _ _ _ _ _ hw with ⟨c1, c2, c3, c4, hq⟩; have HH : Hid (∃ os', w' = grow W os') := hq; clear hq hw)
  all_goals
    go_ret
    obtain ⟨os', hw⟩ := HH.out
    refine ⟨?_, 0, os', by rw [hw]; rfl⟩
    show Ending.returned (Value.int .i64 _) = Ending.returned (Value.int .i64 _)
    congr 2
    clear hw c1 c2 c3 c4 HH
    unfold cfG
    simp_all [Eg.eq_iff]
theorem ltOf_cfG : ltOf cfG = ltE := by
  funext x y
  unfold ltOf cfG
  by_cases h2 : ltE x y = true
  · simp [h2]
  · by_cases h : x = y
    · subst h; simp [ltE]
    · simp [h2, h]
theorem sort_g_fn (l : List Eg) (hl : l.length < 4611686018427387904) (fx : List XC) : FnM Try.prog 74 [.c (.ow 0), .c (.v (.func (.func 75) #[] #[]))] [rowE l] fx (.t []) [rowE (sortE l)] := by
  refine sortE_m 75 ⟨_, Try.func74, by kernel_rfl, by kernel_rfl⟩ (fun blk cap l w hH hb hz => ?_) (fun p cap w => ?_) l hl fx
  · have hcon := AnyQ.slices_SortFunc_total Try.sortEg 2 aggE sizeE encV (fun _ => rfl) encV_one cfG (by rw [ltOf_cfG]; exact ltE_swo) 75 #[] blk 0 cap l.toArray w (enters_of Try.func75 (by kernel_rfl) rfl) (fun _ _ _ _ x y => cmp_g x y _) hH hb hz (by rw [ltOf_cfG]; exact ltE_tot)
    rw [ltOf_cfG] at hcon
    exact hcon
  · exact AnyF.slices_SortFunc_none { Try.sortEg with } p cap _ w
end Go.Proofs.Ytehbalkhboedeaa
