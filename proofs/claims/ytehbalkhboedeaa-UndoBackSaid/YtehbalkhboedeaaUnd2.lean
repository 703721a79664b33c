/- The log: rows cloned; the keys of a log in order. -/
import Derived.Test.YtehbalkhboedeaaUnd1
import Derived.Test.YtehbalkhboedeaaKeys
namespace Go.Proofs
open Go.RowKit Go.Maps Go.Sort Go.Shelf
shelf_lay_g SlLaysZI.n7 Ggz 7 at Try 44 as Try.keysLog
end Go.Proofs
namespace Go.Proofs.Ytehbalkhboedeaa
open Go Go.Eng Go.RowKit Go.Maps Go.Sort Go.Shelf Go.Proofs
set_option maxRecDepth 100000
set_option maxHeartbeats 8000000
set_option linter.unusedVariables false
set_option linter.unusedSimpArgs false
theorem keysLog_m {va : Bool} {vz : Nat} {val : List Int → List XC} {dom : List (List Int)} (hdl : dom.length ≤ 1000000) (hwf : ∀ k ∈ dom, (Lit.int .i64 (k.headD 0)).wf = true) (fx : List XC) (bt : TypeId) :
    FnM Try.prog 43 [.c (.fn 66 1 (nthC [.p 1 0]))] [.abs (MapA false [.i64] va vz dom val), .cells bt [.ow 0]] fx (.c (.ow 2)) [.abs (MapA false [.i64] va vz dom val), .cells bt [.ow 0], rowI 3 (sortL (dom.map fun k => k.headD 0))] := by
  refine keysSorted_m (kt := 3) ⟨_, Try.func43, by kernel_rfl, by kernel_rfl⟩ Try.underlying3 (fun bx b w D nn hbx hcell hown hsz => ?_) hdl hwf fx
  refine (callsIn_wide (n := 5)).1 ?_
  have hseq : SeqGives Fence.wide 2 Try.prog 66 #[.pointer (some ⟨bx, 0, none⟩)] encZ (fun ss => ss.Perm (intKeys D)) (Maps.size D) w :=
    AnyZI.keys_gives (ρ := Try.keysLog_ren) { Try.keysLog with } Fence.wide _ trivial rfl (by omega) bx b nn D _ hbx hcell hown
  have hM : (1000000 : Nat) ≤ maxLen := by unfold maxLen; omega
  exact AnyZI.sorted_in Try.sortedInt Fence.wide 5 trivial trivial trivial trivial rfl (by omega) (Try.sortsInt _) (enters_of Try.func63 (by kernel_rfl) rfl) 66 #[.pointer (some ⟨bx, 0, none⟩)] trivial (enters_of Try.func66 (by kernel_rfl) rfl) _ _ (Nat.le_trans hsz hM) (by omega) _ hseq
abbrev usX (l : List Rw) : XC := rowX encU default 6 l
abbrev rowU (l : List Rw) : It := .row 34 6 (l.map encU)
theorem rowsU_all (l : List Rw) : rowsOf l.length 6 (fun i j => nthC (encU (l.getD i default)) j) = l.map encU := by
  apply List.ext_getElem
  · simp [rowsOf]
  · intro i h1 h2
    have hi : i < l.length := by simpa [rowsOf] using h1
    simp [rowsOf, List.getD, hi, encU, nthC, List.range_succ]
theorem us_ent2 {xs : List (List XC)} {l : List Rw} (h : entLL xs (l.map encU)) : entC (rsOf xs 6) (usX l) := by
  have hl := entLL_len h
  rw [List.length_map] at hl
  refine ⟨hl, rfl, fun i hi j hj => ?_⟩
  have h1 := nthC_ent (nthL_ent h i (by rw [hl]; simpa using hi)) j
  rw [nthL_map encU default l i (by simpa using hi)] at h1
  exact h1
/-- A clone is a row of its own. -/
theorem cloneU_own (l : List Rw) (hl : l.length ≤ 1000000) : Eng.Fn Try.prog 40 [.c (usX l)] (RowR 34 6 (l.map encU)) := by
  refine Eng.Fn.of tab_ok Try.func40 (by kernel_rfl) (by kernel_rfl) (fun w0 => ?_)
  conv => whnf
  refine opx_eqnil (n := l.length) tab_ok rfl rfl rfl rfl rfl (fun h0 => ?_) ?_
  · have h0 : l = [] := List.length_eq_zero_iff.1 h0
    subst h0
    conv => whnf
    exact .inl ⟨rfl, rfl⟩
  · conv => whnf
    refine opx_lit0 tab_ok rfl rfl rfl ?_
    conv => whnf
    rw [rowsU_all]
    refine ⟨by simp only [List.length_map, List.length_nil]; omega, ?_⟩
    conv => whnf
    exact .inr ⟨0, _, rfl, rfl, entLL_refl _⟩
theorem cloneU_fn (l : List Rw) (hl : l.length ≤ 1000000) : Eng.Fn Try.prog 40 [.c (usX l)] (Tells (.c (usX l))) := by
  refine Eng.Fn.ofZ tab_ok Try.func40 (by kernel_rfl) (by kernel_rfl) trivial (fun w0 => ?_)
  conv => whnf
  refine opx_eqnil (n := l.length) tab_ok rfl rfl rfl rfl rfl (fun h0 => ?_) ?_
  · have h0 : l = [] := List.length_eq_zero_iff.1 h0
    subst h0
    conv => whnf
    exact ⟨rfl, rfl⟩
  · conv => whnf
    refine opx_lit0 tab_ok rfl rfl rfl ?_
    conv => whnf
    rw [rowsU_all]
    refine ⟨by simp only [List.length_map, List.length_nil]; omega, ?_⟩
    conv => whnf
    exact us_ent2 (entLL_refl _)
end Go.Proofs.Ytehbalkhboedeaa
