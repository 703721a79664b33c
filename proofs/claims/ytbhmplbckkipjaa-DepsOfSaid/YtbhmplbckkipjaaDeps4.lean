/- DepsSides: the law. -/
import Derived.Test.YtbhmplbckkipjaaDeps3
import Derived.Test.YtbhmplbckkipjaaSpans
namespace Go.Proofs.Ytbhmplbckkipjaa
open Go Go.Eng Go.RowKit
set_option maxRecDepth 100000
set_option maxHeartbeats 4000000
set_option linter.unusedVariables false
set_option linter.unusedSimpArgs false
theorem dp_lit : depsL [⟨7, 1, ⟨1, 1, 1, 1, 4⟩, 0, 1, [], 0⟩, ⟨9, 1, default, 0, 0, [], 0⟩, ⟨6, 2, ⟨1, 1, 1, 1, 4⟩, 0, 1, [], 0⟩, ⟨9, 2, default, 0, 0, [], 0⟩] = [⟨1, 2, 1, ⟨1, 1, 1, 1, 4⟩⟩] := by rfl
theorem dp_awake : Eng.Fn Try.prog 60 [] (Tells (.c (.b true))) := by
  refine Eng.Fn.of tab_ok Try.func60 (by kernel_rfl) (by kernel_rfl) (fun w0 => ?_)
  conv => whnf
  refine callx_frz 1 rfl ?_
  conv => whnf
  have hl := of_fn [⟨7, 1, ⟨1, 1, 1, 1, 4⟩, 0, 1, [], 0⟩, ⟨9, 1, default, 0, 0, [], 0⟩, ⟨6, 2, ⟨1, 1, 1, 1, 4⟩, 0, 1, [], 0⟩, ⟨9, 2, default, 0, 0, [], 0⟩] (by decide)
  rw [dp_lit] at hl
  refine callx_says hl ⟨row_ent2 ?_, trivial⟩ rfl trivial ?_
  · repeat' (first | exact trivial | exact ⟨rfl, rfl⟩ | exact entC_refl _ | apply And.intro)
  conv => whnf
  refine And.intro (fun h => ?_) (fun h => absurd h (by decide))
  conv => whnf
  refine ⟨⟨by decide, by decide⟩, ?_⟩
  conv => whnf
  refine And.intro (fun h => ?_) (fun h => absurd h (by decide))
  conv => whnf
  refine ⟨⟨by decide, by decide⟩, ?_⟩
  conv => whnf
  rfl
theorem clash_comm (a b : Ev) : clashB a b = clashB b a := by
  have h1 : (a.tx == b.tx) = (b.tx == a.tx) := by rw [Bool.eq_iff_iff, beq_iff_eq, beq_iff_eq]; exact eq_comm
  unfold clashB
  rw [h1]
  cases (b.tx == a.tx) <;> cases accB a <;> cases accB b <;> cases wrB a <;> cases wrB b <;> simp <;> exact Bool.or_comm _ _
theorem clash_self (a : Ev) : clashB a a = false := by simp [clashB]
theorem kind_self (a : Ev) : kindI a a = 0 := by simp [kindI, clash_self]
theorem clash_wr {a b : Ev} (h : clashB a b = true) : wrB a = true ∨ wrB b = true := by
  unfold clashB at h
  cases h1 : wrB a
  · cases h2 : wrB b
    · simp [h1, h2] at h
    · exact .inr rfl
  · exact .inl rfl
theorem kind_sides (a b : Ev) : ((kindI a b == 0) == (kindI b a == 0)) = true ∧ ((kindI a b == 1) == (kindI b a == 3)) = true ∧ ((kindI a b == 2) == (kindI b a == 2)) = true := by
  unfold kindI
  rw [clash_comm b a]
  cases hc : clashB a b
  · simp
  · have hw := clash_wr hc
    cases h1 : wrB a <;> cases h2 : wrB b <;> simp_all
/-- An event of cells that fit. -/
theorem ev_ent {n0 n1 n2 n3 n4 n5 n6 n7 n8 n10 : Int} {l : Nat} {z : Nat → Nat → XC} (hz : ∀ i, i < l → fitF shR (z i) 0) : ∃ e : Ev, e.rows.length = l ∧ entV (.a [.i .i64 n0, .i .i64 n1, .i .i64 n2, .i .i64 n3, .i .i64 n4, .i .i64 n5, .i .i64 n6, .i .i64 n7, .i .i64 n8, .rs l 6 z, .i .i64 n10]) (.a (encEv e)) := by
  obtain ⟨r, hl, hrow⟩ := rows_ex (enc := encR) default (z := 6) fun i hi => fit_rw (hz i hi)
  exact ⟨⟨n0, n1, ⟨n2, n3, n4, n5, n6⟩, n7, n8, r, n10⟩, hl, entC_refl _, entC_refl _, entC_refl _, entC_refl _, entC_refl _, entC_refl _, entC_refl _, entC_refl _, entC_refl _, hrow, entC_refl _, trivial⟩
end Go.Proofs.Ytbhmplbckkipjaa
