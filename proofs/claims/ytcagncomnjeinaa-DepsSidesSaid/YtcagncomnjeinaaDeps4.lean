/- DepsSides: the law. -/
import Derived.Test.YtcagncomnjeinaaDeps3
import Derived.Test.YtcagncomnjeinaaSpans
namespace Go.Proofs.Ytcagncomnjeinaa
open Go Go.Eng Go.RowKit
set_option maxRecDepth 100000
set_option maxHeartbeats 4000000
set_option linter.unusedVariables false
set_option linter.unusedSimpArgs false
theorem dp_lit : depsL [⟨7, 1, ⟨1, 1, 1, 1, 4⟩, 0, 1, [], 0⟩, ⟨9, 1, default, 0, 0, [], 0⟩, ⟨6, 2, ⟨1, 1, 1, 1, 4⟩, 0, 1, [], 0⟩, ⟨9, 2, default, 0, 0, [], 0⟩] = [⟨1, 2, 1, ⟨1, 1, 1, 1, 4⟩⟩] := by rfl
theorem dp_awake : Eng.Fn Try.prog 37 [] (Tells (.c (.b true))) := by
  refine Eng.Fn.of tab_ok Try.func37 (by kernel_rfl) (by kernel_rfl) (fun w0 => ?_)
  conv => whnf
  refine callx_frz 1 rfl ?_
  conv => whnf
  have hl := of_fn [⟨7, 1, ⟨1, 1, 1, 1, 4⟩, 0, 1, [], 0⟩, ⟨9, 1, default, 0, 0, [], 0⟩, ⟨6, 2, ⟨1, 1, 1, 1, 4⟩, 0, 1, [], 0⟩, ⟨9, 2, default, 0, 0, [], 0⟩] (by decide)
  rw [dp_lit] at hl
  refine callx_says hl ⟨row_ent2 ?_, trivial⟩ rfl trivial ?_
  · repeat' (first | exact trivial | exact ⟨rfl, rfl⟩ | exact entC_refl _ | apply And.intro)
  conv => whnf
  refine And.intro (fun h => ?_) (fun h => absurd h (by decide))
  conv => whnf
  refine ⟨⟨by decide, by decide⟩, ?_⟩
  conv => whnf
  refine And.intro (fun h => ?_) (fun h => absurd h (by decide))
  conv => whnf
  refine ⟨⟨by decide, by decide⟩, ?_⟩
  conv => whnf
  rfl
theorem clash_comm (a b : Ev) : clashB a b = clashB b a := by
  have h1 : (a.tx == b.tx) = (b.tx == a.tx) := by rw [Bool.eq_iff_iff, beq_iff_eq, beq_iff_eq]; exact eq_comm
  unfold clashB
  rw [h1]
  cases (b.tx == a.tx) <;> cases accB a <;> cases accB b <;> cases wrB a <;> cases wrB b <;> simp <;> exact Bool.or_comm _ _
theorem clash_self (a : Ev) : clashB a a = false := by simp [clashB]
theorem kind_self (a : Ev) : kindI a a = 0 := by simp [kindI, clash_self]
theorem clash_wr {a b : Ev} (h : clashB a b = true) : wrB a = true ∨ wrB b = true := by
  unfold clashB at h
  cases h1 : wrB a
  · cases h2 : wrB b
    · simp [h1, h2] at h
    · exact .inr rfl
  · exact .inl rfl
theorem kind_sides (a b : Ev) : ((kindI a b == 0) == (kindI b a == 0)) = true ∧ ((kindI a b == 1) == (kindI b a == 3)) = true ∧ ((kindI a b == 2) == (kindI b a == 2)) = true := by
  unfold kindI
  rw [clash_comm b a]
  cases hc : clashB a b
  · simp
  · have hw := clash_wr hc
    cases h1 : wrB a <;> cases h2 : wrB b <;> simp_all
theorem sides_fn (a b : Ev) (ha : a.rows.length ≤ 9223372036854775807) (hb : b.rows.length ≤ 9223372036854775807) : Eng.Fn Try.prog 10 [.a (encEv a), .a (encEv b)] (Tells (.c (.b true))) := by
  refine Eng.Fn.of tab_ok Try.func10 (by kernel_rfl) (by kernel_rfl) (fun w0 => ?_)
  conv => whnf
  refine callx_as (.c .bt) dp_awake rfl rfl trivial ?_
  conv => whnf
  refine callx_lent (few_fn [a, b] (by simp)) ⟨row_ent2 ?_, trivial⟩ rfl rfl ?_
  · repeat' (first | exact trivial | exact ⟨rfl, rfl⟩ | exact entC_refl _ | apply And.intro)
  conv => whnf
  refine And.intro (fun h1 => ?_) (fun h1 => ?_)
  · conv => whnf
  · conv => whnf
    refine drawx_pure tab_ok (by kernel_rfl) (by kernel_rfl) ?_
    conv => whnf
    refine callp_tells (kind_fn a b) rfl trivial ?_
    conv => whnf
    refine callp_tells (kind_fn b a) rfl trivial ?_
    conv => whnf
    obtain ⟨k0, k1, k2⟩ := kind_sides a b
    refine And.intro (fun h => ?_) (fun h => absurd (h.symm.trans k0) (by decide))
    conv => whnf
    refine And.intro (fun h => ?_) (fun h => absurd (h.symm.trans k1) (by decide))
    conv => whnf
    refine And.intro (fun h => ?_) (fun h => absurd (h.symm.trans k2) (by decide))
    conv => whnf
    refine callx_tells (kind_fn a a) rfl trivial ?_
    conv => whnf
    rw [kind_self]
    rfl
/-- An event of cells that fit. -/
theorem ev_ent {n0 n1 n2 n3 n4 n5 n6 n7 n8 n10 : Int} {l : Nat} {z : Nat → Nat → XC} (hz : ∀ i, i < l → fitF shR (z i) 0) : ∃ e : Ev, e.rows.length = l ∧ entV (.a [.i .i64 n0, .i .i64 n1, .i .i64 n2, .i .i64 n3, .i .i64 n4, .i .i64 n5, .i .i64 n6, .i .i64 n7, .i .i64 n8, .rs l 6 z, .i .i64 n10]) (.a (encEv e)) := by
  obtain ⟨r, hl, hrow⟩ := rows_ex (enc := encR) default (z := 6) fun i hi => fit_rw (hz i hi)
  exact ⟨⟨n0, n1, ⟨n2, n3, n4, n5, n6⟩, n7, n8, r, n10⟩, hl, entC_refl _, entC_refl _, entC_refl _, entC_refl _, entC_refl _, entC_refl _, entC_refl _, entC_refl _, entC_refl _, hrow, entC_refl _, trivial⟩
theorem sides_row (a0 a1 a2 a3 a4 a5 a6 a7 a8 : Int) (la : Nat) (za : Nat → Nat → XC) (a10 : Int) (b0 b1 b2 b3 b4 b5 b6 b7 b8 : Int) (lb : Nat) (zb : Nat → Nat → XC) (b10 : Int)
    (_ : (Lit.int .i64 a0).wf = true) (_ : (Lit.int .i64 a1).wf = true) (_ : (Lit.int .i64 a2).wf = true) (_ : (Lit.int .i64 a3).wf = true) (_ : (Lit.int .i64 a4).wf = true) (_ : (Lit.int .i64 a5).wf = true) (_ : (Lit.int .i64 a6).wf = true) (_ : (Lit.int .i64 a7).wf = true) (_ : (Lit.int .i64 a8).wf = true) (ma : la ≤ maxLen) (ka : ∀ i, i < la → fitF shR (za i) 0) (_ : (Lit.int .i64 a10).wf = true)
    (_ : (Lit.int .i64 b0).wf = true) (_ : (Lit.int .i64 b1).wf = true) (_ : (Lit.int .i64 b2).wf = true) (_ : (Lit.int .i64 b3).wf = true) (_ : (Lit.int .i64 b4).wf = true) (_ : (Lit.int .i64 b5).wf = true) (_ : (Lit.int .i64 b6).wf = true) (_ : (Lit.int .i64 b7).wf = true) (_ : (Lit.int .i64 b8).wf = true) (mb : lb ≤ maxLen) (kb : ∀ i, i < lb → fitF shR (zb i) 0) (_ : (Lit.int .i64 b10).wf = true) :
    Eng.Fn Try.prog 10 [.a [.i .i64 a0, .i .i64 a1, .i .i64 a2, .i .i64 a3, .i .i64 a4, .i .i64 a5, .i .i64 a6, .i .i64 a7, .i .i64 a8, .rs la 6 za, .i .i64 a10], .a [.i .i64 b0, .i .i64 b1, .i .i64 b2, .i .i64 b3, .i .i64 b4, .i .i64 b5, .i .i64 b6, .i .i64 b7, .i .i64 b8, .rs lb 6 zb, .i .i64 b10]] (Tells (.c (.b true))) := by
  obtain ⟨x, hx, ex⟩ := ev_ent (n0 := a0) (n1 := a1) (n2 := a2) (n3 := a3) (n4 := a4) (n5 := a5) (n6 := a6) (n7 := a7) (n8 := a8) (n10 := a10) ka
  obtain ⟨y, hy, ey⟩ := ev_ent (n0 := b0) (n1 := b1) (n2 := b2) (n3 := b3) (n4 := b4) (n5 := b5) (n6 := b6) (n7 := b7) (n8 := b8) (n10 := b10) kb
  simp only [maxLen] at ma mb
  exact (sides_fn x y (by omega) (by omega)).ask ⟨ex, ey, trivial⟩
end Go.Proofs.Ytcagncomnjeinaa
