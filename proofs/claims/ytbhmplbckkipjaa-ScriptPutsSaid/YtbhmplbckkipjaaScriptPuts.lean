/- The bytes of any plan, and which machines may be. -/
import Derived.Test.YtbhmplbckkipjaaRows
import Derived.Test.YtbhmplbckkipjaaScript11
import Derived.Test.YtbhmplbckkipjaaEngP3
import Derived.WalkKit
import Derived.ProofKit
import Derived.OpenShut
namespace Go.Proofs.Ytbhmplbckkipjaa.scriptPuts
open Go.ChangeShapes Go.WideShapes Go.ChangeAt Go.RowKit Go.Eng
set_option linter.unusedVariables false

theorem own : ownKnob Try.prog.godebug = none := by kernel_rfl

set_option maxRecDepth 100000 in
theorem lifted (os : Os) (started : os.Started) (H : Type) (enc : TypeId × Value → H) :
    ReturnsInHanded {} Try.checked os 8 .any (Rows.scriptPutsSpec.pre6 enc Try.prog Try.f8 Rows.scriptPutsRow.domain false) (Rows.scriptPutsSpec.post enc Try.prog Try.f8 false true false false) := by
  refine returnsInHanded_of_change (C := Try.checked) own started (by kernel_rfl) Try.func8
    (ChangeSpec.witness6 (enc := enc) (C := Try.checked) false ⟨#[], #[.agg #[.int .i64 0, .int .i64 0, .int .i64 0, .int .i64 0, .int .i64 0, .int .i64 0, .int .i64 0, .int .i64 0, .int .i64 0, .slice none 0 0, .slice none 0 0], .agg #[.int .i64 0, .int .i64 0, .int .i64 0, .int .i64 0, .int .i64 0, .int .i64 0, .int .i64 0, .int .i64 0, .int .i64 0, .slice none 0 0, .slice none 0 0], .agg #[.int .i64 0, .int .i64 0, .int .i64 0, .int .i64 0, .int .i64 0, .int .i64 0, .int .i64 0, .int .i64 0, .int .i64 0]], []⟩ 8 (by kernel_rfl) (by kernel_rfl) (by kernel_rfl) (by kernel_rfl)) ?_
  intro W base args ds gs before hval0 hW hcnd _
  have hval : ∀ (j : Nat) t v, Try.f8.params[j]? = some t → args[j]? = some v → Value.okWide Try.prog W .any base t v := hval0
  have hW' := hW
  obtain ⟨p, q, hA0, hV, rfl, hfz, hnd⟩ := hW
  have hA : DataW.TrodAll enc Try.prog W 0 (fun _ => true) true Try.f8.params.toList args.toList ds p := hA0
  rw [Try.params8] at hA hval
  obtain ⟨v0, vs0, d0, ds0, p0, q0, hargs, rfl, rfl, h0, r0⟩ := trodAll_cons hA
  obtain ⟨v1, vs1, d1, ds1, p1, q1, rfl, rfl, rfl, h1, r1⟩ := trodAll_cons r0
  obtain ⟨v2, vs2, d2, ds2, p2, q2, rfl, rfl, rfl, h2, r2⟩ := trodAll_cons r1
  obtain ⟨rfl, rfl, rfl⟩ := trodAll_nil r2
  obtain rfl : args = #[v0, v1, v2] := by cases args; simp_all
  obtain ⟨rfl, rfl⟩ := trodVars_none hV
  obtain ⟨xs0, f0, e0⟩ := open_agg (d := 24) (l := [.int .i64, .int .i64, .int .i64, .int .i64, .int .i64, .int .i64, .int .i64, .int .i64, .int .i64, .sl 1 [.sl 7 [.int .i64, .int .i64, .int .i64, .int .i64, .int .i64, .int .i64, .int .i64]], .sl 1 [.int .i64]]) (by kernel_rfl) (by kernel_rfl) (hval 0 29 v0 rfl rfl) h0
  obtain ⟨c0_0, y0_0, rfl, g0_0, f0⟩ := fits_cons f0
  obtain ⟨c0_1, y0_1, rfl, g0_1, f0⟩ := fits_cons f0
  obtain ⟨c0_2, y0_2, rfl, g0_2, f0⟩ := fits_cons f0
  obtain ⟨c0_3, y0_3, rfl, g0_3, f0⟩ := fits_cons f0
  obtain ⟨c0_4, y0_4, rfl, g0_4, f0⟩ := fits_cons f0
  obtain ⟨c0_5, y0_5, rfl, g0_5, f0⟩ := fits_cons f0
  obtain ⟨c0_6, y0_6, rfl, g0_6, f0⟩ := fits_cons f0
  obtain ⟨c0_7, y0_7, rfl, g0_7, f0⟩ := fits_cons f0
  obtain ⟨c0_8, y0_8, rfl, g0_8, f0⟩ := fits_cons f0
  obtain ⟨c0_9, y0_9, rfl, g0_9, f0⟩ := fits_cons f0
  obtain ⟨c0_10, y0_10, rfl, g0_10, f0⟩ := fits_cons f0
  obtain rfl := fits_nil f0
  obtain ⟨n0_0, rfl, w0_0⟩ := fit_int g0_0
  obtain ⟨n0_1, rfl, w0_1⟩ := fit_int g0_1
  obtain ⟨n0_2, rfl, w0_2⟩ := fit_int g0_2
  obtain ⟨n0_3, rfl, w0_3⟩ := fit_int g0_3
  obtain ⟨n0_4, rfl, w0_4⟩ := fit_int g0_4
  obtain ⟨n0_5, rfl, w0_5⟩ := fit_int g0_5
  obtain ⟨n0_6, rfl, w0_6⟩ := fit_int g0_6
  obtain ⟨n0_7, rfl, w0_7⟩ := fit_int g0_7
  obtain ⟨n0_8, rfl, w0_8⟩ := fit_int g0_8
  obtain ⟨l0_9, z0_9, rfl, m0_9, k0_9⟩ := fit_sl g0_9
  obtain ⟨l0_10, z0_10, rfl, m0_10, k0_10⟩ := fit_sl g0_10
  obtain ⟨xs1, f1, e1⟩ := open_agg (d := 24) (l := [.int .i64, .int .i64, .int .i64, .int .i64, .int .i64, .int .i64, .int .i64, .int .i64, .int .i64, .sl 1 [.sl 7 [.int .i64, .int .i64, .int .i64, .int .i64, .int .i64, .int .i64, .int .i64]], .sl 1 [.int .i64]]) (by kernel_rfl) (by kernel_rfl) (hval 1 29 v1 rfl rfl) h1
  obtain ⟨c1_0, y1_0, rfl, g1_0, f1⟩ := fits_cons f1
  obtain ⟨c1_1, y1_1, rfl, g1_1, f1⟩ := fits_cons f1
  obtain ⟨c1_2, y1_2, rfl, g1_2, f1⟩ := fits_cons f1
  obtain ⟨c1_3, y1_3, rfl, g1_3, f1⟩ := fits_cons f1
  obtain ⟨c1_4, y1_4, rfl, g1_4, f1⟩ := fits_cons f1
  obtain ⟨c1_5, y1_5, rfl, g1_5, f1⟩ := fits_cons f1
  obtain ⟨c1_6, y1_6, rfl, g1_6, f1⟩ := fits_cons f1
  obtain ⟨c1_7, y1_7, rfl, g1_7, f1⟩ := fits_cons f1
  obtain ⟨c1_8, y1_8, rfl, g1_8, f1⟩ := fits_cons f1
  obtain ⟨c1_9, y1_9, rfl, g1_9, f1⟩ := fits_cons f1
  obtain ⟨c1_10, y1_10, rfl, g1_10, f1⟩ := fits_cons f1
  obtain rfl := fits_nil f1
  obtain ⟨n1_0, rfl, w1_0⟩ := fit_int g1_0
  obtain ⟨n1_1, rfl, w1_1⟩ := fit_int g1_1
  obtain ⟨n1_2, rfl, w1_2⟩ := fit_int g1_2
  obtain ⟨n1_3, rfl, w1_3⟩ := fit_int g1_3
  obtain ⟨n1_4, rfl, w1_4⟩ := fit_int g1_4
  obtain ⟨n1_5, rfl, w1_5⟩ := fit_int g1_5
  obtain ⟨n1_6, rfl, w1_6⟩ := fit_int g1_6
  obtain ⟨n1_7, rfl, w1_7⟩ := fit_int g1_7
  obtain ⟨n1_8, rfl, w1_8⟩ := fit_int g1_8
  obtain ⟨l1_9, z1_9, rfl, m1_9, k1_9⟩ := fit_sl g1_9
  obtain ⟨l1_10, z1_10, rfl, m1_10, k1_10⟩ := fit_sl g1_10
  obtain ⟨xs2, f2, e2⟩ := open_agg (d := 24) (l := [.int .i64, .int .i64, .int .i64, .int .i64, .int .i64, .int .i64, .int .i64, .int .i64, .int .i64]) (by kernel_rfl) (by kernel_rfl) (hval 2 25 v2 rfl rfl) h2
  obtain ⟨c2_0, y2_0, rfl, g2_0, f2⟩ := fits_cons f2
  obtain ⟨c2_1, y2_1, rfl, g2_1, f2⟩ := fits_cons f2
  obtain ⟨c2_2, y2_2, rfl, g2_2, f2⟩ := fits_cons f2
  obtain ⟨c2_3, y2_3, rfl, g2_3, f2⟩ := fits_cons f2
  obtain ⟨c2_4, y2_4, rfl, g2_4, f2⟩ := fits_cons f2
  obtain ⟨c2_5, y2_5, rfl, g2_5, f2⟩ := fits_cons f2
  obtain ⟨c2_6, y2_6, rfl, g2_6, f2⟩ := fits_cons f2
  obtain ⟨c2_7, y2_7, rfl, g2_7, f2⟩ := fits_cons f2
  obtain ⟨c2_8, y2_8, rfl, g2_8, f2⟩ := fits_cons f2
  obtain rfl := fits_nil f2
  obtain ⟨n2_0, rfl, w2_0⟩ := fit_int g2_0
  obtain ⟨n2_1, rfl, w2_1⟩ := fit_int g2_1
  obtain ⟨n2_2, rfl, w2_2⟩ := fit_int g2_2
  obtain ⟨n2_3, rfl, w2_3⟩ := fit_int g2_3
  obtain ⟨n2_4, rfl, w2_4⟩ := fit_int g2_4
  obtain ⟨n2_5, rfl, w2_5⟩ := fit_int g2_5
  obtain ⟨n2_6, rfl, w2_6⟩ := fit_int g2_6
  obtain ⟨n2_7, rfl, w2_7⟩ := fit_int g2_7
  obtain ⟨n2_8, rfl, w2_8⟩ := fit_int g2_8
  have hlaw : LawTrue Try.prog 8 #[v0, v1, v2] W := (puts_row n0_0 n0_1 n0_2 n0_3 n0_4 n0_5 n0_6 n0_7 n0_8 l0_9 z0_9 l0_10 z0_10 n1_0 n1_1 n1_2 n1_3 n1_4 n1_5 n1_6 n1_7 n1_8 l1_9 z1_9 l1_10 z1_10 n2_0 n2_1 n2_2 n2_3 n2_4 n2_5 n2_6 n2_7 n2_8 w0_0 w0_1 w0_2 w0_3 w0_4 w0_5 w0_6 w0_7 w0_8 m0_9 k0_9 m0_10 k0_10 w1_0 w1_1 w1_2 w1_3 w1_4 w1_5 w1_6 w1_7 w1_8 m1_9 k1_9 m1_10 k1_10 w2_0 w2_1 w2_2 w2_3 w2_4 w2_5 w2_6 w2_7 w2_8).law (W := W) ⟨e0, e1, e2, trivial⟩
  refine Calls.mono hlaw fun e W' ⟨he, hb⟩ => ?_
  subst he
  exact ⟨_, rfl, post_true (by kernel_rfl) (by kernel_rfl) (by kernel_rfl) Try.underlying4 rfl hW' rfl rfl rfl hb⟩

theorem over : Rows.scriptPutsRow.holds Try.pinned (OpenSpec.ofChange Rows.scriptPutsSpec) :=
  OpenClaim.holds_of_wide 8 Try.f8 rfl rfl rfl rfl rfl rfl rfl ⟨rfl, rfl, rfl, rfl, rfl⟩ rfl rfl rfl rfl rfl (by kernel_rfl) Try.func8 (by kernel_rfl)
    (of_decide_eq_true (by kernel_rfl)) (by unfold Func.isWrapper; first | (rw [if_pos (by decide +kernel)]; kernel_rfl) | (rw [if_neg (by decide +kernel)]; exact ⟨rfl, rfl⟩))
    (fun os started H enc _ => lifted os started H enc)

/-- The statement. -/
theorem proved : Rows.ScriptPutsSaid :=
  over
#print axioms proved
end Go.Proofs.Ytbhmplbckkipjaa.scriptPuts
