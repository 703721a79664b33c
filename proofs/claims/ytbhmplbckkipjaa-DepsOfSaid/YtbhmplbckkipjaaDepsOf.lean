/- DepsOf is proved here: the reasons between transactions and what is counted, sought and made edges of them are the reference's. -/
import Derived.Test.YtbhmplbckkipjaaRows
import Derived.Test.YtbhmplbckkipjaaDepsC
import Derived.Test.YtbhmplbckkipjaaEngP3
import Derived.WalkKit
import Derived.ProofKit
import Derived.OpenShut
namespace Go.Proofs.Ytbhmplbckkipjaa.depsOf
open Go.ChangeShapes Go.WideShapes Go.ChangeAt Go.RowKit Go.Eng
set_option linter.unusedVariables false

theorem own : ownKnob Try.prog.godebug = none := by kernel_rfl

set_option maxRecDepth 100000 in
theorem lifted (os : Os) (started : os.Started) (H : Type) (enc : TypeId × Value → H) :
    ReturnsInHanded {} Try.checked os 13 .any (Rows.depsOfSpec.pre6 enc Try.prog Try.f13 Rows.depsOfRow.domain false) (Rows.depsOfSpec.post enc Try.prog Try.f13 false true false false) := by
  refine returnsInHanded_of_change (C := Try.checked) own started (by kernel_rfl) Try.func13
    (ChangeSpec.witness6 (enc := enc) (C := Try.checked) false ⟨#[], #[.slice none 0 0, .slice none 0 0, .agg #[.int .i64 0, .int .i64 0, .int .i64 0, .int .i64 0, .int .i64 0, .int .i64 0, .int .i64 0, .int .i64 0, .int .i64 0, .slice none 0 0, .int .i64 0], .agg #[.int .i64 0, .int .i64 0, .int .i64 0, .int .i64 0, .int .i64 0, .int .i64 0, .int .i64 0, .int .i64 0, .int .i64 0, .slice none 0 0, .int .i64 0], .int .i64 0, .int .i64 0], []⟩ 8 (by kernel_rfl) (by kernel_rfl) (by kernel_rfl) (by kernel_rfl)) ?_
  intro W base args ds gs before hval0 hW hcnd _
  have hval : ∀ (j : Nat) t v, Try.f13.params[j]? = some t → args[j]? = some v → Value.okWide Try.prog W .any base t v := hval0
  have hW' := hW
  obtain ⟨p, q, hA0, hV, rfl, hfz, hnd⟩ := hW
  have hA : DataW.TrodAll enc Try.prog W 0 (fun _ => true) true Try.f13.params.toList args.toList ds p := hA0
  rw [Try.params13] at hA hval
  obtain ⟨v0, vs0, d0, ds0, p0, q0, hargs, rfl, rfl, h0, r0⟩ := trodAll_cons hA
  obtain ⟨v1, vs1, d1, ds1, p1, q1, rfl, rfl, rfl, h1, r1⟩ := trodAll_cons r0
  obtain ⟨v2, vs2, d2, ds2, p2, q2, rfl, rfl, rfl, h2, r2⟩ := trodAll_cons r1
  obtain ⟨v3, vs3, d3, ds3, p3, q3, rfl, rfl, rfl, h3, r3⟩ := trodAll_cons r2
  obtain ⟨v4, vs4, d4, ds4, p4, q4, rfl, rfl, rfl, h4, r4⟩ := trodAll_cons r3
  obtain ⟨v5, vs5, d5, ds5, p5, q5, rfl, rfl, rfl, h5, r5⟩ := trodAll_cons r4
  obtain ⟨rfl, rfl, rfl⟩ := trodAll_nil r5
  obtain rfl : args = #[v0, v1, v2, v3, v4, v5] := by cases args; simp_all
  obtain ⟨rfl, rfl⟩ := trodVars_none hV
  obtain ⟨c0_0, g0_0, e0⟩ := open_one (d := 24) (s := .sl 11 [.int .i64, .int .i64, .int .i64, .int .i64, .int .i64, .int .i64, .int .i64, .int .i64, .int .i64, .sl 6 [.int .i64, .int .i64, .int .i64, .int .i64, .int .i64, .int .i64], .int .i64]) (by kernel_rfl) (by kernel_rfl) (hval 0 97 v0 rfl rfl) h0
  obtain ⟨l0_0, z0_0, rfl, m0_0, k0_0⟩ := fit_sl g0_0
  obtain ⟨c1_0, g1_0, e1⟩ := open_one (d := 24) (s := .sl 8 [.int .i64, .int .i64, .int .i64, .int .i64, .int .i64, .int .i64, .int .i64, .int .i64]) (by kernel_rfl) (by kernel_rfl) (hval 1 98 v1 rfl rfl) h1
  obtain ⟨l1_0, z1_0, rfl, m1_0, k1_0⟩ := fit_sl g1_0
  obtain ⟨xs2, f2, e2⟩ := open_agg (d := 24) (l := [.int .i64, .int .i64, .int .i64, .int .i64, .int .i64, .int .i64, .int .i64, .int .i64, .int .i64, .sl 6 [.int .i64, .int .i64, .int .i64, .int .i64, .int .i64, .int .i64], .int .i64]) (by kernel_rfl) (by kernel_rfl) (hval 2 100 v2 rfl rfl) h2
  obtain ⟨c2_0, y2_0, rfl, g2_0, f2⟩ := fits_cons f2
  obtain ⟨c2_1, y2_1, rfl, g2_1, f2⟩ := fits_cons f2
  obtain ⟨c2_2, y2_2, rfl, g2_2, f2⟩ := fits_cons f2
  obtain ⟨c2_3, y2_3, rfl, g2_3, f2⟩ := fits_cons f2
  obtain ⟨c2_4, y2_4, rfl, g2_4, f2⟩ := fits_cons f2
  obtain ⟨c2_5, y2_5, rfl, g2_5, f2⟩ := fits_cons f2
  obtain ⟨c2_6, y2_6, rfl, g2_6, f2⟩ := fits_cons f2
  obtain ⟨c2_7, y2_7, rfl, g2_7, f2⟩ := fits_cons f2
  obtain ⟨c2_8, y2_8, rfl, g2_8, f2⟩ := fits_cons f2
  obtain ⟨c2_9, y2_9, rfl, g2_9, f2⟩ := fits_cons f2
  obtain ⟨c2_10, y2_10, rfl, g2_10, f2⟩ := fits_cons f2
  obtain rfl := fits_nil f2
  obtain ⟨n2_0, rfl, w2_0⟩ := fit_int g2_0
  obtain ⟨n2_1, rfl, w2_1⟩ := fit_int g2_1
  obtain ⟨n2_2, rfl, w2_2⟩ := fit_int g2_2
  obtain ⟨n2_3, rfl, w2_3⟩ := fit_int g2_3
  obtain ⟨n2_4, rfl, w2_4⟩ := fit_int g2_4
  obtain ⟨n2_5, rfl, w2_5⟩ := fit_int g2_5
  obtain ⟨n2_6, rfl, w2_6⟩ := fit_int g2_6
  obtain ⟨n2_7, rfl, w2_7⟩ := fit_int g2_7
  obtain ⟨n2_8, rfl, w2_8⟩ := fit_int g2_8
  obtain ⟨l2_9, z2_9, rfl, m2_9, k2_9⟩ := fit_sl g2_9
  obtain ⟨n2_10, rfl, w2_10⟩ := fit_int g2_10
  obtain ⟨xs3, f3, e3⟩ := open_agg (d := 24) (l := [.int .i64, .int .i64, .int .i64, .int .i64, .int .i64, .int .i64, .int .i64, .int .i64, .int .i64, .sl 6 [.int .i64, .int .i64, .int .i64, .int .i64, .int .i64, .int .i64], .int .i64]) (by kernel_rfl) (by kernel_rfl) (hval 3 100 v3 rfl rfl) h3
  obtain ⟨c3_0, y3_0, rfl, g3_0, f3⟩ := fits_cons f3
  obtain ⟨c3_1, y3_1, rfl, g3_1, f3⟩ := fits_cons f3
  obtain ⟨c3_2, y3_2, rfl, g3_2, f3⟩ := fits_cons f3
  obtain ⟨c3_3, y3_3, rfl, g3_3, f3⟩ := fits_cons f3
  obtain ⟨c3_4, y3_4, rfl, g3_4, f3⟩ := fits_cons f3
  obtain ⟨c3_5, y3_5, rfl, g3_5, f3⟩ := fits_cons f3
  obtain ⟨c3_6, y3_6, rfl, g3_6, f3⟩ := fits_cons f3
  obtain ⟨c3_7, y3_7, rfl, g3_7, f3⟩ := fits_cons f3
  obtain ⟨c3_8, y3_8, rfl, g3_8, f3⟩ := fits_cons f3
  obtain ⟨c3_9, y3_9, rfl, g3_9, f3⟩ := fits_cons f3
  obtain ⟨c3_10, y3_10, rfl, g3_10, f3⟩ := fits_cons f3
  obtain rfl := fits_nil f3
  obtain ⟨n3_0, rfl, w3_0⟩ := fit_int g3_0
  obtain ⟨n3_1, rfl, w3_1⟩ := fit_int g3_1
  obtain ⟨n3_2, rfl, w3_2⟩ := fit_int g3_2
  obtain ⟨n3_3, rfl, w3_3⟩ := fit_int g3_3
  obtain ⟨n3_4, rfl, w3_4⟩ := fit_int g3_4
  obtain ⟨n3_5, rfl, w3_5⟩ := fit_int g3_5
  obtain ⟨n3_6, rfl, w3_6⟩ := fit_int g3_6
  obtain ⟨n3_7, rfl, w3_7⟩ := fit_int g3_7
  obtain ⟨n3_8, rfl, w3_8⟩ := fit_int g3_8
  obtain ⟨l3_9, z3_9, rfl, m3_9, k3_9⟩ := fit_sl g3_9
  obtain ⟨n3_10, rfl, w3_10⟩ := fit_int g3_10
  obtain ⟨c4_0, g4_0, e4⟩ := open_one (d := 24) (s := .int .i64) (by kernel_rfl) (by kernel_rfl) (hval 4 3 v4 rfl rfl) h4
  obtain ⟨n4_0, rfl, w4_0⟩ := fit_int g4_0
  obtain ⟨c5_0, g5_0, e5⟩ := open_one (d := 24) (s := .int .i64) (by kernel_rfl) (by kernel_rfl) (hval 5 3 v5 rfl rfl) h5
  obtain ⟨n5_0, rfl, w5_0⟩ := fit_int g5_0
  have hlaw : LawTrue Try.prog 13 #[v0, v1, v2, v3, v4, v5] W := (depsOf_row l0_0 z0_0 l1_0 z1_0 n2_0 n2_1 n2_2 n2_3 n2_4 n2_5 n2_6 n2_7 n2_8 l2_9 z2_9 n2_10 n3_0 n3_1 n3_2 n3_3 n3_4 n3_5 n3_6 n3_7 n3_8 l3_9 z3_9 n3_10 n4_0 n5_0 m0_0 k0_0 m1_0 k1_0 w2_0 w2_1 w2_2 w2_3 w2_4 w2_5 w2_6 w2_7 w2_8 m2_9 k2_9 w2_10 w3_0 w3_1 w3_2 w3_3 w3_4 w3_5 w3_6 w3_7 w3_8 m3_9 k3_9 w3_10 w4_0 w5_0).law (W := W) ⟨e0, e1, e2, e3, e4, e5, trivial⟩
  refine Calls.mono hlaw fun e W' ⟨he, hb⟩ => ?_
  subst he
  exact ⟨_, rfl, post_true (by kernel_rfl) (by kernel_rfl) (by kernel_rfl) Try.underlying4 rfl hW' rfl rfl rfl hb⟩

theorem over : Rows.depsOfRow.holds Try.pinned (OpenSpec.ofChange Rows.depsOfSpec) :=
  OpenClaim.holds_of_wide 13 Try.f13 rfl rfl rfl rfl rfl rfl rfl ⟨rfl, rfl, rfl, rfl, rfl⟩ rfl rfl rfl rfl rfl (by kernel_rfl) Try.func13 (by kernel_rfl)
    (of_decide_eq_true (by kernel_rfl)) (by unfold Func.isWrapper; first | (rw [if_pos (by decide +kernel)]; kernel_rfl) | (rw [if_neg (by decide +kernel)]; exact ⟨rfl, rfl⟩))
    (fun os started H enc _ => lifted os started H enc)

/-- The statement. -/
theorem proved : Rows.DepsOfSaid :=
  over
#print axioms proved
end Go.Proofs.Ytbhmplbckkipjaa.depsOf
