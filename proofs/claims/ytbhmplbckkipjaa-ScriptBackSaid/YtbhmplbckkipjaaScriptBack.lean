/- A plan is told again of its bytes. -/
import Derived.Test.YtbhmplbckkipjaaRows
import Derived.Test.YtbhmplbckkipjaaScript12
import Derived.Test.YtbhmplbckkipjaaEngP3
import Derived.WalkKit
import Derived.ProofKit
import Derived.OpenShut
namespace Go.Proofs.Ytbhmplbckkipjaa.scriptBack
open Go.ChangeShapes Go.WideShapes Go.ChangeAt Go.RowKit Go.Eng
set_option linter.unusedVariables false

theorem own : ownKnob Try.prog.godebug = none := by kernel_rfl

set_option maxRecDepth 100000 in
theorem lifted (os : Os) (started : os.Started) (H : Type) (enc : TypeId × Value → H) :
    ReturnsInHanded {} Try.checked os 7 .any (Rows.scriptBackSpec.pre6 enc Try.prog Try.f7 Rows.scriptBackRow.domain false) (Rows.scriptBackSpec.post enc Try.prog Try.f7 false true false false) := by
  refine returnsInHanded_of_change (C := Try.checked) own started (by kernel_rfl) Try.func7
    (ChangeSpec.witness6 (enc := enc) (C := Try.checked) false ⟨#[], #[.agg #[.int .i64 0, .int .i64 0, .int .i64 0, .int .i64 0, .int .i64 0, .int .i64 0, .int .i64 0, .int .i64 0, .int .i64 0, .slice none 0 0, .slice none 0 0]], []⟩ 8 (by kernel_rfl) (by kernel_rfl) (by kernel_rfl) (by kernel_rfl)) ?_
  intro W base args ds gs before hval0 hW hcnd _
  have hval : ∀ (j : Nat) t v, Try.f7.params[j]? = some t → args[j]? = some v → Value.okWide Try.prog W .any base t v := hval0
  have hW' := hW
  obtain ⟨p, q, hA0, hV, rfl, hfz, hnd⟩ := hW
  have hA : DataW.TrodAll enc Try.prog W 0 (fun _ => true) true Try.f7.params.toList args.toList ds p := hA0
  rw [Try.params7] at hA hval
  obtain ⟨v0, vs0, d0, ds0, p0, q0, hargs, rfl, rfl, h0, r0⟩ := trodAll_cons hA
  obtain ⟨rfl, rfl, rfl⟩ := trodAll_nil r0
  obtain rfl : args = #[v0] := by cases args; simp_all
  obtain ⟨rfl, rfl⟩ := trodVars_none hV
  obtain ⟨xs0, f0, e0⟩ := open_agg (d := 24) (l := [.int .i64, .int .i64, .int .i64, .int .i64, .int .i64, .int .i64, .int .i64, .int .i64, .int .i64, .sl 1 [.sl 7 [.int .i64, .int .i64, .int .i64, .int .i64, .int .i64, .int .i64, .int .i64]], .sl 1 [.int .i64]]) (by kernel_rfl) (by kernel_rfl) (hval 0 29 v0 rfl rfl) h0
  obtain ⟨c0_0, y0_0, rfl, g0_0, f0⟩ := fits_cons f0
  obtain ⟨c0_1, y0_1, rfl, g0_1, f0⟩ := fits_cons f0
  obtain ⟨c0_2, y0_2, rfl, g0_2, f0⟩ := fits_cons f0
  obtain ⟨c0_3, y0_3, rfl, g0_3, f0⟩ := fits_cons f0
  obtain ⟨c0_4, y0_4, rfl, g0_4, f0⟩ := fits_cons f0
  obtain ⟨c0_5, y0_5, rfl, g0_5, f0⟩ := fits_cons f0
  obtain ⟨c0_6, y0_6, rfl, g0_6, f0⟩ := fits_cons f0
  obtain ⟨c0_7, y0_7, rfl, g0_7, f0⟩ := fits_cons f0
  obtain ⟨c0_8, y0_8, rfl, g0_8, f0⟩ := fits_cons f0
  obtain ⟨c0_9, y0_9, rfl, g0_9, f0⟩ := fits_cons f0
  obtain ⟨c0_10, y0_10, rfl, g0_10, f0⟩ := fits_cons f0
  obtain rfl := fits_nil f0
  obtain ⟨n0_0, rfl, w0_0⟩ := fit_int g0_0
  obtain ⟨n0_1, rfl, w0_1⟩ := fit_int g0_1
  obtain ⟨n0_2, rfl, w0_2⟩ := fit_int g0_2
  obtain ⟨n0_3, rfl, w0_3⟩ := fit_int g0_3
  obtain ⟨n0_4, rfl, w0_4⟩ := fit_int g0_4
  obtain ⟨n0_5, rfl, w0_5⟩ := fit_int g0_5
  obtain ⟨n0_6, rfl, w0_6⟩ := fit_int g0_6
  obtain ⟨n0_7, rfl, w0_7⟩ := fit_int g0_7
  obtain ⟨n0_8, rfl, w0_8⟩ := fit_int g0_8
  obtain ⟨l0_9, z0_9, rfl, m0_9, k0_9⟩ := fit_sl g0_9
  obtain ⟨l0_10, z0_10, rfl, m0_10, k0_10⟩ := fit_sl g0_10
  have hlaw : LawTrue Try.prog 7 #[v0] W := (back_row n0_0 n0_1 n0_2 n0_3 n0_4 n0_5 n0_6 n0_7 n0_8 l0_9 z0_9 l0_10 z0_10 w0_0 w0_1 w0_2 w0_3 w0_4 w0_5 w0_6 w0_7 w0_8 m0_9 k0_9 m0_10 k0_10).law (W := W) ⟨e0, trivial⟩
  refine Calls.mono hlaw fun e W' ⟨he, hb⟩ => ?_
  subst he
  exact ⟨_, rfl, post_true (by kernel_rfl) (by kernel_rfl) (by kernel_rfl) Try.underlying4 rfl hW' rfl rfl rfl hb⟩

theorem over : Rows.scriptBackRow.holds Try.pinned (OpenSpec.ofChange Rows.scriptBackSpec) :=
  OpenClaim.holds_of_wide 7 Try.f7 rfl rfl rfl rfl rfl rfl rfl ⟨rfl, rfl, rfl, rfl, rfl⟩ rfl rfl rfl rfl rfl (by kernel_rfl) Try.func7 (by kernel_rfl)
    (of_decide_eq_true (by kernel_rfl)) (by unfold Func.isWrapper; first | (rw [if_pos (by decide +kernel)]; kernel_rfl) | (rw [if_neg (by decide +kernel)]; exact ⟨rfl, rfl⟩))
    (fun os started H enc _ => lifted os started H enc)

/-- The statement. -/
theorem proved : Rows.ScriptBackSaid :=
  over
#print axioms proved
end Go.Proofs.Ytbhmplbckkipjaa.scriptBack
