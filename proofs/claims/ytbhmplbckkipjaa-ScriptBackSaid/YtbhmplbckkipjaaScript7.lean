/- The bytes of any plan: what they are. -/
import Derived.Test.YtbhmplbckkipjaaScript5
import Derived.Test.YtbhmplbckkipjaaOpLaw2
import Derived.Test.YtbhmplbckkipjaaEngGm
namespace Go.Proofs.Ytbhmplbckkipjaa
open Go Go.Eng Go.RowKit
set_option maxRecDepth 100000
set_option maxHeartbeats 4000000
set_option linter.unusedVariables false
set_option linter.unusedSimpArgs false
theorem u8_ok {n : Int} (h0 : 0 ≤ n) (h1 : n ≤ 255) : IntKind.u8.wrap n = n := by
  have : IntKind.u8.wrap n = n % 256 := by simp [IntKind.wrap, IntKind.bits, IntKind.signed]
  rw [this]; omega
theorem u8_mod {n : Int} (h0 : 0 ≤ n) : IntKind.u8.wrap n = n % 256 := by
  simp [IntKind.wrap, IntKind.bits, IntKind.signed]
def bsC (c : Cf) : List Int := [c.cl - 1, c.po, c.vi, c.he - 1, (c.re - 1) / 4, c.la - 1, (c.ti - 1) % 256, c.gr]
def bs0 (c : Cf) : List Int := if mayCf c then bsC c else [0, 0, 0, 0, 0, 0, 0, 0]
def okC (c : Cf) : Prop := mayCf c ∧ (c.re - 1) % 4 = 0 ∧ c.la ≤ 8 ∧ c.ti ≤ 256 ∧ c.gr ≤ 15 ∧ c.ck = 1048576
instance (c : Cf) : Decidable (okC c) := by unfold okC; infer_instance
def encB8 (l : List Int) : List XC := [.i .u8 (l.getD 0 0), .i .u8 (l.getD 1 0), .i .u8 (l.getD 2 0), .i .u8 (l.getD 3 0), .i .u8 (l.getD 4 0), .i .u8 (l.getD 5 0), .i .u8 (l.getD 6 0), .i .u8 (l.getD 7 0)]
theorem okC_iff {c : Cf} (h : mayCf c) : cfB (c.cl - 1) c.po c.vi (c.he - 1) ((c.re - 1) / 4) (c.la - 1) ((c.ti - 1) % 256) c.gr = c ↔ okC c := by
  unfold mayCf at h
  rw [Cf.eq_iff]
  unfold cfB okC mayCf
  dsimp only
  constructor
  · intro h'; refine ⟨h, ?_⟩; omega
  · intro h'; omega
theorem bytesC_fn (c : Cf) : Eng.Fn Try.prog 89 [.a (encCf c)] (Tells (.t [.a (encB8 (bs0 c)), .c (.b (decide (okC c)))])) := by
  refine Eng.Fn.of tab_ok Try.func89 (by kernel_rfl) (by kernel_rfl) (fun w0 => ?_)
  conv => whnf
  refine callx_tells (rightCf_fn c) rfl trivial ?_
  conv => whnf
  refine And.intro (fun h1 => ?_) (fun h1 => ?_)
  · have h1 : ¬ mayCf c := by simpa using h1
    have h2 : ¬ okC c := fun h => h1 h.1
    conv => whnf
    rw [bs0, if_neg h1]
    simp only [h2, decide_false]
    repeat' (first | exact trivial | rfl | exact ⟨rfl, rfl⟩ | apply And.intro)
  · have h1 : mayCf c := by simpa using h1
    have hm := id h1
    unfold mayCf at hm
    have w0 : IntKind.u8.wrap (IntKind.i64.wrap (c.cl - 1)) = c.cl - 1 := by rw [wrap_ok (by omega) (by omega)]; exact u8_ok (by omega) (by omega)
    have w1 : IntKind.u8.wrap c.po = c.po := u8_ok (by omega) (by omega)
    have w2 : IntKind.u8.wrap c.vi = c.vi := u8_ok (by omega) (by omega)
    have w3 : IntKind.u8.wrap (IntKind.i64.wrap (c.he - 1)) = c.he - 1 := by rw [wrap_ok (by omega) (by omega)]; exact u8_ok (by omega) (by omega)
    have w4 : IntKind.u8.wrap (IntKind.i64.wrap ((IntKind.i64.wrap (c.re - 1)).tdiv 4)) = (c.re - 1) / 4 := by
      rw [wrap_ok (n := c.re - 1) (by omega) (by omega), Int.tdiv_eq_ediv_of_nonneg (by omega), wrap_ok (by omega) (by omega)]; exact u8_ok (by omega) (by omega)
    have w5 : IntKind.u8.wrap (IntKind.i64.wrap (c.la - 1)) = c.la - 1 := by rw [wrap_ok (by omega) (by omega)]; exact u8_ok (by omega) (by omega)
    have w6 : IntKind.u8.wrap (IntKind.i64.wrap (c.ti - 1)) = (c.ti - 1) % 256 := by rw [wrap_ok (by omega) (by omega)]; exact u8_mod (by omega)
    have w7 : IntKind.u8.wrap c.gr = c.gr := u8_ok (by omega) (by omega)
    have hcf := config_fn (c.cl - 1) c.po c.vi (c.he - 1) ((c.re - 1) / 4) (c.la - 1) ((c.ti - 1) % 256) c.gr (by unfold Byte; omega) (by unfold Byte; omega) (by unfold Byte; omega) (by unfold Byte; omega) (by unfold Byte; omega) (by unfold Byte; omega) (by unfold Byte; omega) (by unfold Byte; omega)
    have hiff := okC_iff h1
    conv => whnf
    rw [w0, w1, w2, w3, w4, w5, w6, w7]
    refine drawx_plan tab_ok [1] (.take 0 (.take 1 (.take 3 (.one 2 (.take 4 (.one 5 (.take 6 .done))))))) (by kernel_rfl) (by kernel_rfl) (by kernel_rfl) ?_
    conv => whnf
    refine callf_lent hcf ⟨entV_refl _, trivial⟩ rfl rfl ?_
    conv => whnf
    rw [eqCf, bs0, if_pos h1, decide_eq_decide.2 hiff]
    repeat' (first | exact trivial | rfl | exact ⟨rfl, rfl⟩ | apply And.intro)
def opB (k : Nat) (os : List Opr) : List Int := os.flatMap fun o => (128 + (k : Int)) :: putB o
def outB (c : Cf) (s : ScS) (k : Nat) : List Int := bsC c ++ (List.range k).flatMap fun i => opB i (s.ops.getD i [])
def okPl (c : Cf) (s : ScS) : Prop := okC c ∧ (s.ops.length : Int) = c.cl ∧ s.pk.length ≤ 4096 ∧ (∀ k, k < s.ops.length → (s.ops.getD k []).length ≤ 64 ∧ ∀ j, j < (s.ops.getD k []).length → OkP ((s.ops.getD k []).getD j default)) ∧ ∀ k, k < s.pk.length → 0 ≤ s.pk.getD k 0 ∧ s.pk.getD k 0 ≤ c.cl + 1
noncomputable instance (c : Cf) (s : ScS) : Decidable (okPl c s) := Classical.propDecidable _
noncomputable def putI (c : Cf) (s : ScS) : List Int × Int := if okPl c s then (outB c s s.ops.length ++ s.pk, 0) else ([], 4)
theorem put_no {c : Cf} {s : ScS} (h : ¬ okPl c s) : putI c s = ([], 4) := if_neg h
theorem put_yes {c : Cf} {s : ScS} (h : okPl c s) : putI c s = (outB c s s.ops.length ++ s.pk, 0) := if_pos h
theorem outB_succ (c : Cf) (s : ScS) (k : Nat) : outB c s (k + 1) = outB c s k ++ opB k (s.ops.getD k []) := by
  unfold outB
  rw [List.range_succ, List.flatMap_append, List.append_assoc]
  simp
theorem opB_snoc (k : Nat) (os : List Opr) (o : Opr) : opB k (os ++ [o]) = opB k os ++ ((128 + (k : Int)) :: putB o) := by
  unfold opB
  rw [List.flatMap_append]; simp
theorem opB_len (k : Nat) : ∀ os : List Opr, (opB k os).length ≤ 21 * os.length
  | [] => Nat.le_refl 0
  | o :: os => by
    have h1 := opB_len k os
    have h2 := putB_len o
    have h3 : opB k (o :: os) = ((128 + (k : Int)) :: putB o) ++ opB k os := by unfold opB; rw [List.flatMap_cons]
    rw [h3]
    simp only [List.length_append, List.length_cons]
    omega
theorem rowsOf8 (c : Cf) (f : Nat → Nat → XC) (h : ∀ i, i < 8 → f i 0 = .i .u8 ((bsC c).getD i 0)) : rowsOf 8 1 f = (bsC c).map fun n => [XC.i .u8 n] := by
  show [[f 0 0], [f 1 0], [f 2 0], [f 3 0], [f 4 0], [f 5 0], [f 6 0], [f 7 0]] = _
  rw [h 0 (by decide), h 1 (by decide), h 2 (by decide), h 3 (by decide), h 4 (by decide), h 5 (by decide), h 6 (by decide), h 7 (by decide)]
  rfl
abbrev tsC (c : Cf) : XC := .ts 8 1 fun i _ => .i .u8 ((bsC c).getD i 0)
theorem ts_out (c : Cf) : entC (tsC c) (bytesX (bsC c)) := ⟨rfl, rfl, fun i hi j hj => entC_refl _⟩
end Go.Proofs.Ytbhmplbckkipjaa
