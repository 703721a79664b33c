/- op.Put: the bytes of an operation. -/
import Derived.Test.YtbhmplbckkipjaaOps
namespace Go.Proofs.Ytbhmplbckkipjaa
open Go Go.Eng Go.RowKit
set_option maxRecDepth 100000
set_option maxHeartbeats 4000000
set_option linter.unusedVariables false
set_option linter.unusedSimpArgs false
def putB (o : Opr) : List Int := if OkP o then (o.k * 8 + o.p.n) :: (([o.p.a, o.p.b, o.p.c, o.p.d].take o.p.n.toNat).flatMap (fun x => [x / 256, x % 256]) ++ (if o.k = 4 then [o.v / 16777216, o.v / 65536 % 256, o.v / 256 % 256, o.v % 256] else [])) else []
theorem nil_bytes : entC (.v (.slice none 0 0)) (bytesX []) := ⟨rfl, rfl⟩
theorem bytes_ent3 {l : List Int} {xs : List (List XC)} (h : xs = l.map fun n => [.i .u8 n]) : entC (rsOf xs 1) (bytesX l) := by
  subst h
  refine ⟨by simp, rfl, fun i hi j hj => ?_⟩
  refine entC_of_eq ?_
  show cell2 _ i j = _
  unfold cell2
  rw [nthL_map _ 0 l i hi]
  have : j = 0 := by omega
  subst this; rfl
theorem OkP.nums {o : Opr} (h : OkP o) : (o.p.n = 0 ∨ o.p.n = 1 ∨ o.p.n = 2 ∨ o.p.n = 3 ∨ o.p.n = 4) ∧ (1 ≤ o.k ∧ o.k ≤ 7) ∧ (0 ≤ o.p.a ∧ o.p.a ≤ 999) ∧ (0 ≤ o.p.b ∧ o.p.b ≤ 999) ∧ (0 ≤ o.p.c ∧ o.p.c ≤ 999) ∧ (0 ≤ o.p.d ∧ o.p.d ≤ 999) ∧ (0 ≤ o.v ∧ o.v ≤ 1073741824) := by
  unfold OkP MayP at h
  omega
theorem pw {m : Int} {r : Int} (h : (2 : Int) ^ min m.toNat IntKind.i64.bits = r) (hr : 0 < r) (x : Int) (hx : 0 ≤ x) : IntKind.u8.wrap (x.fdiv (2 ^ min m.toNat IntKind.i64.bits)) = x / r % 256 := by
  rw [h, Int.fdiv_eq_ediv_of_nonneg _ (by omega), IntKind.wrap_u8]
theorem pwr {m r x y : Int} (h : (2 : Int) ^ min m.toNat IntKind.i64.bits = r) (hr : 0 < r) (hx : 0 ≤ x) (hy : x / r % 256 = y) : IntKind.u8.wrap (x.fdiv (2 ^ min m.toNat IntKind.i64.bits)) = y := (pw h hr x hx).trans hy
theorem hd8 {k n : Int} (hk : 1 ≤ k ∧ k ≤ 7) (hn : 0 ≤ n ∧ n ≤ 4) : IntKind.u8.wrap (IntKind.i64.wrap (IntKind.i64.wrap (k * 2 ^ min (Int.toNat 3) IntKind.i64.bits) + n)) = k * 8 + n := by
  have e : (2 : Int) ^ min (Int.toNat 3) IntKind.i64.bits = 8 := by decide
  rw [e]
  simp only [IntKind.wrap_i64, IntKind.wrap_u8]; omega
theorem cons_byte {x y : Int} {l m : List (List XC)} (h : x = y) (h2 : l = m) : [XC.i .u8 x] :: l = [XC.i .u8 y] :: m := by rw [h, h2]
theorem put_fn (o : Opr) : Eng.Fn Try.prog 90 [.a (encO o)] (Tells (.c (bytesX (putB o)))) := by
  by_cases ho : OkP o
  · obtain ⟨hn, hk, ha, hb, hc, hd, hv⟩ := ho.nums
    obtain ⟨k, ⟨a, b, c, d, n⟩, v⟩ := o
    dsimp only at hn hk ha hb hc hd hv
    have hok : okI ⟨k, ⟨a, b, c, d, n⟩, v⟩ = 0 := if_pos ho
    rcases hn with rfl | rfl | rfl | rfl | rfl
    all_goals
      unfold encO
      dsimp only
      refine Eng.Fn.ofZ tab_ok Try.func90 (by kernel_rfl) (by kernel_rfl) trivial (fun w0 => ?_)
      conv => whnf
      refine callx_tells (check_fn ⟨k, ⟨a, b, c, d, _⟩, v⟩) rfl trivial ?_
      conv => whnf
      refine And.intro (fun h => absurd h (by rw [hok]; decide)) (fun _ => ?_)
      conv => whnf
      refine And.intro (by decide) ?_
      conv => whnf
      repeat' (first
        | (refine loopx_rounds tab_ok 6 ?_; conv => whnf)
        | (refine And.intro (fun h => absurd h (by decide)) (fun _ => ?_); conv => whnf)
        | (refine And.intro (fun _ => ?_) (fun h => absurd h (by decide)); conv => whnf)
        | (refine And.intro (by simp only [List.length_cons, List.length_nil, List.length_append]; omega) ?_; conv => whnf)
        | (refine And.intro (by decide) ?_; conv => whnf)
        | (refine And.intro rfl ?_; conv => whnf)
        | (refine callx_inline tab_ok Try.func119 (by kernel_rfl) (by kernel_rfl) (fun vs => ?_); conv => whnf)
        | (apply And.intro <;> intro h4 <;> conv => whnf))
    all_goals
      refine bytes_ent3 ?_
      rw [putB, if_pos ho]
      simp only [beq_iff_eq, beq_eq_false_iff_ne, ne_eq] at h4
      simp only [h4, if_true, if_false]
      show _ = List.map _ (_ :: _)
      repeat' (first | exact (rfl : ([] : List (List XC)) = []) | refine cons_byte ?_ ?_)
      all_goals first
        | exact hd8 (by omega) (by decide)
        | exact pwr (r := 1) (by decide) (by decide) (by omega) (by omega)
        | exact pwr (r := 256) (by decide) (by decide) (by omega) (by omega)
        | exact pwr (r := 65536) (by decide) (by decide) (by omega) (by omega)
        | exact pwr (r := 16777216) (by decide) (by decide) (by omega) (by omega)
  · refine Eng.Fn.ofZ tab_ok Try.func90 (by kernel_rfl) (by kernel_rfl) trivial (fun w0 => ?_)
    have hok : okI o = 60 := if_neg ho
    conv => whnf
    refine callx_tells (check_fn o) rfl trivial ?_
    conv => whnf
    refine And.intro (fun _ => ?_) (fun h => absurd h (by rw [hok]; decide))
    conv => whnf
    rw [putB, if_neg ho]
    exact nil_bytes
end Go.Proofs.Ytbhmplbckkipjaa
