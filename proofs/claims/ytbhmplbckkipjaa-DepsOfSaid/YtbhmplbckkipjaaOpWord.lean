/- Operations' words, modes by the document; the chapter's example. -/
import Derived.Test.YtbhmplbckkipjaaOpOf
import Derived.Test.YtbhmplbckkipjaaOpPut
import Derived.Test.YtbhmplbckkipjaaEngZ
namespace Go.Proofs.Ytbhmplbckkipjaa
open Go Go.Eng Go.RowKit
set_option maxRecDepth 100000
set_option maxHeartbeats 4000000
set_option linter.unusedVariables false
set_option linter.unusedSimpArgs false
def kindO (k : Int) : Int := if k < 1 ∨ k > 7 then 0 else k
def wordO (k : Int) : ByteArray := (([⟨#[]⟩, ⟨#[98, 101, 103, 105, 110]⟩, ⟨#[114, 101, 97, 100]⟩, ⟨#[117, 112, 100, 97, 116, 101]⟩, ⟨#[119, 114, 105, 116, 101]⟩, ⟨#[115, 99, 97, 110]⟩, ⟨#[99, 111, 109, 109, 105, 116]⟩, ⟨#[97, 98, 111, 114, 116]⟩] : List ByteArray)[(kindO k).toNat]?).getD .empty
theorem kindO_fn (k : Int) : Eng.Fn Try.prog 115 [.c (.i .i64 k)] (Tells (.c (.i .i64 (kindO k)))) := by
  refine Eng.Fn.of tab_ok Try.func115 (by kernel_rfl) (by kernel_rfl) (fun w0 => ?_)
  conv => whnf
  repeat' (apply And.intro <;> intro h <;> conv => whnf)
  all_goals
    simp only [decide_eq_true_eq, decide_eq_false_iff_not] at *
    refine ⟨trivial, ?_⟩
    unfold kindO; split <;> omega
theorem refMode_fn (o : Opr) : Eng.Fn Try.prog 76 [.a (encO o)] (Tells (.c (.i .i64 (modeI o.k)))) := by
  refine Eng.Fn.of tab_ok Try.func76 (by kernel_rfl) (by kernel_rfl) (fun w0 => ?_)
  conv => whnf
  refine callx_tells (kindO_fn o.k) rfl trivial ?_
  have hk : kindO o.k = 0 ∨ kindO o.k = 1 ∨ kindO o.k = 2 ∨ kindO o.k = 3 ∨ kindO o.k = 4 ∨ kindO o.k = 5 ∨ kindO o.k = 6 ∨ kindO o.k = 7 := by unfold kindO; split <;> omega
  have hm : modeI o.k = modeI (kindO o.k) := by unfold kindO modeI; repeat' split <;> omega
  rw [hm]
  generalize kindO o.k = k at hk
  rcases hk with rfl | rfl | rfl | rfl | rfl | rfl | rfl | rfl
  all_goals
    conv => whnf
    refine ⟨by simp, ?_⟩
    conv => whnf
    refine ⟨_, rfl, ?_⟩
    exact ⟨rfl, rfl⟩
theorem kindO_in (k : Int) : kindO k = 0 ∨ kindO k = 1 ∨ kindO k = 2 ∨ kindO k = 3 ∨ kindO k = 4 ∨ kindO k = 5 ∨ kindO k = 6 ∨ kindO k = 7 := by unfold kindO; split <;> omega
theorem bytes_ent4 {l : List Int} {xs : List (List XC)} (h : entLL xs (l.map fun n => [.i .u8 n])) : entC (rsOf xs 1) (bytesX l) := by
  have hl := entLL_len h
  refine ⟨by simpa using hl, rfl, fun i hi j hj => ?_⟩
  have h1 := nthC_ent (nthL_ent h i (by rw [hl]; simpa using hi)) j
  rw [nthL_map _ 0 l i hi] at h1
  obtain rfl : j = 0 := by omega
  exact h1
theorem ofR_st (o : Opr) (a b : Int) : stX (.t [.a (encO o), .c (.i .i64 a), .c (.i .i64 b)]) := by
  intro x hx
  simp only [List.mem_cons, List.not_mem_nil, or_false] at hx
  rcases hx with rfl | rfl | rfl
  · exact fun y hy => allSt_iff (l := encO o) rfl y hy
  · trivial
  · trivial
end Go.Proofs.Ytbhmplbckkipjaa
