/- The phases of a client: what each function of them comes to. -/
import Derived.Test.YtcagncomnjeinaaTab
import Derived.Test.YtcagncomnjeinaaEngP
namespace Go.Proofs.Ytcagncomnjeinaa
open Go Go.Eng Go.RowKit
set_option maxRecDepth 100000
def waysL : List Int := [0,0, 0,1, 0,8, 0,9, 1,2, 1,6, 1,8, 2,3, 3,4, 4,0, 4,1, 4,5, 4,7, 4,8, 4,9, 5,1, 5,2, 5,8, 6,0, 6,2, 6,8, 7,0, 7,2, 8,8, 8,9, 9,2]
def wayB (a b : Int) : List Int → Bool
  | x :: y :: l => (x == a && y == b) || wayB a b l
  | _ => false
def mayB (a b : Int) : Bool := wayB a b waysL || (a == 9 && b == 0)
theorem all_fn : Eng.Fn Try.prog 66 [] (Tells (.a (waysL.map (XC.i .i64)))) := by
  refine Eng.Fn.of tab_ok Try.func66 (by kernel_rfl) (by kernel_rfl) (fun w0 => ?_)
  conv => whnf
  simp [entC, entL]
theorem may_fn (a b : Int) : Eng.Fn Try.prog 18 [.c (.i .i64 a), .c (.i .i64 b)] (Tells (.c (.b (mayB a b)))) := by
  refine Eng.Fn.of tab_ok Try.func18 (by kernel_rfl) (by kernel_rfl) (fun w0 => ?_)
  conv => whnf
  refine callx_tells all_fn rfl (by simp [stX, waysL, St]) ?_
  conv => whnf
  refine loopx_rounds tab_ok 27 ?_
  conv => whnf
  repeat' (apply And.intro <;> intro h <;> conv => whnf)
  all_goals simp only [mayB, waysL, wayB, *, Bool.true_or, Bool.false_or, Bool.or_true, Bool.true_and, Bool.false_and]
def wordOf (a : Int) : ByteArray := if a < 0 then .empty else (([⟨#[105, 100, 108, 101]⟩, ⟨#[110, 101, 101, 100]⟩, ⟨#[108, 97, 116, 99, 104]⟩, ⟨#[97, 99, 116]⟩, ⟨#[117, 110, 108, 97, 116, 99, 104]⟩, ⟨#[115, 108, 101, 101, 112]⟩, ⟨#[100, 97, 116, 97]⟩, ⟨#[115, 104, 101, 100]⟩, ⟨#[117, 110, 100, 111]⟩, ⟨#[102, 114, 101, 101]⟩] : List ByteArray)[a.toNat]?).getD .empty
theorem wordOf_neg {a : Int} (h : a < 0) : wordOf a = .empty := by simp [wordOf, h]
theorem wordOf_big {a : Int} (h : 10 ≤ a) : wordOf a = .empty := by
  unfold wordOf
  rw [if_neg (by omega), List.getElem?_eq_none (by simp; omega)]; rfl
theorem word_fn (a : Int) : Eng.Fn Try.prog 20 [.c (.i .i64 a)] (Tells (.c (.v (.string (wordOf a))))) := by
  refine Eng.Fn.of tab_ok Try.func20 (by kernel_rfl) (by kernel_rfl) (fun w0 => ?_)
  conv => whnf
  refine ⟨fun h => ?_, fun h => ?_⟩
  · conv => whnf
    rw [wordOf_neg (by simpa using h)]; rfl
  · conv => whnf
    refine ⟨fun h => ?_, fun h => ?_⟩
    · conv => whnf
      rw [wordOf_big (by simpa using h)]; rfl
    · have : a = 0 ∨ a = 1 ∨ a = 2 ∨ a = 3 ∨ a = 4 ∨ a = 5 ∨ a = 6 ∨ a = 7 ∨ a = 8 ∨ a = 9 := by simp at *; omega
      rcases this with rfl | rfl | rfl | rfl | rfl | rfl | rfl | rfl | rfl | rfl <;> conv => whnf
      all_goals
        refine ⟨by omega, ?_⟩
        conv => whnf
        rfl
theorem phase_fn (a : Int) : Eng.Fn Try.prog 21 [.c (.i .i64 a)] (Tells (.c (.v (.string (wordOf a))))) := by
  refine Eng.Fn.of tab_ok Try.func21 (by kernel_rfl) (by kernel_rfl) (fun w0 => ?_)
  conv => whnf
  refine ⟨fun h => ?_, fun h => ?_⟩
  · conv => whnf
    rw [wordOf_neg (by simpa using h)]; rfl
  · conv => whnf
    refine ⟨fun h => ?_, fun h => ?_⟩
    · conv => whnf
      rw [wordOf_big (by simp at h; omega)]; rfl
    · have : a = 0 ∨ a = 1 ∨ a = 2 ∨ a = 3 ∨ a = 4 ∨ a = 5 ∨ a = 6 ∨ a = 7 ∨ a = 8 ∨ a = 9 := by simp at *; omega
      rcases this with rfl | rfl | rfl | rfl | rfl | rfl | rfl | rfl | rfl | rfl <;> conv => whnf
      all_goals
        refine ⟨by simp, ?_⟩
        conv => whnf
        refine ⟨_, rfl, ?_⟩
        rfl

def stepL : List (List Int) := [[0, 1, 8, 9], [2, 6, 8], [3], [4], [0, 1, 5, 7, 8, 9], [1, 2, 8], [0, 2, 8], [0, 2], [8, 9], [0, 2]]
def inB (b : Int) : List Int → Bool
  | [] => false
  | x :: l => x == b || inB b l
def stepB (a b : Int) : Bool := inB b (if a < 0 then [] else (stepL[a.toNat]?).getD [])
theorem stepB_neg {a b : Int} (h : a < 0) : stepB a b = false := by simp [stepB, h, inB]
theorem stepB_big {a b : Int} (h : 10 ≤ a) : stepB a b = false := by
  unfold stepB
  rw [if_neg (by omega), List.getElem?_eq_none (by simp [stepL]; omega)]; rfl
theorem step_fn (a b : Int) : Eng.Fn Try.prog 19 [.c (.i .i64 a), .c (.i .i64 b)] (Tells (.c (.b (stepB a b)))) := by
  refine Eng.Fn.of tab_ok Try.func19 (by kernel_rfl) (by kernel_rfl) (fun w0 => ?_)
  conv => whnf
  refine ⟨fun h => ?_, fun h => ?_⟩
  · conv => whnf
    rw [stepB_neg (by simpa using h)]
  · conv => whnf
    refine ⟨fun h => ?_, fun h => ?_⟩
    · conv => whnf
      rw [stepB_big (by simp at h; omega)]
    · have : a = 0 ∨ a = 1 ∨ a = 2 ∨ a = 3 ∨ a = 4 ∨ a = 5 ∨ a = 6 ∨ a = 7 ∨ a = 8 ∨ a = 9 := by simp at *; omega
      rcases this with rfl | rfl | rfl | rfl | rfl | rfl | rfl | rfl | rfl | rfl <;> conv => whnf
      all_goals
        refine ⟨by simp, ?_⟩
        conv => whnf
        refine ⟨_, rfl, ?_⟩
        conv => whnf
        refine loopx_rounds tab_ok 7 ?_
        conv => whnf
        repeat' (first
          | (refine And.intro (fun _ => ?_) (fun h => absurd h (by decide)); conv => whnf)
          | (refine And.intro (fun h => absurd h (by decide)) (fun _ => ?_); conv => whnf)
          | (apply And.intro <;> intro h <;> conv => whnf)
          | (refine And.intro (by decide) ?_; conv => whnf)
          | (refine Exists.intro _ (And.intro rfl ?_); conv => whnf))
        all_goals ((conv in stepB _ _ => (unfold stepB; arg 2; whnf)); simp only [inB, *, Bool.true_or, Bool.false_or, Bool.or_true])

theorem ba_eq {x y : ByteArray} : (x == y) = true ↔ x = y := by
  cases x; cases y
  rename_i x y
  show (x == y) = true ↔ _
  rw [beq_iff_eq, ByteArray.mk.injEq]
theorem may_step (a b : Int) : mayB a b = stepB a b := by
  by_cases h0 : a < 0
  · rw [stepB_neg h0, Bool.eq_false_iff]; simp [mayB, waysL, wayB]; omega
  by_cases h1 : 10 ≤ a
  · rw [stepB_big h1, Bool.eq_false_iff]; simp [mayB, waysL, wayB]; omega
  have : a = 0 ∨ a = 1 ∨ a = 2 ∨ a = 3 ∨ a = 4 ∨ a = 5 ∨ a = 6 ∨ a = 7 ∨ a = 8 ∨ a = 9 := by omega
  rw [Bool.eq_iff_iff]
  rcases this with rfl | rfl | rfl | rfl | rfl | rfl | rfl | rfl | rfl | rfl <;> simp [mayB, waysL, wayB, stepB, stepL, inB] <;> omega
theorem word_empty (a : Int) : (wordOf a == ⟨#[]⟩) = (decide (a < 0) || decide (a > 9)) := by
  by_cases h0 : a < 0
  · rw [wordOf_neg h0]; simp [h0]; rfl
  by_cases h1 : 10 ≤ a
  · rw [wordOf_big h1]; have : a > 9 := by omega
    simp [this]; rfl
  have : a = 0 ∨ a = 1 ∨ a = 2 ∨ a = 3 ∨ a = 4 ∨ a = 5 ∨ a = 6 ∨ a = 7 ∨ a = 8 ∨ a = 9 := by omega
  rcases this with rfl | rfl | rfl | rfl | rfl | rfl | rfl | rfl | rfl | rfl <;> decide
theorem word_inj (a b : Int) (h : (decide (a < 0) || decide (a > 9)) = false) : (wordOf a == wordOf b) = (a == b) := by
  have hb := word_empty b
  by_cases hab : a = b
  · subst hab; simp only [beq_self_eq_true]; exact ba_eq.2 rfl
  · have e : (a == b) = false := by simpa using hab
    rw [e, Bool.eq_false_iff]
    intro hw
    have hw : wordOf a = wordOf b := ba_eq.1 hw
    have hbb : (decide (b < 0) || decide (b > 9)) = false := by rw [← hb, ← hw, word_empty, h]
    simp only [Bool.or_eq_false_iff, decide_eq_false_iff_not] at h hbb
    have h1 : a = 0 ∨ a = 1 ∨ a = 2 ∨ a = 3 ∨ a = 4 ∨ a = 5 ∨ a = 6 ∨ a = 7 ∨ a = 8 ∨ a = 9 := by omega
    have h2 : b = 0 ∨ b = 1 ∨ b = 2 ∨ b = 3 ∨ b = 4 ∨ b = 5 ∨ b = 6 ∨ b = 7 ∨ b = 8 ∨ b = 9 := by omega
    have hs : (wordOf a).data.toList.map UInt8.toNat = (wordOf b).data.toList.map UInt8.toNat := by rw [hw]
    clear hw hb
    have key : ∀ i : Fin 10, ∀ j : Fin 10, (wordOf i.val).data.toList.map UInt8.toNat = (wordOf j.val).data.toList.map UInt8.toNat → i = j := by decide +kernel
    have hi : a = ((⟨a.toNat, by omega⟩ : Fin 10).val : Int) := by simp; omega
    have hj : b = ((⟨b.toNat, by omega⟩ : Fin 10).val : Int) := by simp; omega
    rw [hi, hj] at hs
    have := key _ _ hs
    simp at this
    omega
theorem may_self (a : Int) : mayB a a = (a == 0 || a == 8) := by
  rw [may_step]
  by_cases h0 : a < 0
  · rw [stepB_neg h0, eq_comm, Bool.eq_false_iff]; simp; omega
  by_cases h1 : 10 ≤ a
  · rw [stepB_big h1, eq_comm, Bool.eq_false_iff]; simp; omega
  have : a = 0 ∨ a = 1 ∨ a = 2 ∨ a = 3 ∨ a = 4 ∨ a = 5 ∨ a = 6 ∨ a = 7 ∨ a = 8 ∨ a = 9 := by omega
  rcases this with rfl | rfl | rfl | rfl | rfl | rfl | rfl | rfl | rfl | rfl <;> decide
theorem may13 : mayB 1 3 = false := by decide
theorem may23 : mayB 2 3 = true := by decide
theorem awake_fn : Eng.Fn Try.prog 17 [] (Tells (.c (.b true))) := by
  refine Eng.Fn.of tab_ok Try.func17 (by kernel_rfl) (by kernel_rfl) (fun w0 => ?_)
  conv => whnf
  refine callx_as (.c .bf) (may_fn _ _) rfl may13 trivial ?_
  conv => whnf
  refine callx_as (.c .bt) (may_fn _ _) rfl may23 trivial ?_
  conv => whnf
  refine callx_tells (word_fn _) rfl trivial ?_
  conv => whnf
  decide
theorem ways_fn (a b : Int) : Eng.Fn Try.prog 4 [.c (.i .i64 a), .c (.i .i64 b)] (Tells (.c (.b true))) := by
  refine Eng.Fn.of tab_ok Try.func4 (by kernel_rfl) (by kernel_rfl) (fun w0 => ?_)
  conv => whnf
  refine callx_as (.c .bt) awake_fn rfl rfl trivial ?_
  conv => whnf
  refine callx_tells (may_fn _ _) rfl trivial ?_
  conv => whnf
  refine callx_tells (step_fn _ _) rfl trivial ?_
  conv => whnf
  refine And.intro (fun h => ?_) (fun h => ?_)
  · conv => whnf
    refine callx_tells (word_fn _) rfl trivial ?_
    conv => whnf
    refine callx_tells (phase_fn _) rfl trivial ?_
    conv => whnf
    exact ba_eq.2 rfl
  · simp [may_step] at h
theorem words_fn (a b : Int) : Eng.Fn Try.prog 5 [.c (.i .i64 a), .c (.i .i64 b)] (Tells (.c (.b true))) := by
  refine Eng.Fn.of tab_ok Try.func5 (by kernel_rfl) (by kernel_rfl) (fun w0 => ?_)
  conv => whnf
  refine callx_as (.c .bt) awake_fn rfl rfl trivial ?_
  conv => whnf
  refine callx_tells (word_fn _) rfl trivial ?_
  conv => whnf
  refine callx_tells (word_fn _) rfl trivial ?_
  conv => whnf
  have e0 := word_empty a
  have e1 := word_inj a b
  repeat' (apply And.intro <;> intro h <;> conv => whnf)
  all_goals first
    | (exfalso
       rw [e0] at *
       generalize decide (a < 0) = d at *
       generalize decide (a > 9) = g at *
       generalize (wordOf a == wordOf b) = p at *
       generalize (a == b) = q at *
       cases d <;> cases g <;> cases p <;> cases q <;> simp_all
       done)
    | (refine callx_tells (may_fn _ _) rfl trivial ?_
       conv => whnf
       repeat' (apply And.intro <;> intro h <;> conv => whnf)
       all_goals (rw [may_self]; simp_all; done))
end Go.Proofs.Ytcagncomnjeinaa
