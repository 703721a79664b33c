/- OpDoes, OpOnce: the laws. -/
import Derived.Test.YtcagncomnjeinaaOpOf2
import Derived.Test.YtcagncomnjeinaaOpPut2
import Derived.Test.YtcagncomnjeinaaOpWord
import Derived.Test.YtcagncomnjeinaaEngBs
namespace Go.Proofs.Ytcagncomnjeinaa
open Go Go.Eng Go.RowKit
set_option maxRecDepth 100000
set_option maxHeartbeats 4000000
set_option linter.unusedVariables false
set_option linter.unusedSimpArgs false
theorem wordO_mode (k : Int) (h : (wordO k != ⟨#[]⟩) = false) : modeI k = 0 := by
  have hm : modeI k = modeI (kindO k) := by unfold kindO modeI; repeat' split <;> omega
  have hk := kindO_in k
  rw [hm]
  unfold wordO at h
  generalize kindO k = k at hk h
  rcases hk with rfl | rfl | rfl | rfl | rfl | rfl | rfl | rfl <;> first | rfl | exact absurd h (by decide)
theorem bao_eq {x y : ByteArray} : (x == y) = true ↔ x = y := by
  cases x; cases y
  rename_i x y
  show (x == y) = true ↔ _
  rw [beq_iff_eq, ByteArray.mk.injEq]
theorem ba_refl (x : ByteArray) : (x == x) = true := bao_eq.2 rfl
theorem locks_mode (k : Int) : (locksB k == (modeI k != 0)) = true := by
  rw [beq_iff_eq, Bool.eq_iff_iff]
  simp only [locksB, bne_iff_ne, ne_eq, decide_eq_true_eq]
  unfold modeI
  repeat' split
  all_goals omega
theorem does_fn (o : Opr) (l : List Int) (k : Int) (hl : l.length ≤ 9223372036854775807) (hb : Bytes l) : Eng.Fn Try.prog 12 [.a (encO o), .c (bytesX l), .c (.i .i64 k)] (Tells (.c (.b true))) := by
  refine Eng.Fn.of tab_ok Try.func12 (by kernel_rfl) (by kernel_rfl) (fun w0 => ?_)
  conv => whnf
  refine callx_as (.c .bt) op_awake rfl rfl trivial ?_
  conv => whnf
  refine And.intro (fun h1 => ?_) (fun h1 => ?_)
  · conv => whnf
  have h1 : ¬ (l.length : Int) > 60 := by simpa using h1
  conv => whnf
  have hof := opOf_fn l (by omega) hb
  refine callx_tells hof rfl (ofR_st _ _ _) ?_
  conv => whnf
  have hof := refOf_fn l (by omega) hb
  refine callx_tells hof rfl (ofR_st _ _ _) ?_
  conv => whnf
  refine callx_tells (refWord_fn k) rfl trivial ?_
  conv => whnf
  have hcell : entV (.a [.i .i64 k, .il .i64 0, .il .i64 0, .il .i64 0, .il .i64 0, .il .i64 0, .il .i64 0]) (.a (encO ⟨k, default, 0⟩)) := by
    repeat' (first | exact trivial | exact ⟨rfl, rfl⟩ | apply And.intro)
  refine And.intro (fun h2 => ?_) (fun h2 => ?_)
  · conv => whnf
    refine callx_says (refMode_fn ⟨k, default, 0⟩) ⟨hcell, trivial⟩ rfl trivial ?_
    conv => whnf
    refine drawx_pure tab_ok (by kernel_rfl) (by kernel_rfl) ?_
    conv => whnf
    repeat' (first
      | (refine callp_tells (check_fn o) rfl trivial ?_; conv => whnf)
      | (refine callp_tells (refCheck_fn o) rfl trivial ?_; conv => whnf)
      | (refine callp_tells (put_fn o) rfl trivial ?_; conv => whnf)
      | (refine callp_tells (refPut_fn o) rfl trivial ?_; conv => whnf)
      | (refine callp_tells (word_fn k) rfl trivial ?_; conv => whnf)
      | (refine callp_tells (refWord_fn k) rfl trivial ?_; conv => whnf)
      | (refine callp_lent (mode_fn ⟨k, default, 0⟩) ⟨hcell, trivial⟩ rfl rfl ?_; conv => whnf)
      | (refine callp_lent (locks_fn ⟨k, default, 0⟩) ⟨hcell, trivial⟩ rfl rfl ?_; conv => whnf)
      | (refine opp_str tab_ok (putB o) rfl rfl (fun _ _ => rfl) rfl rfl rfl rfl rfl rfl ?_; conv => whnf)
      | (refine And.intro (fun _ => ?_) (fun h => absurd (h.symm.trans (ba_refl _)) (by decide)); conv => whnf)
      | (refine And.intro (fun _ => ?_) (fun h => absurd h (by simp; done)); conv => whnf))
    exact locks_mode k
  · have hm0 := wordO_mode k h2
    conv => whnf
    refine drawx_pure tab_ok (by kernel_rfl) (by kernel_rfl) ?_
    conv => whnf
    repeat' (first
      | (refine callp_tells (check_fn o) rfl trivial ?_; conv => whnf)
      | (refine callp_tells (refCheck_fn o) rfl trivial ?_; conv => whnf)
      | (refine callp_tells (put_fn o) rfl trivial ?_; conv => whnf)
      | (refine callp_tells (refPut_fn o) rfl trivial ?_; conv => whnf)
      | (refine callp_tells (word_fn k) rfl trivial ?_; conv => whnf)
      | (refine callp_tells (refWord_fn k) rfl trivial ?_; conv => whnf)
      | (refine callp_lent (mode_fn ⟨k, default, 0⟩) ⟨hcell, trivial⟩ rfl rfl ?_; conv => whnf)
      | (refine callp_lent (locks_fn ⟨k, default, 0⟩) ⟨hcell, trivial⟩ rfl rfl ?_; conv => whnf)
      | (refine opp_str tab_ok (putB o) rfl rfl (fun _ _ => rfl) rfl rfl rfl rfl rfl rfl ?_; conv => whnf)
      | (refine And.intro (fun _ => ?_) (fun h => absurd (h.symm.trans (ba_refl _)) (by decide)); conv => whnf)
      | (refine And.intro (fun _ => ?_) (fun h => absurd h (by rw [hm0]; decide)); conv => whnf)
      | (refine And.intro (fun _ => ?_) (fun h => absurd h (by simp; done)); conv => whnf))
    have hlm := locks_mode k
    rw [hm0] at hlm
    exact hlm
theorem bytes_listI {n : Nat} {g : Nat → Int} (h : ∀ i, i < n → (Lit.int .u8 (g i)).wf = true) : Bytes (listI n g) := fun i => by
  show 0 ≤ (listI n g).getD i 0 ∧ (listI n g).getD i 0 ≤ 255
  rw [List.getD_eq_getElem?_getD]
  by_cases hi : i < n
  · have h1 := h i hi
    simp [Lit.wf] at h1
    have : (listI n g)[i]? = some (g i) := by simp [listI, hi]
    rw [this]
    have e1 : IntKind.u8.min = 0 := by decide
    have e2 : IntKind.u8.max = 255 := by decide
    rw [e1, e2] at h1
    exact h1
  · have : (listI n g)[i]? = none := List.getElem?_eq_none (by simp [listI]; omega)
    rw [this]; decide
theorem does_row (n0 n1 n2 n3 n4 n5 n6 : Int) (l : Nat) (g : Nat → Int) (k : Int) (_ : (Lit.int .i64 n0).wf = true) (_ : (Lit.int .i64 n1).wf = true) (_ : (Lit.int .i64 n2).wf = true) (_ : (Lit.int .i64 n3).wf = true) (_ : (Lit.int .i64 n4).wf = true) (_ : (Lit.int .i64 n5).wf = true) (_ : (Lit.int .i64 n6).wf = true)
    (m : l ≤ maxLen) (w : ∀ i, i < l → (Lit.int .u8 (g i)).wf = true) (_ : (Lit.int .i64 k).wf = true) :
    Eng.Fn Try.prog 12 [.a [.i .i64 n0, .i .i64 n1, .i .i64 n2, .i .i64 n3, .i .i64 n4, .i .i64 n5, .i .i64 n6], .c (.rs l 1 fun i _ => .i .u8 (g i)), .c (.i .i64 k)] (Tells (.c (.b true))) :=
  (does_fn ⟨n0, ⟨n1, n2, n3, n4, n5⟩, n6⟩ (listI l g) k (by simp [listI]; simp [maxLen] at m; omega) (bytes_listI w)).ask ⟨entL_refl _, bytes_of, entV_refl _, trivial⟩
end Go.Proofs.Ytcagncomnjeinaa
