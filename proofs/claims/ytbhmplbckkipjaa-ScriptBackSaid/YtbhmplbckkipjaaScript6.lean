/- The plan of any bytes: its machine may be, and each operation may be, or is the zero one. -/
import Derived.Test.YtbhmplbckkipjaaScript5
namespace Go.Proofs.Ytbhmplbckkipjaa
open Go Go.Eng Go.RowKit
set_option maxRecDepth 100000
set_option maxHeartbeats 4000000
set_option linter.unusedVariables false
set_option linter.unusedSimpArgs false
theorem mayCf_cfL (l : List Int) (hb : ∀ k, Byte (l.getD k 0)) : mayCf (cfL l) := by
  have h0 := hb 0; have h1 := hb 1; have h2 := hb 2; have h3 := hb 3; have h4 := hb 4; have h5 := hb 5; have h6 := hb 6; have h7 := hb 7
  unfold Byte at h0 h1 h2 h3 h4 h5 h6 h7
  unfold mayCf cfL cfB
  dsimp only
  omega
theorem takes_fn (l : List Int) (hl : l.length ≤ 9223372036854775807) (hb : ∀ k, Byte (l.getD k 0)) : Eng.Fn Try.prog 6 [.c (bytesX l)] (Tells (.c (.b true))) := by
  refine Eng.Fn.of tab_ok Try.func6 (by kernel_rfl) (by kernel_rfl) (fun w0 => ?_)
  conv => whnf
  refine callx_as (.c .bt) sc_awake rfl rfl trivial ?_
  conv => whnf
  refine And.intro (fun h1 => ?_) (fun h1 => ?_)
  · conv => whnf
    first | rfl | skip
  have h1 : l.length ≤ 1000 := by simp at h1; omega
  have hI := takeS_i l hb
  have hcl := cfL_cl l hb
  have hmc := mayCf_cfL l hb
  have hT := take_fn l hb (by omega)
  have hR := refTake_fn l hb (by omega)
  generalize takeS l = s at *
  generalize cfL l = c at *
  have hol : s.ops.length ≤ 8 := by have := hI.on; omega
  have hsm := samePlan_fn c c s s (by omega) (by have := hI.pl; omega) (fun k => by have := hI.ol k; omega)
  have hsc := same_sc_fn c c s s (by omega) (by have := hI.pl; omega) (fun k => by have := hI.ol k; omega)
  have hri := rightCf_fn c
  simp only [and_self, decide_true] at hsm hsc
  rw [decide_eq_true hmc] at hri
  conv => whnf
  refine callx_says hT ⟨entV_refl _, trivial⟩ rfl (planX_st _ _) ?_
  conv => whnf
  refine drawx_pure tab_ok (by kernel_rfl) (by kernel_rfl) ?_
  conv => whnf
  refine callp_tells hR rfl (planX_st _ _) ?_
  conv => whnf
  refine callp_tells hsm rfl trivial ?_
  conv => whnf
  refine And.intro (fun h => absurd h (by simp)) (fun _ => ?_)
  conv => whnf
  refine callp_tells hri rfl trivial ?_
  conv => whnf
  refine And.intro (fun h => absurd h (by simp)) (fun _ => ?_)
  conv => whnf
  have hon := hI.on
  refine And.intro (fun h => absurd h (by rw [hon]; simp)) (fun _ => ?_)
  conv => whnf
  refine loopi tab_ok (fun k => k ≤ s.ops.length) (fun k => [(0, .c (bytesX l)), (3, .c (.p 0 0)), (36, .c (rowX encOpsS [] 1 s.ops)), (37, .c (.i .i64 s.ops.length)), (38, .c (.i .i64 k))])
    (fun k => [.cells 29 [.i .i64 c.cl, .i .i64 c.po, .i .i64 c.vi, .i .i64 c.he, .i .i64 c.re, .i .i64 c.la, .i .i64 c.ti, .i .i64 c.gr, .i .i64 c.ck, rowX encOpsS [] 1 s.ops, intsX s.pk]]) (fun k => s.ops.length - k) 0 _ rfl (Nat.zero_le _) ?_ (fun k hk => ?_)
  · refine ⟨?_, ?_, rfl⟩ <;> repeat' (first | exact trivial | exact entV_refl _ | exact entC_refl _ | exact ⟨rfl, rfl⟩ | rfl | apply And.intro)
  · conv => whnf
    refine And.intro (fun h3 => ?_) (fun h3 => ?_)
    · have h3 : k < s.ops.length := by simp at h3; omega
      conv => whnf
      refine ⟨by omega, ?_⟩
      conv => whnf
      have hokk := hI.ok k
      have holk := hI.ol k
      rw [Int.toNat_natCast]
      generalize s.ops.getD k [] = os at *
      refine loopi tab_ok (fun j => j ≤ os.length) (fun j => [(0, .c (bytesX l)), (3, .c (.p 0 0)), (36, .c (rowX encOpsS [] 1 s.ops)), (37, .c (.i .i64 s.ops.length)), (38, .c (.i .i64 k)), (42, .c (opsX os)), (43, .c (.i .i64 os.length)), (44, .c (.i .i64 j))])
        (fun j => [.cells 29 [.i .i64 c.cl, .i .i64 c.po, .i .i64 c.vi, .i .i64 c.he, .i .i64 c.re, .i .i64 c.la, .i .i64 c.ti, .i .i64 c.gr, .i .i64 c.ck, rowX encOpsS [] 1 s.ops, intsX s.pk]]) (fun j => os.length - j) 0 _ rfl (Nat.zero_le _) ?_ (fun j hj => ?_)
      · refine ⟨?_, ?_, rfl⟩ <;> repeat' (first | exact trivial | exact entV_refl _ | exact entC_refl _ | exact ⟨rfl, rfl⟩ | rfl | apply And.intro)
      · conv => whnf
        refine And.intro (fun h4 => ?_) (fun h4 => ?_)
        · have h4 : j < os.length := by simp at h4; omega
          conv => whnf
          refine ⟨by omega, ?_⟩
          conv => whnf
          have hoj := hokk j
          rw [Int.toNat_natCast]
          generalize os.getD j default = o at *
          refine And.intro (fun h5 => ?_) (fun h5 => ?_)
          · have hok : OkP o := by
              rcases hoj with e | e
              · subst e; exact absurd h5 (by decide)
              · exact e
            have hck := check_fn o
            rw [okI, if_pos hok] at hck
            conv => whnf
            refine callx_tells hck rfl trivial ?_
            conv => whnf
            refine And.intro (fun h => absurd h (by simp)) (fun _ => ?_)
            conv => whnf
            refine ⟨j + 1, by omega, by omega, rfl, ?_⟩
            refine ⟨?_, ?_, rfl⟩ <;> repeat' (first | exact trivial | exact entV_refl _ | exact entC_refl _ | exact wrap_succ (by omega) | rfl | apply And.intro)
          · conv => whnf
            refine ⟨j + 1, by omega, by omega, rfl, ?_⟩
            refine ⟨?_, ?_, rfl⟩ <;> repeat' (first | exact trivial | exact entV_refl _ | exact entC_refl _ | exact wrap_succ (by omega) | rfl | apply And.intro)
        · conv => whnf
          refine ⟨k + 1, by omega, by omega, rfl, ?_⟩
          refine ⟨?_, ?_, rfl⟩ <;> repeat' (first | exact trivial | exact entV_refl _ | exact entC_refl _ | exact wrap_succ (by omega) | rfl | apply And.intro)
    · conv => whnf
      refine drawx_pure tab_ok (by kernel_rfl) (by kernel_rfl) ?_
      conv => whnf
      refine callp_tells hR rfl (planX_st _ _) ?_
      conv => whnf
      refine callp_tells hsc rfl trivial ?_
      conv => whnf
      first | rfl | trace_state
theorem takes_row (l0 : Nat) (g0 : Nat → Int) (m0 : l0 ≤ maxLen) (w0 : ∀ i, i < l0 → (Lit.int .u8 (g0 i)).wf = true) :
    Eng.Fn Try.prog 6 [.c (.rs l0 1 fun i _ => .i .u8 (g0 i))] (Tells (.c (.b true))) := by
  exact (takes_fn (listI l0 g0) (by simp [listI]; simp [maxLen] at m0; omega) (bytes_listI w0)).ask ⟨bytes_of, trivial⟩
end Go.Proofs.Ytbhmplbckkipjaa
