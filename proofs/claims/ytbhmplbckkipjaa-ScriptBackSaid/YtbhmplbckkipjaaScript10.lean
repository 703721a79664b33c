/- The bytes of any plan: the document's function. -/
import Derived.Test.YtbhmplbckkipjaaScript9
namespace Go.Proofs.Ytbhmplbckkipjaa
open Go Go.Eng Go.RowKit
set_option maxRecDepth 100000
set_option maxHeartbeats 4000000
set_option linter.unusedVariables false
set_option linter.unusedSimpArgs false
abbrev cfIt (c : Cf) : It := .cells 25 (encCf c)
theorem refPutP_fn (c : Cf) (s : ScS) (hs : s.ops.length ≤ 1000000) (hp : s.pk.length ≤ 1000000) (hl : ∀ k, (s.ops.getD k []).length ≤ 1000000) : Eng.Fn Try.prog 36 [planX c s] (Tells (.t [.c (bytesX (putI c s).1), .c (.i .i64 (putI c s).2)])) := by
  refine Eng.Fn.ofZ tab_ok Try.func36 (by kernel_rfl) (by kernel_rfl) ?_ (fun w0 => ?_)
  · intro x hx
    simp only [List.mem_cons, List.not_mem_nil, or_false] at hx
    rcases hx with rfl | rfl <;> trivial
  conv => whnf
  refine callx_tells (refRightCf_fn c) rfl trivial ?_
  conv => whnf
  by_cases h0 : mayCf c ∧ (c.re - 1) % 4 = 0 ∧ c.la ≤ 8 ∧ c.ti ≤ 256 ∧ c.gr ≤ 15 ∧ c.ck = 1048576 ∧ (s.ops.length : Int) = c.cl ∧ s.pk.length ≤ 4096
  · obtain ⟨h1, hre, hla, hti, hgr, hck, h2, h3⟩ := h0
    have hok : okC c := ⟨h1, hre, hla, hti, hgr, hck⟩
    have hm := id h1
    unfold mayCf at hm
    have hq : (IntKind.i64.wrap (c.re - 1)).tmod 4 = 0 := by rw [wrap_ok (by omega) (by omega), Int.tmod_eq_emod_of_nonneg (by omega)]; exact hre
    refine And.intro (fun h => absurd h (by simp [h1])) (fun _ => ?_)
    conv => whnf
    refine And.intro (fun h => absurd h (by simp [h2])) (fun _ => ?_)
    conv => whnf
    refine And.intro (fun h => absurd h (by simp; omega)) (fun _ => ?_)
    conv => whnf
    rw [hq]
    refine And.intro (fun h => absurd h (by simp)) (fun _ => ?_)
    conv => whnf
    refine And.intro (fun h => absurd h (by simp; omega)) (fun _ => ?_)
    conv => whnf
    refine And.intro (fun h => absurd h (by simp; omega)) (fun _ => ?_)
    conv => whnf
    refine And.intro (fun h => absurd h (by simp; omega)) (fun _ => ?_)
    conv => whnf
    refine And.intro (fun h => absurd h (by simp; omega)) (fun _ => ?_)
    conv => whnf
    refine And.intro (fun h => absurd h (by simp [hck])) (fun _ => ?_)
    conv => whnf
    have w0 : IntKind.u8.wrap (IntKind.i64.wrap (c.cl - 1)) = c.cl - 1 := by rw [wrap_ok (by omega) (by omega)]; exact u8_ok (by omega) (by omega)
    have w1 : IntKind.u8.wrap c.po = c.po := u8_ok (by omega) (by omega)
    have w2 : IntKind.u8.wrap c.vi = c.vi := u8_ok (by omega) (by omega)
    have w3 : IntKind.u8.wrap (IntKind.i64.wrap (c.he - 1)) = c.he - 1 := by rw [wrap_ok (by omega) (by omega)]; exact u8_ok (by omega) (by omega)
    have w4 : IntKind.u8.wrap (IntKind.i64.wrap (c.re.tdiv 4)) = (c.re - 1) / 4 := by
      rw [Int.tdiv_eq_ediv_of_nonneg (by omega), wrap_ok (by omega) (by omega), u8_ok (by omega) (by omega)]; omega
    have w5 : IntKind.u8.wrap (IntKind.i64.wrap (c.la - 1)) = c.la - 1 := by rw [wrap_ok (by omega) (by omega)]; exact u8_ok (by omega) (by omega)
    have w6 : IntKind.u8.wrap (IntKind.i64.wrap (c.ti - 1)) = (c.ti - 1) % 256 := by rw [wrap_ok (by omega) (by omega)]; exact u8_mod (by omega)
    have w7 : IntKind.u8.wrap c.gr = c.gr := u8_ok (by omega) (by omega)
    refine loopi tab_ok (fun (k : Nat) => k ≤ s.ops.length ∧ (outB c s k).length ≤ 8 + 1344 * k ∧ ∀ i, i < k → (s.ops.getD i []).length ≤ 64 ∧ ∀ j, j < (s.ops.getD i []).length → OkP ((s.ops.getD i []).getD j default))
      (fun k => [(1, .c (.p 0 0)), (4, .c (.p 1 0)), (5, .c (.ow 2)), (94, .c (rowX encOpsS [] 1 s.ops)), (95, .c (.i .i64 s.ops.length)), (96, .c (.i .i64 k))]) (fun k => [plIt c s, cfIt c, rowB (outB c s k)]) (fun k => s.ops.length - k) 0 _ rfl ⟨Nat.zero_le _, by simp [outB, bsC], fun k h => absurd h (Nat.not_lt_zero _)⟩ ?_ (fun k hi => ?_)
    · refine ⟨?_, ?_, rfl⟩ <;> repeat' (first | exact trivial | exact entV_refl _ | exact entC_refl _ | exact ⟨rfl, rfl⟩ | exact w0 | exact w1 | exact w2 | exact w3 | exact w4 | exact w5 | exact w6 | exact w7 | rfl | apply And.intro)
      all_goals trace_state
    · obtain ⟨hk, hlen, hall⟩ := hi
      have hsucc := outB_succ c s k
      conv => whnf
      refine And.intro (fun h4 => ?_) (fun h4 => ?_)
      · have h4 : k < s.ops.length := by simp at h4; omega
        have hbad : (¬ ((s.ops.getD k []).length ≤ 64 ∧ ∀ j, j < (s.ops.getD k []).length → OkP ((s.ops.getD k []).getD j default))) → ¬ okPl c s := fun h h' => h (h'.2.2.2.1 k h4)
        conv => whnf
        refine ⟨by omega, ?_⟩
        conv => whnf
        rw [Int.toNat_natCast]
        generalize hos : s.ops.getD k [] = os at *
        refine And.intro (fun h5 => ?_) (fun h5 => ?_)
        · have h5 : ¬ os.length ≤ 64 := by simp at h5; omega
          conv => whnf
          rw [put_no (hbad fun h => h5 h.1)]
          exact ⟨⟨rfl, rfl⟩, ⟨rfl, rfl⟩, trivial⟩
        · have h5 : os.length ≤ 64 := by simp at h5; omega
          conv => whnf
          refine loopi tab_ok (fun (j : Nat) => j ≤ os.length ∧ ∀ i, i < j → OkP (os.getD i default))
            (fun j => [(1, .c (.p 0 0)), (4, .c (.p 1 0)), (5, .c (.ow 2)), (6, .c (.i .i64 k)), (94, .c (rowX encOpsS [] 1 s.ops)), (95, .c (.i .i64 s.ops.length)), (96, .c (.i .i64 k)), (104, .c (opsX os)), (105, .c (.i .i64 os.length)), (106, .c (.i .i64 j))]) (fun j => [plIt c s, cfIt c, rowB (outB c s k ++ opB k (os.take j))]) (fun j => os.length - j) 0 _ rfl ⟨Nat.zero_le _, fun j h => absurd h (Nat.not_lt_zero _)⟩ ?_ (fun j hi => ?_)
          · refine ⟨?_, ?_, rfl⟩ <;> repeat' (first | exact trivial | exact entV_refl _ | exact entC_refl _ | exact ⟨rfl, rfl⟩ | exact entLL_of_eq (by simp [opB]) | rfl | apply And.intro)
          · obtain ⟨hj, hall2⟩ := hi
            have hol := opB_len k (os.take j)
            rw [List.length_take] at hol
            conv => whnf
            refine And.intro (fun h6 => ?_) (fun h6 => ?_)
            · have h6 : j < os.length := by simp at h6; omega
              conv => whnf
              refine ⟨by omega, ?_⟩
              conv => whnf
              have htk : os.take (j + 1) = os.take j ++ [os.getD j default] := take_snoc default h6
              have hbo : ¬ OkP (os.getD j default) → ¬ (os.length ≤ 64 ∧ ∀ j, j < os.length → OkP (os.getD j default)) := fun h h' => h (h'.2 j h6)
              rw [Int.toNat_natCast]
              generalize ho : os.getD j default = o at *
              refine callx_tells (refCheck_fn o) rfl trivial ?_
              conv => whnf
              refine And.intro (fun h7 => ?_) (fun h7 => ?_)
              · have h7 : ¬ OkP o := fun h => by rw [okI, if_pos h] at h7; simp at h7
                conv => whnf
                rw [put_no (hbad (hbo h7))]
                exact ⟨⟨rfl, rfl⟩, ⟨rfl, rfl⟩, trivial⟩
              · have h7 : OkP o := by
                  by_cases h : OkP o
                  · exact h
                  · rw [okI, if_neg h] at h7; simp at h7
                have hw : IntKind.u8.wrap (IntKind.i64.wrap (128 + (k : Int))) = 128 + (k : Int) := by rw [wrap_ok (by omega) (by omega)]; exact u8_ok (by omega) (by omega)
                have hpl := putB_len o
                have hsn := opB_snoc k (os.take j) o
                rw [← htk] at hsn
                conv => whnf
                refine drawx_plan tab_ok [2] (.take 0 (.take 1 (.take 2 (.take 3 (.take 6 (.one 4 (.one 5 (.one 7 (.one 8 (.take 9 .done)))))))))) (by kernel_rfl) (by kernel_rfl) (by kernel_rfl) ?_
                conv => whnf
                rw [hw]
                refine ⟨by simp only [List.length_append, List.length_map, List.length_cons, List.length_nil]; omega, ?_⟩
                conv => whnf
                refine callf_row (refPutR_fn o) ⟨entV_refl _, trivial⟩ rfl (by simp) (by intro l hl; obtain ⟨n, _, rfl⟩ := List.mem_map.1 hl; rfl) ?_
                conv => whnf
                refine ⟨by simp only [List.length_append, List.length_map, List.length_cons, List.length_nil]; omega, ?_⟩
                conv => whnf
                refine ⟨j + 1, ⟨by omega, fun i hi => ?_⟩, by omega, rfl, ?_⟩
                · by_cases e : i = j
                  · rw [e, ho]; exact h7
                  · exact hall2 i (by omega)
                refine ⟨?_, ?_, rfl⟩ <;> repeat' (first | exact trivial | exact entV_refl _ | exact entC_refl _ | exact wrap_succ (by omega) | exact ⟨rfl, rfl⟩ | exact entLL_of_eq (by rw [hsn]; simp) | rfl | apply And.intro)
            · have h6 : j = os.length := by simp at h6; omega
              conv => whnf
              have htl : os.take j = os := by rw [h6, List.take_length]
              rw [htl] at hol
              refine ⟨k + 1, ⟨by omega, by rw [hsucc, List.length_append]; omega, fun i hi => ?_⟩, by omega, rfl, ?_⟩
              · by_cases e : i = k
                · rw [e, hos]; exact ⟨h5, fun i hi => hall2 i (by omega)⟩
                · exact hall i (by omega)
              rw [hsucc, htl]
              refine ⟨?_, ?_, rfl⟩ <;> repeat' (first | exact trivial | exact entV_refl _ | exact entC_refl _ | exact wrap_succ (by omega) | exact entLL_refl _ | exact ⟨rfl, rfl⟩ | rfl | apply And.intro)
      · have h4 : k = s.ops.length := by simp at h4; omega
        conv => whnf
        subst h4
        have hokp : (∀ m, m < s.pk.length → 0 ≤ s.pk.getD m 0 ∧ s.pk.getD m 0 ≤ c.cl + 1) → okPl c s := fun h => ⟨hok, h2, h3, hall, h⟩
        refine loopi tab_ok (fun (i : Nat) => i ≤ s.pk.length ∧ ∀ m, m < i → 0 ≤ s.pk.getD m 0 ∧ s.pk.getD m 0 ≤ c.cl + 1)
          (fun i => [(1, .c (.p 0 0)), (4, .c (.p 1 0)), (5, .c (.ow 2)), (125, .c (intsX s.pk)), (126, .c (.i .i64 s.pk.length)), (127, .c (.i .i64 i))]) (fun i => [plIt c s, cfIt c, rowB (outB c s s.ops.length ++ s.pk.take i)]) (fun i => s.pk.length - i) 0 _ rfl ⟨Nat.zero_le _, fun m h => absurd h (Nat.not_lt_zero _)⟩ ?_ (fun m hi => ?_)
        · refine ⟨?_, ?_, rfl⟩ <;> repeat' (first | exact trivial | exact entV_refl _ | exact entC_refl _ | exact ⟨rfl, rfl⟩ | exact entLL_of_eq (by simp) | rfl | apply And.intro)
        · obtain ⟨hm0, hpk⟩ := hi
          conv => whnf
          refine And.intro (fun h5 => ?_) (fun h5 => ?_)
          · have h5 : m < s.pk.length := by simp at h5; omega
            conv => whnf
            refine ⟨by omega, ?_⟩
            conv => whnf
            have htk : s.pk.take (m + 1) = s.pk.take m ++ [s.pk.getD m 0] := take_snoc 0 h5
            have hbp : ¬ (0 ≤ s.pk.getD m 0 ∧ s.pk.getD m 0 ≤ c.cl + 1) → ¬ okPl c s := fun h h' => h (h'.2.2.2.2 m h5)
            have hcw : IntKind.i64.wrap (c.cl + 1) = c.cl + 1 := wrap_ok (by omega) (by omega)
            rw [Int.toNat_natCast]
            generalize hx : s.pk.getD m 0 = x at *
            refine And.intro (fun h6 => ?_) (fun h6 => ?_)
            · have h6 : x < 0 := by simpa using h6
              conv => whnf
              rw [put_no (hbp (by omega))]
              exact ⟨⟨rfl, rfl⟩, ⟨rfl, rfl⟩, trivial⟩
            · have h6 : 0 ≤ x := by simpa using h6
              conv => whnf
              rw [hcw]
              refine And.intro (fun h7 => ?_) (fun h7 => ?_)
              · have h7 : x > c.cl + 1 := by simpa using h7
                conv => whnf
                rw [put_no (hbp (by omega))]
                exact ⟨⟨rfl, rfl⟩, ⟨rfl, rfl⟩, trivial⟩
              · have h7 : x ≤ c.cl + 1 := by simpa using h7
                have hw : IntKind.u8.wrap x = x := u8_ok (by omega) (by omega)
                conv => whnf
                rw [hw]
                refine ⟨by simp only [List.length_append, List.length_map, List.length_cons, List.length_nil, List.length_take]; omega, ?_⟩
                conv => whnf
                refine ⟨m + 1, ⟨by omega, fun i hi => ?_⟩, by omega, rfl, ?_⟩
                · by_cases e : i = m
                  · rw [e, hx]; exact ⟨h6, h7⟩
                  · exact hpk i (by omega)
                rw [htk]
                refine ⟨?_, ?_, rfl⟩ <;> repeat' (first | exact trivial | exact entV_refl _ | exact entC_refl _ | exact wrap_succ (by omega) | exact ⟨rfl, rfl⟩ | exact entLL_of_eq (by simp) | rfl | apply And.intro)
          · have h5 : m = s.pk.length := by simp at h5; omega
            have hokk := hokp fun i hi => hpk i (by omega)
            conv => whnf
            rw [put_yes hokk]
            refine ⟨bytes_ent3 ?_, ⟨rfl, rfl⟩, trivial⟩
            rw [h5, List.take_length]
  · have hno : ¬ okPl c s := fun h => h0 ⟨h.1.1, h.1.2.1, h.1.2.2.1, h.1.2.2.2.1, h.1.2.2.2.2.1, h.1.2.2.2.2.2, h.2.1, h.2.2.1⟩
    rw [put_no hno]
    have hrange : mayCf c → (IntKind.i64.wrap (c.re - 1)).tmod 4 = (c.re - 1) % 4 := fun h1 => by
      unfold mayCf at h1
      rw [wrap_ok (by omega) (by omega), Int.tmod_eq_emod_of_nonneg (by omega)]
    repeat' (apply And.intro <;> intro hh <;> conv => whnf)
    all_goals first
      | exact ⟨⟨rfl, rfl⟩, ⟨rfl, rfl⟩, trivial⟩
      | (exfalso
         have hmm : mayCf c := by
           by_cases h : mayCf c
           · exact h
           · simp [h] at *
         rw [hrange hmm] at *
         refine h0 ⟨hmm, ?_⟩
         clear h0 hno hrange hmm hl hs hp
         simp at *
         omega)
end Go.Proofs.Ytbhmplbckkipjaa
