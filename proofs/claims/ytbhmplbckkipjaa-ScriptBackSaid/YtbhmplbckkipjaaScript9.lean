/- The bytes of any plan: the program's function. -/
import Derived.Test.YtbhmplbckkipjaaScript7
import Derived.Test.YtbhmplbckkipjaaScript8
import Derived.Test.YtbhmplbckkipjaaEngGl
namespace Go.Proofs.Ytbhmplbckkipjaa
open Go Go.Eng Go.RowKit
set_option maxRecDepth 100000
set_option maxHeartbeats 4000000
set_option linter.unusedVariables false
set_option linter.unusedSimpArgs false
abbrev plIt (c : Cf) (s : ScS) : It := .cells 29 [.i .i64 c.cl, .i .i64 c.po, .i .i64 c.vi, .i .i64 c.he, .i .i64 c.re, .i .i64 c.la, .i .i64 c.ti, .i .i64 c.gr, .i .i64 c.ck, rowX encOpsS [] 1 s.ops, intsX s.pk]
abbrev rowB (l : List Int) : It := .row 5 1 (l.map fun n => [.i .u8 n])
def outX (c : Cf) : Bool → XC
  | false => tsC c
  | true => .ow 4
def outH (c : Cf) (s : ScS) (l : List Int) : Bool → List It
  | false => [plIt c s, .dead]
  | true => [plIt c s, .dead, .dead, .dead, rowB l]
def outY (c : Cf) : Bool → XC
  | false => tsC c
  | true => .ow 3
def outK (c : Cf) (s : ScS) (l : List Int) : Bool → List It
  | false => [plIt c s, .dead]
  | true => [plIt c s, .dead, .dead, rowB l]
theorem ts_in (c : Cf) : entC (.ts 8 1 fun i _ => nthC (encB8 (bsC c)) (0 + i)) (tsC c) := by
  refine ⟨rfl, rfl, fun i hi j hj => ?_⟩
  have : i = 0 ∨ i = 1 ∨ i = 2 ∨ i = 3 ∨ i = 4 ∨ i = 5 ∨ i = 6 ∨ i = 7 := by omega
  rcases this with e | e | e | e | e | e | e | e <;> (subst e; exact entC_refl _)
theorem putP_fn (c : Cf) (s : ScS) (hs : s.ops.length ≤ 1000000) (hp : s.pk.length ≤ 1000000) (hl : ∀ k, (s.ops.getD k []).length ≤ 1000000) : Eng.Fn Try.prog 35 [planX c s] (Tells (.t [.c (bytesX (putI c s).1), .c (.i .i64 (putI c s).2)])) := by
  refine Eng.Fn.ofZ tab_ok Try.func35 (by kernel_rfl) (by kernel_rfl) ?_ (fun w0 => ?_)
  · intro x hx
    simp only [List.mem_cons, List.not_mem_nil, or_false] at hx
    rcases hx with rfl | rfl <;> trivial
  conv => whnf
  refine callx_tells (bytesC_fn c) rfl ?_ ?_
  · intro x hx
    simp only [List.mem_cons, List.not_mem_nil, or_false] at hx
    rcases hx with rfl | rfl
    · exact fun y hy => allSt_iff (l := encB8 (bs0 c)) rfl y hy
    · trivial
  conv => whnf
  refine And.intro (fun h1 => ?_) (fun h1 => ?_)
  · have h1 : ¬ okC c := by simpa using h1
    have hno : ¬ okPl c s := fun h => h1 h.1
    conv => whnf
    rw [put_no hno]
    repeat' (apply And.intro <;> intro _ <;> conv => whnf)
    all_goals repeat' (first | exact trivial | rfl | exact ⟨rfl, rfl⟩ | apply And.intro)
    all_goals trace_state
  · have h1 : okC c := by simpa using h1
    have hm := id h1.1
    unfold mayCf at hm
    have hbs : bs0 c = bsC c := if_pos h1.1
    rw [hbs]
    conv => whnf
    refine And.intro (fun h2 => ?_) (fun h2 => ?_)
    · have h2 : (s.ops.length : Int) ≠ c.cl := by simpa using h2
      have hno : ¬ okPl c s := fun h => h2 h.2.1
      conv => whnf
      rw [put_no hno]
      repeat' (apply And.intro <;> intro _ <;> conv => whnf)
      all_goals repeat' (first | exact trivial | rfl | exact ⟨rfl, rfl⟩ | apply And.intro)
    · have h2 : (s.ops.length : Int) = c.cl := by simpa using h2
      conv => whnf
      refine And.intro (fun h3 => ?_) (fun h3 => ?_)
      · have h3 : ¬ s.pk.length ≤ 4096 := by simp at h3; omega
        have hno : ¬ okPl c s := fun h => h3 h.2.2.1
        conv => whnf
        rw [put_no hno]
        all_goals repeat' (first | exact trivial | rfl | exact ⟨rfl, rfl⟩ | apply And.intro)
      · have h3 : s.pk.length ≤ 4096 := by simp at h3; omega
        conv => whnf
        refine loopx_frzB 1 rfl ?_
        conv => whnf
        refine loopi tab_ok (fun (i : Nat × Bool) => i.1 ≤ s.ops.length ∧ (i.2 = false → outB c s i.1 = bsC c) ∧ (outB c s i.1).length ≤ 8 + 1344 * i.1 ∧ ∀ k, k < i.1 → (s.ops.getD k []).length ≤ 64 ∧ ∀ j, j < (s.ops.getD k []).length → OkP ((s.ops.getD k []).getD j default))
          (fun i => [(1, .c (.p 0 0)), (6, .c (outX c i.2)), (38, .c (rowX encOpsS [] 1 s.ops)), (39, .c (.i .i64 s.ops.length)), (40, .c (.i .i64 i.1))]) (fun i => outH c s (outB c s i.1) i.2) (fun i => s.ops.length - i.1) (0, false) _ rfl ⟨Nat.zero_le _, fun _ => by simp [outB], by simp [outB, bsC], fun k h => absurd h (Nat.not_lt_zero _)⟩ ?_ (fun i hi => ?_)
        · refine ⟨?_, ?_, rfl⟩ <;> repeat' (first | exact trivial | exact entV_refl _ | exact entC_refl _ | exact ⟨rfl, rfl⟩ | exact ts_in c | rfl | apply And.intro)
          all_goals trace_state
        · obtain ⟨k, own⟩ := i
          obtain ⟨hk, hown, hlen, hall⟩ := hi
          have hk : k ≤ s.ops.length := hk
          have hlen : (outB c s k).length ≤ 8 + 1344 * k := hlen
          have hall : ∀ i, i < k → (s.ops.getD i []).length ≤ 64 ∧ ∀ j, j < (s.ops.getD i []).length → OkP ((s.ops.getD i []).getD j default) := hall
          dsimp only at hown
          have hsucc := outB_succ c s k
          cases own
          · conv => whnf
            refine And.intro (fun h4 => ?_) (fun h4 => ?_)
            · have h4 : k < s.ops.length := by simp at h4; omega
              have hbad : (¬ ((s.ops.getD k []).length ≤ 64 ∧ ∀ j, j < (s.ops.getD k []).length → OkP ((s.ops.getD k []).getD j default))) → ¬ okPl c s := fun h h' => h (h'.2.2.2.1 k h4)
              conv => whnf
              refine ⟨by omega, ?_⟩
              conv => whnf
              rw [Int.toNat_natCast]
              generalize hos : s.ops.getD k [] = os at *
              refine And.intro (fun h5 => ?_) (fun h5 => ?_)
              · have h5 : ¬ os.length ≤ 64 := by simp at h5; omega
                conv => whnf
                rw [put_no (hbad fun h => h5 h.1)]
                all_goals repeat' (first | exact trivial | rfl | exact ⟨rfl, rfl⟩ | apply And.intro)
              · have h5 : os.length ≤ 64 := by simp at h5; omega
                conv => whnf
                refine loopi tab_ok (fun (i : Nat × Bool) => i.1 ≤ os.length ∧ (i.2 = false → outB c s k ++ opB k (os.take i.1) = bsC c) ∧ ∀ j, j < i.1 → OkP (os.getD j default))
                  (fun i => [(1, .c (.p 0 0)), (6, .c (outX c i.2)), (7, .c (.i .i64 k)), (38, .c (rowX encOpsS [] 1 s.ops)), (39, .c (.i .i64 s.ops.length)), (40, .c (.i .i64 k)), (48, .c (opsX os)), (49, .c (.i .i64 os.length)), (50, .c (.i .i64 i.1))]) (fun i => outH c s (outB c s k ++ opB k (os.take i.1)) i.2) (fun i => os.length - i.1) (0, false) _ rfl ⟨Nat.zero_le _, fun h => by first | (cases h; done) | (simp [opB, hown rfl]), fun j h => absurd h (Nat.not_lt_zero _)⟩ ?_ (fun i hi => ?_)
                · refine ⟨?_, ?_, rfl⟩ <;> repeat' (first | exact trivial | exact entV_refl _ | exact entC_refl _ | exact ⟨rfl, rfl⟩ | exact entLL_of_eq (by simp [opB]) | rfl | apply And.intro)
                · obtain ⟨j, own2⟩ := i
                  obtain ⟨hj, hown2, hall2⟩ := hi
                  have hj : j ≤ os.length := hj
                  have hall2 : ∀ i, i < j → OkP (os.getD i default) := hall2
                  dsimp only at hown2
                  have hol := opB_len k (os.take j)
                  rw [List.length_take] at hol
                  cases own2
                  · conv => whnf
                    refine And.intro (fun h6 => ?_) (fun h6 => ?_)
                    · have h6 : j < os.length := by simp at h6; omega
                      conv => whnf
                      refine ⟨by omega, ?_⟩
                      conv => whnf
                      have htk : os.take (j + 1) = os.take j ++ [os.getD j default] := take_snoc default h6
                      have hbo : ¬ OkP (os.getD j default) → ¬ (os.length ≤ 64 ∧ ∀ j, j < os.length → OkP (os.getD j default)) := fun h h' => h (h'.2 j h6)
                      rw [Int.toNat_natCast]
                      generalize ho : os.getD j default = o at *
                      refine callx_tells (check_fn o) rfl trivial ?_
                      conv => whnf
                      refine And.intro (fun h7 => ?_) (fun h7 => ?_)
                      · have h7 : ¬ OkP o := fun h => by rw [okI, if_pos h] at h7; simp at h7
                        conv => whnf
                        rw [put_no (hbad (hbo h7))]
                        all_goals repeat' (first | exact trivial | rfl | exact ⟨rfl, rfl⟩ | apply And.intro)
                      · have h7 : OkP o := by
                          by_cases h : OkP o
                          · exact h
                          · rw [okI, if_neg h] at h7; simp at h7
                        have hw : IntKind.u8.wrap (IntKind.i64.wrap (128 + (k : Int))) = 128 + (k : Int) := by rw [wrap_ok (by omega) (by omega)]; exact u8_ok (by omega) (by omega)
                        have hpl := putB_len o
                        have hsn := opB_snoc k (os.take j) o
                        rw [← htk] at hsn
                        conv => whnf
                        refine drawx_plan tab_ok [] (.take 0 (.take 1 (.take 2 (.take 3 (.take 6 (.one 4 (.one 5 (.one 7 (.one 8 (.take 9 .done)))))))))) (by kernel_rfl) (by kernel_rfl) (by kernel_rfl) ?_
                        conv => whnf
                        rw [hw]
                        refine ⟨fun h => absurd h (by simp), fun _ => ⟨by simp [rowsOf], ?_⟩⟩
                        conv => whnf
                        refine callf_row (putR_fn o) ⟨entV_refl _, trivial⟩ rfl (by simp) (by intro l hl; obtain ⟨n, _, rfl⟩ := List.mem_map.1 hl; rfl) ?_
                        conv => whnf
                        refine ⟨by simp only [List.length_append, List.length_map, List.length_cons, List.length_nil, rowsOf, List.length_range]; omega, ?_⟩
                        conv => whnf
                        refine ⟨(j + 1, true), ⟨by dsimp only; omega, fun h => (by cases h), fun i hi => ?_⟩, by dsimp only; omega, rfl, ?_⟩
                        · by_cases e : i = j
                          · rw [e, ho]; exact h7
                          · exact hall2 i (by dsimp only at hi; omega)
                        refine ⟨?_, ?_, rfl⟩ <;> repeat' (first | exact trivial | exact entV_refl _ | exact entC_refl _ | exact wrap_succ (by omega) | exact ⟨rfl, rfl⟩ | exact entLL_of_eq (by rw [rowsOf8 c _ (fun i hi => rfl), hsn, ← hown2 rfl]; simp) | rfl | apply And.intro)
                        all_goals trace_state
                    · have h6 : j = os.length := by simp at h6; omega
                      conv => whnf
                      have htl : os.take j = os := by rw [h6, List.take_length]
                      rw [htl] at hol hown2
                      refine ⟨(k + 1, false), ⟨by dsimp only; omega, fun h => by first | (cases h; done) | (rw [hsucc]; exact hown2 rfl), by dsimp only; rw [hsucc, List.length_append]; omega, fun i hi => ?_⟩, by dsimp only; omega, rfl, ?_⟩
                      · by_cases e : i = k
                        · rw [e, hos]; exact ⟨h5, fun i hi => hall2 i (by omega)⟩
                        · exact hall i (by dsimp only at hi; omega)
                      rw [hsucc, htl]
                      refine ⟨?_, ?_, rfl⟩ <;> repeat' (first | exact trivial | exact entV_refl _ | exact entC_refl _ | exact wrap_succ (by omega) | exact entLL_refl _ | exact ⟨rfl, rfl⟩ | rfl | apply And.intro)
                  · conv => whnf
                    refine And.intro (fun h6 => ?_) (fun h6 => ?_)
                    · have h6 : j < os.length := by simp at h6; omega
                      conv => whnf
                      refine ⟨by omega, ?_⟩
                      conv => whnf
                      have htk : os.take (j + 1) = os.take j ++ [os.getD j default] := take_snoc default h6
                      have hbo : ¬ OkP (os.getD j default) → ¬ (os.length ≤ 64 ∧ ∀ j, j < os.length → OkP (os.getD j default)) := fun h h' => h (h'.2 j h6)
                      rw [Int.toNat_natCast]
                      generalize ho : os.getD j default = o at *
                      refine callx_tells (check_fn o) rfl trivial ?_
                      conv => whnf
                      refine And.intro (fun h7 => ?_) (fun h7 => ?_)
                      · have h7 : ¬ OkP o := fun h => by rw [okI, if_pos h] at h7; simp at h7
                        conv => whnf
                        rw [put_no (hbad (hbo h7))]
                        all_goals repeat' (first | exact trivial | rfl | exact ⟨rfl, rfl⟩ | apply And.intro)
                      · have h7 : OkP o := by
                          by_cases h : OkP o
                          · exact h
                          · rw [okI, if_neg h] at h7; simp at h7
                        have hw : IntKind.u8.wrap (IntKind.i64.wrap (128 + (k : Int))) = 128 + (k : Int) := by rw [wrap_ok (by omega) (by omega)]; exact u8_ok (by omega) (by omega)
                        have hpl := putB_len o
                        have hsn := opB_snoc k (os.take j) o
                        rw [← htk] at hsn
                        conv => whnf
                        refine drawx_plan tab_ok [4] (.take 0 (.take 1 (.take 2 (.take 3 (.take 6 (.one 4 (.one 5 (.one 7 (.one 8 (.take 9 .done)))))))))) (by kernel_rfl) (by kernel_rfl) (by kernel_rfl) ?_
                        conv => whnf
                        rw [hw]
                        refine ⟨by simp only [List.length_append, List.length_map, List.length_cons, List.length_nil]; omega, ?_⟩
                        conv => whnf
                        refine callf_row (putR_fn o) ⟨entV_refl _, trivial⟩ rfl (by simp) (by intro l hl; obtain ⟨n, _, rfl⟩ := List.mem_map.1 hl; rfl) ?_
                        conv => whnf
                        refine ⟨by simp only [List.length_append, List.length_map, List.length_cons, List.length_nil]; omega, ?_⟩
                        conv => whnf
                        refine ⟨(j + 1, true), ⟨by dsimp only; omega, fun h => (by cases h), fun i hi => ?_⟩, by dsimp only; omega, rfl, ?_⟩
                        · by_cases e : i = j
                          · rw [e, ho]; exact h7
                          · exact hall2 i (by dsimp only at hi; omega)
                        refine ⟨?_, ?_, rfl⟩ <;> repeat' (first | exact trivial | exact entV_refl _ | exact entC_refl _ | exact wrap_succ (by omega) | exact ⟨rfl, rfl⟩ | exact entLL_of_eq (by rw [hsn]; simp) | rfl | apply And.intro)
                        all_goals trace_state
                    · have h6 : j = os.length := by simp at h6; omega
                      conv => whnf
                      have htl : os.take j = os := by rw [h6, List.take_length]
                      rw [htl] at hol hown2
                      refine ⟨(k + 1, true), ⟨by dsimp only; omega, fun h => by first | (cases h; done) | (rw [hsucc]; exact hown2 rfl), by dsimp only; rw [hsucc, List.length_append]; omega, fun i hi => ?_⟩, by dsimp only; omega, rfl, ?_⟩
                      · by_cases e : i = k
                        · rw [e, hos]; exact ⟨h5, fun i hi => hall2 i (by omega)⟩
                        · exact hall i (by dsimp only at hi; omega)
                      rw [hsucc, htl]
                      refine ⟨?_, ?_, rfl⟩ <;> repeat' (first | exact trivial | exact entV_refl _ | exact entC_refl _ | exact wrap_succ (by omega) | exact entLL_refl _ | exact ⟨rfl, rfl⟩ | rfl | apply And.intro)
            · have h4 : k = s.ops.length := by simp at h4; omega
              conv => whnf
              subst h4
              have hokp : (∀ m, m < s.pk.length → 0 ≤ s.pk.getD m 0 ∧ s.pk.getD m 0 ≤ c.cl + 1) → okPl c s := fun h => ⟨h1, h2, h3, hall, h⟩
              refine loopi tab_ok (fun (i : Nat × Bool) => i.1 ≤ s.pk.length ∧ (i.2 = false → i.1 = 0) ∧ ∀ m, m < i.1 → 0 ≤ s.pk.getD m 0 ∧ s.pk.getD m 0 ≤ c.cl + 1)
                (fun i => [(1, .c (.p 0 0)), (6, .c (outY c i.2)), (69, .c (intsX s.pk)), (70, .c (.i .i64 s.pk.length)), (71, .c (.i .i64 i.1))]) (fun i => outK c s (outB c s s.ops.length ++ s.pk.take i.1) i.2) (fun i => s.pk.length - i.1) (0, false) _ rfl ⟨Nat.zero_le _, fun _ => rfl, fun m h => absurd h (Nat.not_lt_zero _)⟩ ?_ (fun i hi => ?_)
              · refine ⟨?_, ?_, rfl⟩ <;> repeat' (first | exact trivial | exact entV_refl _ | exact entC_refl _ | exact ⟨rfl, rfl⟩ | rfl | apply And.intro)
              · obtain ⟨m, own3⟩ := i
                obtain ⟨hm0, hown3, hpk⟩ := hi
                have hm0 : m ≤ s.pk.length := hm0
                have hpk : ∀ i, i < m → 0 ≤ s.pk.getD i 0 ∧ s.pk.getD i 0 ≤ c.cl + 1 := hpk
                dsimp only at hown3
                have hob := hown rfl
                cases own3
                · have hm00 : m = 0 := hown3 rfl
                  conv => whnf
                  refine And.intro (fun h5 => ?_) (fun h5 => ?_)
                  · have h5 : m < s.pk.length := by simp at h5; omega
                    conv => whnf
                    refine ⟨by omega, ?_⟩
                    conv => whnf
                    have htk : s.pk.take (m + 1) = s.pk.take m ++ [s.pk.getD m 0] := take_snoc 0 h5
                    have hbp : ¬ (0 ≤ s.pk.getD m 0 ∧ s.pk.getD m 0 ≤ c.cl + 1) → ¬ okPl c s := fun h h' => h (h'.2.2.2.2 m h5)
                    have hcw : IntKind.i64.wrap (c.cl + 1) = c.cl + 1 := wrap_ok (by omega) (by omega)
                    rw [Int.toNat_natCast]
                    generalize hx : s.pk.getD m 0 = x at *
                    rw [hcw]
                    refine callx_tells (withinI_fn x 0 (c.cl + 1)) rfl trivial ?_
                    conv => whnf
                    refine And.intro (fun h6 => ?_) (fun h6 => ?_)
                    · have h6 : ¬ (0 ≤ x ∧ x ≤ c.cl + 1) := by intro h; simp [h.1, h.2] at h6
                      conv => whnf
                      rw [put_no (hbp h6)]
                      all_goals repeat' (first | exact trivial | rfl | exact ⟨rfl, rfl⟩ | apply And.intro)
                    · have h6 : 0 ≤ x ∧ x ≤ c.cl + 1 := by simpa using h6
                      have hw : IntKind.u8.wrap x = x := u8_ok (by omega) (by omega)
                      conv => whnf
                      rw [hw]
                      refine ⟨fun h => absurd h (by simp), fun _ => ⟨by simp [rowsOf], ?_⟩⟩
                      conv => whnf
                      refine ⟨(m + 1, true), ⟨by dsimp only; omega, fun h => (by cases h), fun i hi => ?_⟩, by dsimp only; omega, rfl, ?_⟩
                      · by_cases e : i = m
                        · rw [e, hx]; exact h6
                        · exact hpk i (by dsimp only at hi; omega)
                      rw [htk]
                      refine ⟨?_, ?_, rfl⟩ <;> repeat' (first | exact trivial | exact entV_refl _ | exact entC_refl _ | exact wrap_succ (by omega) | exact ⟨rfl, rfl⟩ | exact entLL_of_eq (by rw [rowsOf8 c _ (fun i hi => rfl), hob, hm00]; simp) | rfl | apply And.intro)
                      all_goals trace_state
                  · have h5 : m = s.pk.length := by simp at h5; omega
                    have hok := hokp fun i hi => hpk i (by omega)
                    conv => whnf
                    rw [put_yes hok]
                    have hnil : s.pk = [] := List.length_eq_zero_iff.1 (h5.symm.trans hm00)
                    refine ⟨?_, ⟨rfl, rfl⟩, trivial⟩
                    rw [hob, hnil, List.append_nil]
                    exact ts_out c
                · conv => whnf
                  refine And.intro (fun h5 => ?_) (fun h5 => ?_)
                  · have h5 : m < s.pk.length := by simp at h5; omega
                    conv => whnf
                    refine ⟨by omega, ?_⟩
                    conv => whnf
                    have htk : s.pk.take (m + 1) = s.pk.take m ++ [s.pk.getD m 0] := take_snoc 0 h5
                    have hbp : ¬ (0 ≤ s.pk.getD m 0 ∧ s.pk.getD m 0 ≤ c.cl + 1) → ¬ okPl c s := fun h h' => h (h'.2.2.2.2 m h5)
                    have hcw : IntKind.i64.wrap (c.cl + 1) = c.cl + 1 := wrap_ok (by omega) (by omega)
                    rw [Int.toNat_natCast]
                    generalize hx : s.pk.getD m 0 = x at *
                    rw [hcw]
                    refine callx_tells (withinI_fn x 0 (c.cl + 1)) rfl trivial ?_
                    conv => whnf
                    refine And.intro (fun h6 => ?_) (fun h6 => ?_)
                    · have h6 : ¬ (0 ≤ x ∧ x ≤ c.cl + 1) := by intro h; simp [h.1, h.2] at h6
                      conv => whnf
                      rw [put_no (hbp h6)]
                      all_goals repeat' (first | exact trivial | rfl | exact ⟨rfl, rfl⟩ | apply And.intro)
                    · have h6 : 0 ≤ x ∧ x ≤ c.cl + 1 := by simpa using h6
                      have hw : IntKind.u8.wrap x = x := u8_ok (by omega) (by omega)
                      conv => whnf
                      rw [hw]
                      refine ⟨by simp only [List.length_append, List.length_map, List.length_cons, List.length_nil, List.length_take]; omega, ?_⟩
                      conv => whnf
                      refine ⟨(m + 1, true), ⟨by dsimp only; omega, fun h => (by cases h), fun i hi => ?_⟩, by dsimp only; omega, rfl, ?_⟩
                      · by_cases e : i = m
                        · rw [e, hx]; exact h6
                        · exact hpk i (by dsimp only at hi; omega)
                      rw [htk]
                      refine ⟨?_, ?_, rfl⟩ <;> repeat' (first | exact trivial | exact entV_refl _ | exact entC_refl _ | exact wrap_succ (by omega) | exact ⟨rfl, rfl⟩ | exact entLL_of_eq (by simp) | rfl | apply And.intro)
                      all_goals trace_state
                  · have h5 : m = s.pk.length := by simp at h5; omega
                    have hok := hokp fun i hi => hpk i (by omega)
                    conv => whnf
                    rw [put_yes hok]
                    refine ⟨bytes_ent3 ?_, ⟨rfl, rfl⟩, trivial⟩
                    rw [h5, List.take_length]
          · conv => whnf
            refine And.intro (fun h4 => ?_) (fun h4 => ?_)
            · have h4 : k < s.ops.length := by simp at h4; omega
              have hbad : (¬ ((s.ops.getD k []).length ≤ 64 ∧ ∀ j, j < (s.ops.getD k []).length → OkP ((s.ops.getD k []).getD j default))) → ¬ okPl c s := fun h h' => h (h'.2.2.2.1 k h4)
              conv => whnf
              refine ⟨by omega, ?_⟩
              conv => whnf
              rw [Int.toNat_natCast]
              generalize hos : s.ops.getD k [] = os at *
              refine And.intro (fun h5 => ?_) (fun h5 => ?_)
              · have h5 : ¬ os.length ≤ 64 := by simp at h5; omega
                conv => whnf
                rw [put_no (hbad fun h => h5 h.1)]
                all_goals repeat' (first | exact trivial | rfl | exact ⟨rfl, rfl⟩ | apply And.intro)
              · have h5 : os.length ≤ 64 := by simp at h5; omega
                conv => whnf
                refine loopi tab_ok (fun (i : Nat × Bool) => i.1 ≤ os.length ∧ (i.2 = false → outB c s k ++ opB k (os.take i.1) = bsC c) ∧ ∀ j, j < i.1 → OkP (os.getD j default))
                  (fun i => [(1, .c (.p 0 0)), (6, .c (outX c i.2)), (7, .c (.i .i64 k)), (38, .c (rowX encOpsS [] 1 s.ops)), (39, .c (.i .i64 s.ops.length)), (40, .c (.i .i64 k)), (48, .c (opsX os)), (49, .c (.i .i64 os.length)), (50, .c (.i .i64 i.1))]) (fun i => outH c s (outB c s k ++ opB k (os.take i.1)) i.2) (fun i => os.length - i.1) (0, true) _ rfl ⟨Nat.zero_le _, fun h => by first | (cases h; done) | (simp [opB, hown rfl]), fun j h => absurd h (Nat.not_lt_zero _)⟩ ?_ (fun i hi => ?_)
                · refine ⟨?_, ?_, rfl⟩ <;> repeat' (first | exact trivial | exact entV_refl _ | exact entC_refl _ | exact ⟨rfl, rfl⟩ | exact entLL_of_eq (by simp [opB]) | rfl | apply And.intro)
                · obtain ⟨j, own2⟩ := i
                  obtain ⟨hj, hown2, hall2⟩ := hi
                  have hj : j ≤ os.length := hj
                  have hall2 : ∀ i, i < j → OkP (os.getD i default) := hall2
                  dsimp only at hown2
                  have hol := opB_len k (os.take j)
                  rw [List.length_take] at hol
                  cases own2
                  · conv => whnf
                    refine And.intro (fun h6 => ?_) (fun h6 => ?_)
                    · have h6 : j < os.length := by simp at h6; omega
                      conv => whnf
                      refine ⟨by omega, ?_⟩
                      conv => whnf
                      have htk : os.take (j + 1) = os.take j ++ [os.getD j default] := take_snoc default h6
                      have hbo : ¬ OkP (os.getD j default) → ¬ (os.length ≤ 64 ∧ ∀ j, j < os.length → OkP (os.getD j default)) := fun h h' => h (h'.2 j h6)
                      rw [Int.toNat_natCast]
                      generalize ho : os.getD j default = o at *
                      refine callx_tells (check_fn o) rfl trivial ?_
                      conv => whnf
                      refine And.intro (fun h7 => ?_) (fun h7 => ?_)
                      · have h7 : ¬ OkP o := fun h => by rw [okI, if_pos h] at h7; simp at h7
                        conv => whnf
                        rw [put_no (hbad (hbo h7))]
                        all_goals repeat' (first | exact trivial | rfl | exact ⟨rfl, rfl⟩ | apply And.intro)
                      · have h7 : OkP o := by
                          by_cases h : OkP o
                          · exact h
                          · rw [okI, if_neg h] at h7; simp at h7
                        have hw : IntKind.u8.wrap (IntKind.i64.wrap (128 + (k : Int))) = 128 + (k : Int) := by rw [wrap_ok (by omega) (by omega)]; exact u8_ok (by omega) (by omega)
                        have hpl := putB_len o
                        have hsn := opB_snoc k (os.take j) o
                        rw [← htk] at hsn
                        conv => whnf
                        refine drawx_plan tab_ok [] (.take 0 (.take 1 (.take 2 (.take 3 (.take 6 (.one 4 (.one 5 (.one 7 (.one 8 (.take 9 .done)))))))))) (by kernel_rfl) (by kernel_rfl) (by kernel_rfl) ?_
                        conv => whnf
                        rw [hw]
                        refine ⟨fun h => absurd h (by simp), fun _ => ⟨by simp [rowsOf], ?_⟩⟩
                        conv => whnf
                        refine callf_row (putR_fn o) ⟨entV_refl _, trivial⟩ rfl (by simp) (by intro l hl; obtain ⟨n, _, rfl⟩ := List.mem_map.1 hl; rfl) ?_
                        conv => whnf
                        refine ⟨by simp only [List.length_append, List.length_map, List.length_cons, List.length_nil, rowsOf, List.length_range]; omega, ?_⟩
                        conv => whnf
                        refine ⟨(j + 1, true), ⟨by dsimp only; omega, fun h => (by cases h), fun i hi => ?_⟩, by dsimp only; omega, rfl, ?_⟩
                        · by_cases e : i = j
                          · rw [e, ho]; exact h7
                          · exact hall2 i (by dsimp only at hi; omega)
                        refine ⟨?_, ?_, rfl⟩ <;> repeat' (first | exact trivial | exact entV_refl _ | exact entC_refl _ | exact wrap_succ (by omega) | exact ⟨rfl, rfl⟩ | exact entLL_of_eq (by rw [rowsOf8 c _ (fun i hi => rfl), hsn, ← hown2 rfl]; simp) | rfl | apply And.intro)
                        all_goals trace_state
                    · have h6 : j = os.length := by simp at h6; omega
                      conv => whnf
                      have htl : os.take j = os := by rw [h6, List.take_length]
                      rw [htl] at hol hown2
                      refine ⟨(k + 1, false), ⟨by dsimp only; omega, fun h => by first | (cases h; done) | (rw [hsucc]; exact hown2 rfl), by dsimp only; rw [hsucc, List.length_append]; omega, fun i hi => ?_⟩, by dsimp only; omega, rfl, ?_⟩
                      · by_cases e : i = k
                        · rw [e, hos]; exact ⟨h5, fun i hi => hall2 i (by omega)⟩
                        · exact hall i (by dsimp only at hi; omega)
                      rw [hsucc, htl]
                      refine ⟨?_, ?_, rfl⟩ <;> repeat' (first | exact trivial | exact entV_refl _ | exact entC_refl _ | exact wrap_succ (by omega) | exact entLL_refl _ | exact ⟨rfl, rfl⟩ | rfl | apply And.intro)
                  · conv => whnf
                    refine And.intro (fun h6 => ?_) (fun h6 => ?_)
                    · have h6 : j < os.length := by simp at h6; omega
                      conv => whnf
                      refine ⟨by omega, ?_⟩
                      conv => whnf
                      have htk : os.take (j + 1) = os.take j ++ [os.getD j default] := take_snoc default h6
                      have hbo : ¬ OkP (os.getD j default) → ¬ (os.length ≤ 64 ∧ ∀ j, j < os.length → OkP (os.getD j default)) := fun h h' => h (h'.2 j h6)
                      rw [Int.toNat_natCast]
                      generalize ho : os.getD j default = o at *
                      refine callx_tells (check_fn o) rfl trivial ?_
                      conv => whnf
                      refine And.intro (fun h7 => ?_) (fun h7 => ?_)
                      · have h7 : ¬ OkP o := fun h => by rw [okI, if_pos h] at h7; simp at h7
                        conv => whnf
                        rw [put_no (hbad (hbo h7))]
                        all_goals repeat' (first | exact trivial | rfl | exact ⟨rfl, rfl⟩ | apply And.intro)
                      · have h7 : OkP o := by
                          by_cases h : OkP o
                          · exact h
                          · rw [okI, if_neg h] at h7; simp at h7
                        have hw : IntKind.u8.wrap (IntKind.i64.wrap (128 + (k : Int))) = 128 + (k : Int) := by rw [wrap_ok (by omega) (by omega)]; exact u8_ok (by omega) (by omega)
                        have hpl := putB_len o
                        have hsn := opB_snoc k (os.take j) o
                        rw [← htk] at hsn
                        conv => whnf
                        refine drawx_plan tab_ok [4] (.take 0 (.take 1 (.take 2 (.take 3 (.take 6 (.one 4 (.one 5 (.one 7 (.one 8 (.take 9 .done)))))))))) (by kernel_rfl) (by kernel_rfl) (by kernel_rfl) ?_
                        conv => whnf
                        rw [hw]
                        refine ⟨by simp only [List.length_append, List.length_map, List.length_cons, List.length_nil]; omega, ?_⟩
                        conv => whnf
                        refine callf_row (putR_fn o) ⟨entV_refl _, trivial⟩ rfl (by simp) (by intro l hl; obtain ⟨n, _, rfl⟩ := List.mem_map.1 hl; rfl) ?_
                        conv => whnf
                        refine ⟨by simp only [List.length_append, List.length_map, List.length_cons, List.length_nil]; omega, ?_⟩
                        conv => whnf
                        refine ⟨(j + 1, true), ⟨by dsimp only; omega, fun h => (by cases h), fun i hi => ?_⟩, by dsimp only; omega, rfl, ?_⟩
                        · by_cases e : i = j
                          · rw [e, ho]; exact h7
                          · exact hall2 i (by dsimp only at hi; omega)
                        refine ⟨?_, ?_, rfl⟩ <;> repeat' (first | exact trivial | exact entV_refl _ | exact entC_refl _ | exact wrap_succ (by omega) | exact ⟨rfl, rfl⟩ | exact entLL_of_eq (by rw [hsn]; simp) | rfl | apply And.intro)
                        all_goals trace_state
                    · have h6 : j = os.length := by simp at h6; omega
                      conv => whnf
                      have htl : os.take j = os := by rw [h6, List.take_length]
                      rw [htl] at hol hown2
                      refine ⟨(k + 1, true), ⟨by dsimp only; omega, fun h => by first | (cases h; done) | (rw [hsucc]; exact hown2 rfl), by dsimp only; rw [hsucc, List.length_append]; omega, fun i hi => ?_⟩, by dsimp only; omega, rfl, ?_⟩
                      · by_cases e : i = k
                        · rw [e, hos]; exact ⟨h5, fun i hi => hall2 i (by omega)⟩
                        · exact hall i (by dsimp only at hi; omega)
                      rw [hsucc, htl]
                      refine ⟨?_, ?_, rfl⟩ <;> repeat' (first | exact trivial | exact entV_refl _ | exact entC_refl _ | exact wrap_succ (by omega) | exact entLL_refl _ | exact ⟨rfl, rfl⟩ | rfl | apply And.intro)
            · have h4 : k = s.ops.length := by simp at h4; omega
              conv => whnf
              subst h4
              have hokp : (∀ m, m < s.pk.length → 0 ≤ s.pk.getD m 0 ∧ s.pk.getD m 0 ≤ c.cl + 1) → okPl c s := fun h => ⟨h1, h2, h3, hall, h⟩
              refine loopi tab_ok (fun (i : Nat) => i ≤ s.pk.length ∧ ∀ m, m < i → 0 ≤ s.pk.getD m 0 ∧ s.pk.getD m 0 ≤ c.cl + 1)
                (fun i => [(1, .c (.p 0 0)), (6, .c (.ow 4)), (69, .c (intsX s.pk)), (70, .c (.i .i64 s.pk.length)), (71, .c (.i .i64 i))]) (fun i => [plIt c s, .dead, .dead, .dead, rowB (outB c s s.ops.length ++ s.pk.take i)]) (fun i => s.pk.length - i) 0 _ rfl ⟨Nat.zero_le _, fun m h => absurd h (Nat.not_lt_zero _)⟩ ?_ (fun m hi => ?_)
              · refine ⟨?_, ?_, rfl⟩ <;> repeat' (first | exact trivial | exact entV_refl _ | exact entC_refl _ | exact ⟨rfl, rfl⟩ | exact entLL_of_eq (by simp) | rfl | apply And.intro)
              · obtain ⟨hm0, hpk⟩ := hi
                conv => whnf
                refine And.intro (fun h5 => ?_) (fun h5 => ?_)
                · have h5 : m < s.pk.length := by simp at h5; omega
                  conv => whnf
                  refine ⟨by omega, ?_⟩
                  conv => whnf
                  have htk : s.pk.take (m + 1) = s.pk.take m ++ [s.pk.getD m 0] := take_snoc 0 h5
                  have hbp : ¬ (0 ≤ s.pk.getD m 0 ∧ s.pk.getD m 0 ≤ c.cl + 1) → ¬ okPl c s := fun h h' => h (h'.2.2.2.2 m h5)
                  have hcw : IntKind.i64.wrap (c.cl + 1) = c.cl + 1 := wrap_ok (by omega) (by omega)
                  rw [Int.toNat_natCast]
                  generalize hx : s.pk.getD m 0 = x at *
                  rw [hcw]
                  refine callx_tells (withinI_fn x 0 (c.cl + 1)) rfl trivial ?_
                  conv => whnf
                  refine And.intro (fun h6 => ?_) (fun h6 => ?_)
                  · have h6 : ¬ (0 ≤ x ∧ x ≤ c.cl + 1) := by intro h; simp [h.1, h.2] at h6
                    conv => whnf
                    rw [put_no (hbp h6)]
                    all_goals repeat' (first | exact trivial | rfl | exact ⟨rfl, rfl⟩ | apply And.intro)
                  · have h6 : 0 ≤ x ∧ x ≤ c.cl + 1 := by simpa using h6
                    have hw : IntKind.u8.wrap x = x := u8_ok (by omega) (by omega)
                    conv => whnf
                    rw [hw]
                    refine ⟨by simp only [List.length_append, List.length_map, List.length_cons, List.length_nil, List.length_take]; omega, ?_⟩
                    conv => whnf
                    refine ⟨m + 1, ⟨by omega, fun i hi => ?_⟩, by omega, rfl, ?_⟩
                    · by_cases e : i = m
                      · rw [e, hx]; exact h6
                      · exact hpk i (by omega)
                    rw [htk]
                    refine ⟨?_, ?_, rfl⟩ <;> repeat' (first | exact trivial | exact entV_refl _ | exact entC_refl _ | exact wrap_succ (by omega) | exact ⟨rfl, rfl⟩ | exact entLL_of_eq (by simp) | rfl | apply And.intro)
                    all_goals trace_state
                · have h5 : m = s.pk.length := by simp at h5; omega
                  have hok := hokp fun i hi => hpk i (by omega)
                  conv => whnf
                  rw [put_yes hok]
                  refine ⟨bytes_ent3 ?_, ⟨rfl, rfl⟩, trivial⟩
                  rw [h5, List.take_length]
end Go.Proofs.Ytbhmplbckkipjaa
