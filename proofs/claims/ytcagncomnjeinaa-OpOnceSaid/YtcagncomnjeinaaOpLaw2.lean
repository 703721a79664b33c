/- OpOnce: the law. -/
import Derived.Test.YtcagncomnjeinaaOpLaw
import Derived.Test.YtcagncomnjeinaaOpPure
namespace Go.Proofs.Ytcagncomnjeinaa
open Go Go.Eng Go.RowKit
set_option maxRecDepth 100000
set_option maxHeartbeats 4000000
set_option linter.unusedVariables false
set_option linter.unusedSimpArgs false
theorem rowsOf_bytes (l : List Int) : rowsOf l.length 1 (fun i _ => .i .u8 (l.getD i 0)) = l.map fun n => [.i .u8 n] := by
  unfold rowsOf
  apply List.ext_getElem?
  intro j
  simp only [List.getElem?_map]
  by_cases hj : j < l.length
  · rw [List.getElem?_range hj, List.getElem?_eq_getElem hj]
    simp [List.getD_eq_getElem?_getD, List.getElem?_eq_getElem hj, List.range_succ]
  · rw [List.getElem?_eq_none (by simpa using hj), List.getElem?_eq_none (by simpa using hj)]; rfl
theorem putB_mem {o : Opr} {x : Int} (h : x ∈ putB o) : 0 ≤ x ∧ x ≤ 255 := by
  by_cases ho : OkP o
  · obtain ⟨hn, hk, ha, hb, hc, hd, hv⟩ := ho.nums
    rw [putB, if_pos ho] at h
    obtain ⟨k, ⟨a, b, c, d, n⟩, v⟩ := o
    dsimp only at *
    clear ho
    by_cases h4 : k = 4
    · rcases hn with rfl | rfl | rfl | rfl | rfl <;> simp [h4] at h <;> omega
    · rcases hn with rfl | rfl | rfl | rfl | rfl <;> simp [h4] at h <;> omega
  · rw [putB, if_neg ho] at h; cases h
theorem bytes_app {a b : List Int} (ha : ∀ x ∈ a, 0 ≤ x ∧ x ≤ 255) (hb : Bytes b) : Bytes (a ++ b) := fun i => by
  show 0 ≤ (a ++ b).getD i 0 ∧ (a ++ b).getD i 0 ≤ 255
  rw [List.getD_eq_getElem?_getD]
  by_cases hi : i < a.length
  · rw [List.getElem?_append_left hi, List.getElem?_eq_getElem hi]
    exact ha _ (List.getElem_mem hi)
  · rw [List.getElem?_append_right (by omega), ← List.getD_eq_getElem?_getD]
    exact hb _
theorem putB_len (o : Opr) : (putB o).length ≤ 20 := by
  by_cases ho : OkP o
  · obtain ⟨hn, -⟩ := ho.nums
    rw [putB, if_pos ho]
    obtain ⟨k, ⟨a, b, c, d, n⟩, v⟩ := o
    dsimp only at *
    rcases hn with rfl | rfl | rfl | rfl | rfl <;> simp <;> split <;> simp
  · rw [putB, if_neg ho]; simp
theorem once_fn (o : Opr) (l : List Int) (hl : l.length ≤ 9223372036854775807) (hb : Bytes l) : Eng.Fn Try.prog 9 [.a (encO o), .c (bytesX l)] (Tells (.c (.b true))) := by
  refine Eng.Fn.of tab_ok Try.func9 (by kernel_rfl) (by kernel_rfl) (fun w0 => ?_)
  conv => whnf
  refine callx_as (.c .bt) op_awake rfl rfl trivial ?_
  conv => whnf
  refine And.intro (fun h1 => ?_) (fun h1 => ?_)
  · conv => whnf
  have h1 : ¬ (l.length : Int) > 60 := by simpa using h1
  conv => whnf
  refine callx_tells (put_fn o) rfl trivial ?_
  conv => whnf
  refine And.intro (fun h2 => ?_) (fun h2 => ?_)
  · have hlen := putB_len o
    have ho : OkP o := by
      by_cases h : OkP o
      · exact h
      · rw [putB, if_neg h] at h2; simp at h2
    conv => whnf
    rw [rowsOf_bytes (putB o)]
    refine And.intro (by simp only [List.length_map]; omega) ?_
    conv => whnf
    rw [rowsOf_bytes l]
    refine And.intro (by simp only [List.length_map]; omega) ?_
    conv => whnf
    refine callx_frz 1 rfl ?_
    conv => whnf
    have hof := opOf_fn (putB o ++ l) (by rw [List.length_append]; omega) (bytes_app (fun x hx => putB_mem hx) hb)
    rw [ofR_put ho l] at hof
    refine callx_says hof ⟨bytes_ent3 (by rw [List.map_append]), trivial⟩ rfl (ofR_st _ _ _) ?_
    conv => whnf
    refine And.intro (fun h => absurd h (by simp)) (fun _ => ?_)
    conv => whnf
    refine And.intro (fun h => absurd h (by simp)) (fun _ => ?_)
    conv => whnf
    refine And.intro (fun h => absurd h (by simp)) (fun _ => ?_)
    conv => whnf
    by_cases hg : Good l
    · have hof := opOf_fn l (by omega) hb
      rw [ofR, if_pos hg] at hof
      refine callx_tells hof rfl (ofR_st _ _ _) ?_
      conv => whnf
      refine And.intro (fun h => absurd h (by simp)) (fun _ => ?_)
      conv => whnf
      have hsz := hg.2.1
      have hs0 : 0 ≤ sizeI l := by unfold sizeI dpI; split <;> omega
      have hpo := put_opOf hb hg
      refine drawx_pure tab_ok (by kernel_rfl) (by kernel_rfl) ?_
      conv => whnf
      refine And.intro (fun _ => ?_) (fun h => absurd hsz (by simpa using h))
      conv => whnf
      refine callp_tells (put_fn (opOf l)) rfl trivial ?_
      conv => whnf
      refine opp_str tab_ok (putB (opOf l)) rfl rfl (fun _ _ => rfl) rfl rfl rfl rfl rfl rfl ?_
      conv => whnf
      refine And.intro ⟨hs0, hsz⟩ ?_
      conv => whnf
      refine opp_str tab_ok (l.take (sizeI l).toNat) rfl (by rw [List.length_take]; show (sizeI l).toNat = _; omega) (fun i hi => ?_) rfl rfl rfl rfl rfl rfl ?_
      · have hi : i < (sizeI l).toNat := hi
        show XC.i .u8 (l.getD i 0) = XC.i .u8 ((l.take (sizeI l).toNat).getD i 0)
        rw [List.getD_eq_getElem?_getD, List.getD_eq_getElem?_getD, List.getElem?_take, if_pos hi]
      conv => whnf
      rw [hpo]
      exact ba_refl _
    · have hof := opOf_fn l (by omega) hb
      rw [ofR, if_neg hg] at hof
      refine callx_tells hof rfl (ofR_st _ _ _) ?_
      conv => whnf
      repeat' (first
        | (refine And.intro (fun h => absurd h (by decide)) (fun _ => ?_); conv => whnf)
        | (refine And.intro (fun _ => ?_) (fun h => absurd h (by decide)); conv => whnf))
      all_goals rfl
  · have ho : ¬ OkP o := fun h => by rw [putB, if_pos h] at h2; simp at h2; omega
    conv => whnf
    refine callx_tells (check_fn o) rfl trivial ?_
    conv => whnf
    refine And.intro (fun h => absurd h (by simp [okI, ho])) (fun _ => ?_)
    conv => whnf
    by_cases hg : Good l
    · have hof := opOf_fn l (by omega) hb
      rw [ofR, if_pos hg] at hof
      refine callx_tells hof rfl (ofR_st _ _ _) ?_
      conv => whnf
      refine And.intro (fun h => absurd h (by simp)) (fun _ => ?_)
      conv => whnf
      have hsz := hg.2.1
      have hs0 : 0 ≤ sizeI l := by unfold sizeI dpI; split <;> omega
      have hpo := put_opOf hb hg
      refine drawx_pure tab_ok (by kernel_rfl) (by kernel_rfl) ?_
      conv => whnf
      refine And.intro (fun _ => ?_) (fun h => absurd hsz (by simpa using h))
      conv => whnf
      refine callp_tells (put_fn (opOf l)) rfl trivial ?_
      conv => whnf
      refine opp_str tab_ok (putB (opOf l)) rfl rfl (fun _ _ => rfl) rfl rfl rfl rfl rfl rfl ?_
      conv => whnf
      refine And.intro ⟨hs0, hsz⟩ ?_
      conv => whnf
      refine opp_str tab_ok (l.take (sizeI l).toNat) rfl (by rw [List.length_take]; show (sizeI l).toNat = _; omega) (fun i hi => ?_) rfl rfl rfl rfl rfl rfl ?_
      · have hi : i < (sizeI l).toNat := hi
        show XC.i .u8 (l.getD i 0) = XC.i .u8 ((l.take (sizeI l).toNat).getD i 0)
        rw [List.getD_eq_getElem?_getD, List.getD_eq_getElem?_getD, List.getElem?_take, if_pos hi]
      conv => whnf
      rw [hpo]
      exact ba_refl _
    · have hof := opOf_fn l (by omega) hb
      rw [ofR, if_neg hg] at hof
      refine callx_tells hof rfl (ofR_st _ _ _) ?_
      conv => whnf
      repeat' (first
        | (refine And.intro (fun h => absurd h (by decide)) (fun _ => ?_); conv => whnf)
        | (refine And.intro (fun _ => ?_) (fun h => absurd h (by decide)); conv => whnf))
      all_goals rfl
theorem opOnce_row (n0 n1 n2 n3 n4 n5 n6 : Int) (l : Nat) (g : Nat → Int) (_ : (Lit.int .i64 n0).wf = true) (_ : (Lit.int .i64 n1).wf = true) (_ : (Lit.int .i64 n2).wf = true) (_ : (Lit.int .i64 n3).wf = true) (_ : (Lit.int .i64 n4).wf = true) (_ : (Lit.int .i64 n5).wf = true) (_ : (Lit.int .i64 n6).wf = true)
    (m : l ≤ maxLen) (w : ∀ i, i < l → (Lit.int .u8 (g i)).wf = true) :
    Eng.Fn Try.prog 9 [.a [.i .i64 n0, .i .i64 n1, .i .i64 n2, .i .i64 n3, .i .i64 n4, .i .i64 n5, .i .i64 n6], .c (.rs l 1 fun i _ => .i .u8 (g i))] (Tells (.c (.b true))) :=
  (once_fn ⟨n0, ⟨n1, n2, n3, n4, n5⟩, n6⟩ (listI l g) (by simp [listI]; simp [maxLen] at m; omega) (bytes_listI w)).ask ⟨entL_refl _, bytes_of, trivial⟩
end Go.Proofs.Ytcagncomnjeinaa
