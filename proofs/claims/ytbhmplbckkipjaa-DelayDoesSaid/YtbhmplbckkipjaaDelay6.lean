/- How long answers took, which was the slowest; numbers in order, their sum, and in boxes: the walk. -/
import Derived.Test.YtbhmplbckkipjaaDelay5
namespace Go.Proofs.Ytbhmplbckkipjaa
open Go Go.Eng Go.RowKit
set_option maxRecDepth 100000
set_option maxHeartbeats 4000000
set_option linter.unusedVariables false
set_option linter.unusedSimpArgs false
def okRp (r : Rp) : Prop := r.fr ≤ 9223372036854775807 ∧ r.to ≤ 9223372036854775807
theorem one_lo {r : Rp} (hr : okRp r) (h : r.to < if r.fr < 0 then 0 else r.fr) : oneI r = 0 := by
  obtain ⟨h1, h2⟩ := hr
  unfold oneI
  have : subI r ≤ 0 := by
    unfold subI
    rw [wrap_all (by repeat' split
                     all_goals omega) (by repeat' split
                                          all_goals omega)]
    repeat' split
    all_goals (split at h <;> omega)
  split <;> omega
theorem one_hi {r : Rp} (hr : okRp r) (h : ¬ r.to < if r.fr < 0 then 0 else r.fr) : oneI r = r.to - (if r.fr < 0 then 0 else r.fr) ∧ IntKind.i64.wrap (r.to - (if r.fr < 0 then 0 else r.fr)) = r.to - (if r.fr < 0 then 0 else r.fr) := by
  obtain ⟨h1, h2⟩ := hr
  unfold oneI
  have : subI r = r.to - (if r.fr < 0 then 0 else r.fr) := by
    unfold subI
    rw [wrap_all (by repeat' split
                     all_goals omega) (by repeat' split
                                          all_goals omega)]
    repeat' split
    all_goals omega
  refine ⟨?_, wrap_all (by split at h <;> simp only [*, if_true, if_false] at * <;> omega) (by split at h <;> simp only [*, if_true, if_false] at * <;> omega)⟩
  rw [this]
  split at h <;> simp only [*, if_true, if_false] at * <;> split <;> omega
theorem refDelay_fn (r : Rp) (hr : okRp r) : Eng.Fn Try.prog 45 [.a (encRp r)] (Tells (.c (.i .i64 (oneI r)))) := by
  refine Eng.Fn.of tab_ok Try.func45 (by kernel_rfl) (by kernel_rfl) (fun w0 => ?_)
  conv => whnf
  refine drawx_plan tab_ok [] (.take 0 (.take 1 (.take 2 (.take 3 (.take 4 (.take 5 .done)))))) (by kernel_rfl) (by kernel_rfl) (by kernel_rfl) ?_
  conv => whnf
  have h1 := one_lo hr
  have h2 := one_hi hr
  refine And.intro (fun h3 => ?_) (fun h3 => ?_)
  · have h3 : r.fr < 0 := by simpa using h3
    simp only [h3, if_true] at h1 h2
    conv => whnf
    refine And.intro (fun h4 => ?_) (fun h4 => ?_)
    · have h4 : r.to < 0 := by simpa using h4
      conv => whnf
      exact ⟨rfl, (h1 h4).symm⟩
    · have h4 : ¬ r.to < 0 := by simpa using h4
      conv => whnf
      refine ⟨rfl, ?_⟩
      rw [(h2 h4).1]; exact (h2 h4).2
  · have h3 : ¬ r.fr < 0 := by simpa using h3
    simp only [h3, if_false] at h1 h2
    conv => whnf
    refine And.intro (fun h4 => ?_) (fun h4 => ?_)
    · have h4 : r.to < r.fr := by simpa using h4
      conv => whnf
      exact ⟨rfl, (h1 h4).symm⟩
    · have h4 : ¬ r.to < r.fr := by simpa using h4
      conv => whnf
      refine ⟨rfl, ?_⟩
      rw [(h2 h4).1]; exact (h2 h4).2
theorem does_fn (rs : List Rp) (l : List Int) (w : Int) (hrs : ∀ r ∈ rs, okRp r) (hr : ∀ x ∈ l, x ≤ 9223372036854775807) : Eng.Fn Try.prog 11 [.c (rpsX rs), .c (intsX l), .c (.i .i64 w)] (Tells (.c (.b true))) := by
  refine Eng.Fn.of tab_ok Try.func11 (by kernel_rfl) (by kernel_rfl) (fun w0 => ?_)
  conv => whnf
  refine callx_as (.c .bt) quant_awake rfl rfl trivial ?_
  conv => whnf
  refine And.intro (fun h2 => ?_) (fun h2 => ?_)
  · conv => whnf
    first | rfl | skip
  · have h2 : rs.length ≤ 40 := by simp at h2; omega
    conv => whnf
    refine And.intro (fun h3 => ?_) (fun h3 => ?_)
    · conv => whnf
      first | rfl | skip
    · have h3 : l.length ≤ 40 := by simp at h3; omega
      conv => whnf
      refine loopx_nil 7 3 1 rfl ?_
      conv => whnf
      refine loopi tab_ok (fun k => k ≤ rs.length) (fun k => [(0, .c (rpsX rs)), (1, .c (intsX l)), (2, .c (.i .i64 w)), (7, .c (.ow 0)), (8, .c (.i .i64 (slowAt rs k).1)), (9, .c (.b (slowAt rs k).2)), (30, .c (rpsX rs)), (31, .c (.i .i64 rs.length)), (32, .c (.i .i64 k))]) (fun k => [rowI 3 ((rs.take k).map oneI)]) (fun k => rs.length - k) 0 _ rfl (Nat.zero_le _) ?_ (fun k hk => ?_)
      · refine ⟨?_, ?_, rfl⟩ <;> repeat' (first | exact trivial | exact entV_refl _ | exact ⟨rfl, rfl⟩ | rfl | apply And.intro)
      · have hs := slowAt_ok rs k
        conv => whnf
        refine And.intro (fun b1 => ?_) (fun b1 => ?_)
        · have b1 : k < rs.length := by simp at b1; omega
          conv => whnf
          refine ⟨by omega, ?_⟩
          conv => whnf
          have hg : rs.getD k default ∈ rs := by
            rw [List.getD_eq_getElem?_getD, List.getElem?_eq_getElem b1]; exact List.getElem_mem _
          have hok := hrs _ hg
          have he : slowAt rs (k + 1) = if (slowAt rs k).2 = false ∨ oneI (rs.getD k default) > oneI (rs.getD (slowAt rs k).1 default) then (k, true) else slowAt rs k := rfl
          have htk : rs.take (k + 1) = rs.take k ++ [rs.getD k default] := take_snoc default b1
          have hlk : (rs.take k).length = k := by rw [List.length_take]; omega
          have hgt : ∀ j, j < k → (rs.take k).getD j default = rs.getD j default := fun j hj => by
            rw [List.getD_eq_getElem?_getD, List.getD_eq_getElem?_getD, List.getElem?_take, if_pos hj]
          generalize slowAt rs k = sl at *
          obtain ⟨best, found⟩ := sl
          generalize hb : rs.getD (Int.toNat (k : Int)) default = o
          have hb : rs.getD k default = o := hb
          rw [hb] at he htk hok
          refine callx_tells (refDelay_fn o hok) rfl trivial ?_
          conv => whnf
          refine ⟨by simp only [List.length_map, List.length_cons, List.length_nil, List.length_take]; omega, ?_⟩
          conv => whnf
          have hrow : ((rs.take k).map oneI).map (fun n => [XC.i .i64 n]) ++ [[XC.i .i64 (oneI o)]] = ((rs.take (k + 1)).map oneI).map (fun n => [XC.i .i64 n]) := by rw [htk]; simp
          rw [hrow]
          refine drawx_plan tab_ok [] (.take 0 (.take 1 (.take 2 (.take 3 (.take 4 (.take 5 (.take 6 (.take 7 (.take 8 (.take 9 (.take 10 (.take 11 (.take 12 .done))))))))))))) (by kernel_rfl) (by kernel_rfl) (by kernel_rfl) ?_
          conv => whnf
          cases found with
          | false =>
            rw [if_pos (.inl rfl)] at he
            refine And.intro (fun _ => ?_) (fun h => absurd h (by simp))
            conv => whnf
            refine ⟨k + 1, by omega, by omega, rfl, ?_⟩
            rw [he]
            refine ⟨?_, ?_, rfl⟩ <;> repeat' (first | exact trivial | exact entV_refl _ | exact wrap_succ (by omega) | exact entLL_refl _ | rfl | apply And.intro)
          | true =>
            have hb3 : best < k := by
              rcases hs with ⟨_, h⟩ | ⟨_, _, h, _⟩
              · cases h
              · exact h
            refine And.intro (fun h => absurd h (by simp)) (fun _ => ?_)
            conv => whnf
            have hel : ∀ j, j < k + 1 → (((rs.take (k + 1)).map oneI).map fun n => [XC.i .i64 n])[j]? = some [.i .i64 (oneI (rs.getD j default))] := fun j hj => by
              simp [List.getElem?_take, hj, show j < rs.length by omega]
            have hll : (((rs.take (k + 1)).map oneI).map fun n => [XC.i .i64 n]).length = k + 1 := by simp only [List.length_map, List.length_take]; omega
            rw [hll]
            refine ⟨by omega, ?_⟩
            conv => whnf
            refine ⟨_, hel k (by omega), ?_⟩
            conv => whnf
            rw [hll]
            refine ⟨by dsimp only; omega, ?_⟩
            conv => whnf
            refine ⟨_, hel best (by omega), ?_⟩
            conv => whnf
            rw [hb]
            refine And.intro (fun h5 => ?_) (fun h5 => ?_)
            · have h5 : oneI o > oneI (rs.getD best default) := by simpa using h5
              rw [if_pos (.inr h5)] at he
              conv => whnf
              refine ⟨k + 1, by omega, by omega, rfl, ?_⟩
              rw [he]
              refine ⟨?_, ?_, rfl⟩ <;> repeat' (first | exact trivial | exact entV_refl _ | exact wrap_succ (by omega) | exact entLL_refl _ | rfl | apply And.intro)
            · have h5 : ¬ oneI o > oneI (rs.getD best default) := by simpa using h5
              rw [if_neg (fun h => by rcases h with h | h; cases h; exact h5 h)] at he
              conv => whnf
              refine ⟨k + 1, by omega, by omega, rfl, ?_⟩
              rw [he]
              refine ⟨?_, ?_, rfl⟩ <;> repeat' (first | exact trivial | exact entV_refl _ | exact wrap_succ (by omega) | exact entLL_refl _ | rfl | apply And.intro)
        · have b1 : k = rs.length := by simp at b1; omega
          subst b1
          rw [List.take_length]
          conv => whnf
          generalize hsw : slowAt rs rs.length = sl
          obtain ⟨best, found⟩ := sl
          refine loopi tab_ok (fun (i : Nat × Int × Bool) => i.1 ≤ l.length ∧ (0 ≤ i.2.1 ∧ i.2.1 ≤ 1125899906842624) ∧ (i.2.2 = true → sumGo l 0 = sumGo (l.drop i.1) i.2.1) ∧ (i.2.2 = false → sumGo l 0 = (0, false)))
            (fun i => [(0, .c (rpsX rs)), (1, .c (intsX l)), (2, .c (.i .i64 w)), (7, .c (.ow 0)), (8, .c (.i .i64 best)), (9, .c (.b found)), (12, .c (.i .i64 i.2.1)), (13, .c (.b i.2.2)), (57, .c (intsX l)), (58, .c (.i .i64 l.length)), (59, .c (.i .i64 i.1))]) (fun i => [rowI 3 (rs.map oneI)]) (fun i => l.length - i.1) (0, 0, true) _ rfl ⟨Nat.zero_le _, ⟨by decide, by decide⟩, fun _ => rfl, fun h => by cases h⟩ ?_ (fun i hi => ?_)
          · refine ⟨?_, ?_, rfl⟩ <;> repeat' (first | exact trivial | exact entV_refl _ | exact ⟨rfl, rfl⟩ | exact entLL_refl _ | rfl | apply And.intro)
          · obtain ⟨k, sm, ok⟩ := i
            obtain ⟨hk, hs0, hgo, hno⟩ := hi
            have hk : k ≤ l.length := hk
            have hs0 : 0 ≤ sm ∧ sm ≤ 1125899906842624 := hs0
            have hgo : ok = true → sumGo l 0 = sumGo (l.drop k) sm := hgo
            have hno : ok = false → sumGo l 0 = (0, false) := hno
            conv => whnf
            refine And.intro (fun b1 => ?_) (fun b1 => ?_)
            · have b1 : k < l.length := by simp at b1; omega
              conv => whnf
              refine ⟨by dsimp only; omega, ?_⟩
              conv => whnf
              have hd := drop_cons2 0 b1
              generalize hb : l.getD (Int.toNat (k : Int)) 0 = n
              have hb : l.getD k 0 = n := hb
              rw [hb] at hd
              rw [hd, sumGo] at hgo
              have hw : IntKind.i64.wrap (1125899906842624 - sm) = 1125899906842624 - sm := wrap_ok (by omega) (by omega)
              cases ok with
              | false =>
                have hno := hno rfl
                repeat' (apply And.intro <;> intro hh <;> first | (exfalso; simp at hh; done) | (conv => whnf))
                refine ⟨(k + 1, sm, false), ⟨by dsimp only; omega, hs0, fun h => (by cases h), fun _ => hno⟩, by dsimp only; omega, rfl, ?_⟩
                refine ⟨?_, ?_, rfl⟩ <;> repeat' (first | exact trivial | exact entV_refl _ | exact ⟨rfl, rfl⟩ | exact wrap_succ (by omega) | exact entLL_refl _ | rfl | apply And.intro)
              | true =>
                have hgo := hgo rfl
                refine And.intro (fun _ => ?_) (fun h => absurd h (by simp))
                conv => whnf
                refine And.intro (fun h4 => ?_) (fun h4 => ?_)
                · have h4 : 0 ≤ n := by simpa using h4
                  conv => whnf
                  rw [hw]
                  refine And.intro (fun h5 => ?_) (fun h5 => ?_)
                  · have h5 : n ≤ 1125899906842624 - sm := by simpa using h5
                    rw [if_neg (by omega)] at hgo
                    conv => whnf
                    refine ⟨(k + 1, sm + n, true), ⟨by dsimp only; omega, by dsimp only; omega, fun _ => hgo, fun h => by cases h⟩, by dsimp only; omega, rfl, ?_⟩
                    have hw2 : IntKind.i64.wrap (sm + n) = sm + n := wrap_ok (by omega) (by omega)
                    refine ⟨?_, ?_, rfl⟩ <;> repeat' (first | exact trivial | exact entV_refl _ | exact ⟨rfl, rfl⟩ | exact wrap_succ (by omega) | exact hw2 | exact decide_eq_true h5 | exact decide_eq_false (by omega) | exact entLL_refl _ | rfl | apply And.intro)
                  · have h5 : n > 1125899906842624 - sm := by simpa using h5
                    rw [if_pos (.inr h5)] at hgo
                    conv => whnf
                    refine ⟨(k + 1, sm, false), ⟨by dsimp only; omega, hs0, fun h => (by cases h), fun _ => hgo⟩, by dsimp only; omega, rfl, ?_⟩
                    refine ⟨?_, ?_, rfl⟩ <;> repeat' (first | exact trivial | exact entV_refl _ | exact ⟨rfl, rfl⟩ | exact wrap_succ (by omega) | exact decide_eq_true h5 | exact decide_eq_false (by omega) | exact entLL_refl _ | rfl | apply And.intro)
                · have h4 : n < 0 := by simpa using h4
                  rw [if_pos (.inl h4)] at hgo
                  conv => whnf
                  refine ⟨(k + 1, sm, false), ⟨by dsimp only; omega, hs0, fun h => (by cases h), fun _ => hgo⟩, by dsimp only; omega, rfl, ?_⟩
                  refine ⟨?_, ?_, rfl⟩ <;> repeat' (first | exact trivial | exact entV_refl _ | exact ⟨rfl, rfl⟩ | exact wrap_succ (by omega) | exact entLL_refl _ | rfl | apply And.intro)
            · have b1 : k = l.length := by simp at b1; omega
              subst b1
              rw [List.drop_length, sumGo] at hgo
              conv => whnf
              have hsame : ok = (sumGo l 0).2 ∧ (ok = true → sm = (sumGo l 0).1) ∧ (ok = false → (sumGo l 0).1 = 0) := by
                cases ok with
                | true => rw [hgo rfl]; exact ⟨rfl, fun _ => rfl, fun h => (by cases h)⟩
                | false => rw [hno rfl]; exact ⟨rfl, fun h => (by cases h), fun _ => rfl⟩
              obtain ⟨q1, q2, q3⟩ := hsame
              cases ok with
              | false =>
                refine And.intro (fun _ => ?_) (fun h => absurd h (by simp))
                conv => whnf
                refine callx_tells (sum_fn l (by omega)) rfl (tupSt _ _) ?_
                conv => whnf
                refine callx_tells (slow_fn rs (by omega)) rfl (tupSt _ _) ?_
                rw [hsw]
                conv => whnf
                refine callx_tells (of_d_fn rs (by omega)) rfl trivial ?_
                conv => whnf
                have hsm1 := sameI_fn (rs.map oneI) (rs.map oneI) (by simp; omega)
                have hsm2 := sameI_fn (sortL l) (sortL l) (by rw [sort_len0]; omega)
                have hsm3 := sameI_fn (boxes l w) (boxes l w) (by have := (boxes_b l w).1; omega)
                simp only [decide_true] at hsm1 hsm2 hsm3
                refine callx_lent hsm1 ⟨entV_refl _, ints_ent (by rfl), trivial⟩ rfl rfl ?_
                conv => whnf
                refine And.intro (fun _ => ?_) (fun h => absurd h (by simp))
                conv => whnf
                refine And.intro (fun _ => ?_) (fun h => absurd h (by simp))
                conv => whnf
                refine And.intro (fun _ => ?_) (fun h => absurd h (by simp))
                conv => whnf
                refine And.intro (fun _ => ?_) (fun h => absurd h (by first | (simp [q2]; done) | (simp [q3]; done) | (simp [← q1, hgo rfl]; done)))
                conv => whnf
                refine And.intro (fun _ => ?_) (fun h => absurd h (by simp [← q1]))
                conv => whnf
                refine callx_tells (sorted_fn l (by omega)) rfl trivial ?_
                conv => whnf
                refine callx_tells (refSorted_fn l (by omega)) rfl trivial ?_
                conv => whnf
                refine callx_tells hsm2 rfl trivial ?_
                conv => whnf
                refine And.intro (fun _ => ?_) (fun h => absurd h (by simp))
                conv => whnf
                refine callx_tells (boxes_fn l w (by omega) hr) rfl trivial ?_
                conv => whnf
                refine callx_tells (refBoxes_fn l w (by omega) hr) rfl trivial ?_
                conv => whnf
                refine callx_tells hsm3 rfl trivial ?_
                conv => whnf
                first | rfl | trace_state
              | true =>
                refine And.intro (fun h => absurd h (by simp)) (fun _ => ?_)
                conv => whnf
                refine callx_tells (sum_fn l (by omega)) rfl (tupSt _ _) ?_
                conv => whnf
                refine callx_tells (slow_fn rs (by omega)) rfl (tupSt _ _) ?_
                rw [hsw]
                conv => whnf
                refine callx_tells (of_d_fn rs (by omega)) rfl trivial ?_
                conv => whnf
                have hsm1 := sameI_fn (rs.map oneI) (rs.map oneI) (by simp; omega)
                have hsm2 := sameI_fn (sortL l) (sortL l) (by rw [sort_len0]; omega)
                have hsm3 := sameI_fn (boxes l w) (boxes l w) (by have := (boxes_b l w).1; omega)
                simp only [decide_true] at hsm1 hsm2 hsm3
                refine callx_lent hsm1 ⟨entV_refl _, ints_ent (by rfl), trivial⟩ rfl rfl ?_
                conv => whnf
                refine And.intro (fun _ => ?_) (fun h => absurd h (by simp))
                conv => whnf
                refine And.intro (fun _ => ?_) (fun h => absurd h (by simp))
                conv => whnf
                refine And.intro (fun _ => ?_) (fun h => absurd h (by simp))
                conv => whnf
                refine And.intro (fun _ => ?_) (fun h => absurd h (by first | (simp [q2]; done) | (simp [q3]; done) | (simp [← q1, hgo rfl]; done)))
                conv => whnf
                refine And.intro (fun _ => ?_) (fun h => absurd h (by simp [← q1]))
                conv => whnf
                refine callx_tells (sorted_fn l (by omega)) rfl trivial ?_
                conv => whnf
                refine callx_tells (refSorted_fn l (by omega)) rfl trivial ?_
                conv => whnf
                refine callx_tells hsm2 rfl trivial ?_
                conv => whnf
                refine And.intro (fun _ => ?_) (fun h => absurd h (by simp))
                conv => whnf
                refine callx_tells (boxes_fn l w (by omega) hr) rfl trivial ?_
                conv => whnf
                refine callx_tells (refBoxes_fn l w (by omega) hr) rfl trivial ?_
                conv => whnf
                refine callx_tells hsm3 rfl trivial ?_
                conv => whnf
                first | rfl | trace_state
theorem fitF_intw {k : IntKind} {l : List Sh} {f : Nat → XC} {o : Nat} (h : fitF (.int k :: l) f o) : (∃ n : Int, f o = .i k n ∧ (Lit.int k n).wf = true) ∧ fitF l f (o + 1) := by
  unfold fitF at h
  exact ⟨by have := h.1; unfold fit at this; exact this, h.2⟩
theorem fit_rp_ok {f : Nat → XC} (h : fitF shRp f 0) : ∃ r : Rp, okRp r ∧ ∀ j, j < 14 → entC (f j) (nthC (encRp r) j) := by
  obtain ⟨⟨n0, e0⟩, h⟩ := fitF_int h
  obtain ⟨⟨n1, e1⟩, h⟩ := fitF_int h
  obtain ⟨⟨n2, e2⟩, h⟩ := fitF_int h
  obtain ⟨⟨n3, e3⟩, h⟩ := fitF_int h
  obtain ⟨⟨n4, e4⟩, h⟩ := fitF_int h
  obtain ⟨⟨n5, e5⟩, h⟩ := fitF_int h
  obtain ⟨⟨n6, e6⟩, h⟩ := fitF_int h
  obtain ⟨⟨n7, e7⟩, h⟩ := fitF_int h
  obtain ⟨⟨n8, e8⟩, h⟩ := fitF_int h
  obtain ⟨⟨n9, e9⟩, h⟩ := fitF_int h
  obtain ⟨⟨n10, e10⟩, h⟩ := fitF_int h
  obtain ⟨⟨n, g, e11, hg⟩, h⟩ := fitF_sl h
  obtain ⟨⟨n12, e12, w12⟩, h⟩ := fitF_intw h
  obtain ⟨⟨n13, e13, w13⟩, h⟩ := fitF_intw h
  obtain ⟨l, hl, hrow⟩ := rows_ex (enc := encR) default (z := 6) fun i hi => fit_rw (hg i hi)
  refine ⟨⟨n0, n1, n2, n3, n4, n5, n6, n7, n8, n9, n10, l, n12, n13⟩, ⟨wf_le w12, wf_le w13⟩, fun j hj => ?_⟩
  match j, hj with
  | 0, _ => exact entC_of_eq e0
  | 1, _ => exact entC_of_eq e1
  | 2, _ => exact entC_of_eq e2
  | 3, _ => exact entC_of_eq e3
  | 4, _ => exact entC_of_eq e4
  | 5, _ => exact entC_of_eq e5
  | 6, _ => exact entC_of_eq e6
  | 7, _ => exact entC_of_eq e7
  | 8, _ => exact entC_of_eq e8
  | 9, _ => exact entC_of_eq e9
  | 10, _ => exact entC_of_eq e10
  | 11, _ => rw [e11]; exact hrow
  | 12, _ => exact entC_of_eq e12
  | 13, _ => exact entC_of_eq e13
theorem rows_exp {α : Type} {enc : α → List XC} (d : α) {p : α → Prop} {z n : Nat} {f : Nat → Nat → XC} (h : ∀ i, i < n → ∃ a : α, p a ∧ ∀ j, j < z → entC (f i j) (nthC (enc a) j)) : ∃ l : List α, l.length = n ∧ (∀ a ∈ l, p a) ∧ entC (.rs n z f) (rowX enc d z l) := by
  have h' : ∀ i, ∃ a : α, i < n → p a ∧ ∀ j, j < z → entC (f i j) (nthC (enc a) j) := fun i => by
    by_cases hi : i < n
    · obtain ⟨a, ha⟩ := h i hi; exact ⟨a, fun _ => ha⟩
    · exact ⟨d, fun h => absurd h hi⟩
  obtain ⟨g, hg⟩ := Classical.axiomOfChoice h'
  exact ⟨(List.range n).map g, by simp, fun a ha => by obtain ⟨i, hi, rfl⟩ := List.mem_map.1 ha; exact (hg i (List.mem_range.1 hi)).1, rows_of (g := g) fun i hi j hj => (hg i hi).2 j hj⟩
theorem does_row (l0 : Nat) (z0 : Nat → Nat → XC) (l1 : Nat) (h1 : Nat → Int) (n2 : Int) (_ : l0 ≤ maxLen) (k0 : ∀ i, i < l0 → fitF shRp (z0 i) 0) (_ : l1 ≤ maxLen) (w1 : ∀ i, i < l1 → (Lit.int .i64 (h1 i)).wf = true) (_ : (Lit.int .i64 n2).wf = true) :
    Eng.Fn Try.prog 11 [.c (.rs l0 14 z0), .c (.rs l1 1 fun i _ => .i .i64 (h1 i)), .c (.i .i64 n2)] (Tells (.c (.b true))) := by
  obtain ⟨rs, _, hok, er⟩ := rows_exp (enc := encRp) default (p := okRp) (z := 14) fun i hi => fit_rp_ok (k0 i hi)
  refine (does_fn rs ((List.range l1).map h1) n2 hok fun x hx => ?_).ask ⟨er, ints_of, entV_refl _, trivial⟩
  obtain ⟨i, hi, rfl⟩ := List.mem_map.1 hx
  exact wf_le (w1 i (List.mem_range.1 hi))
end Go.Proofs.Ytbhmplbckkipjaa
