/- Victims: the two laws' walks. -/
import Derived.Test.YtcagncomnjeinaaVictim2
namespace Go.Proofs.Ytcagncomnjeinaa
open Go Go.Eng Go.RowKit
set_option maxRecDepth 100000
set_option maxHeartbeats 4000000
set_option linter.unusedVariables false
set_option linter.unusedSimpArgs false
theorem does_fn (st lk : List Int) (how p a b : Int) (l : List (Int × Int)) : Eng.Fn Try.prog 7 [.c (intsX st), .c (intsX lk), .c (.i .i64 how), .c (.i .i64 p), .c (.i .i64 a), .c (.i .i64 b), .c (edgesX l)] (Tells (.c (.b true))) := by
  refine Eng.Fn.ofJ tab_ok [6] Try.func7 (by kernel_rfl) (by kernel_rfl) (fun w0 => ?_)
  conv => whnf
  refine callx_as (.c .bt) awake_fn rfl rfl trivial ?_
  conv => whnf
  apply And.intro <;> intro h1 <;> conv => whnf
  apply And.intro <;> intro h2 <;> conv => whnf
  apply And.intro <;> intro h3 <;> conv => whnf
  simp only [decide_eq_false_iff_not] at h1 h2 h3
  refine callx_tells (kill_fn _ _) rfl trivial ?_
  conv => whnf
  refine seqx_upto tab_ok 15 [] (fun _ : Unit => True) (fun _ => [(0, .c (intsX st)), (1, .c (intsX lk)), (2, .c (.i .i64 how)), (3, .c (.i .i64 p)), (4, .c (.i .i64 a)), (5, .c (.i .i64 b)), (6, .c (edgesX l)), (15, .c (.i .i64 (killI p how))), (16, .c (.i .i64 (killI p how)))]) (fun _ => []) 91 ?_ (fun _ _ => ?_)
  · conv => whnf
    repeat' (apply And.intro <;> intro h <;> conv => whnf)
    all_goals
      refine ⟨(), trivial, rfl, ?_⟩
      refine ⟨?_, ?_, rfl⟩ <;> repeat' (first | exact trivial | exact entV_refl _ | apply And.intro)
      all_goals first
        | rfl
        | (simp_all [killI]; done)
        | (simp_all [killI]; omega)
  · conv => whnf
    refine callx_tells (choose_fn st lk how (by omega)) rfl trivial ?_
    conv => whnf
    refine callx_tells (refChoose_fn st lk how (by omega)) rfl trivial ?_
    conv => whnf
    refine And.intro (fun _ => ?_) (fun h => by simp at h)
    conv => whnf
    refine callx_tells (judge_fn p a b) rfl trivial ?_
    conv => whnf
    refine callx_tells (refJudge_fn p a b) rfl trivial ?_
    conv => whnf
    refine And.intro (fun _ => ?_) (fun h => by simp at h)
    conv => whnf
    refine And.intro (fun _ => ?_) (fun h => by simp at h)
    conv => whnf
    refine callx_tells (all_fn p st l (by omega)) rfl trivial ?_
    conv => whnf
    refine callx_tells (refAll_fn p st l (by omega) (by omega)) rfl trivial ?_
    conv => whnf
    have hle := allL_le p st l []
    refine callx_tells (sameEdges_fn _ _ (by simp only [allL]; simp only [List.length_nil] at hle; omega)) rfl trivial ?_
    conv => whnf
    simp
theorem stampI_at {st : List Int} {x : Int} (h0 : 0 ≤ x) : stampI st x = st.getD x.toNat 0 := by rw [stampI, if_neg (by omega)]
/-- Who gives way has a greater stamp than somebody. -/
theorem gives_way {p : Int} {st : List Int} {e : Int × Int} {x : Int} (h : judgeI p (stampI st e.1) (stampI st e.2) ≠ 0) (hx : whoI p st e = x) : ∃ y, (y = e.1 ∨ y = e.2) ∧ stampI st y < stampI st x := by
  unfold whoI at hx
  unfold judgeI at h hx
  split at h
  · rename_i h1
    rw [if_pos h1, if_neg (by decide)] at hx
    exact ⟨e.2, .inr rfl, by rw [← hx]; exact h1.2⟩
  · rename_i h1
    split at h
    · rename_i h2
      rw [if_neg h1, if_pos h2, if_pos rfl] at hx
      exact ⟨e.1, .inl rfl, by rw [← hx]; exact h2.2⟩
    · exact absurd rfl h
theorem allL_who {p : Int} {st : List Int} : ∀ (l out : List (Int × Int)) (o : Int × Int), o ∈ l.foldl (allStep p st) out → o ∈ out ∨ ∃ e ∈ l, judgeI p (stampI st e.1) (stampI st e.2) ≠ 0 ∧ whoI p st e = o.1
  | [], out, o, h => .inl h
  | e :: l, out, o, h => by
    rw [List.foldl_cons] at h
    rcases allL_who l _ o h with h1 | ⟨e', h1, h2⟩
    · unfold allStep at h1
      split at h1
      · rename_i h3
        rcases List.mem_append.1 h1 with h4 | h4
        · exact .inl h4
        · simp only [List.mem_singleton] at h4
          exact .inr ⟨e, by simp, h3.1, by rw [h4]⟩
      · exact .inl h1
    · exact .inr ⟨e', by simp [h1], h2⟩
theorem chBest_max (st lk : List Int) : ∀ k, 0 < k → ∀ i, i < k → st.getD i 0 ≤ st.getD (chBest st lk 0 k) 0
  | 0, h, _, _ => absurd h (by omega)
  | k + 1, _, i, hi => by
    have hb : ∀ j, betB (st.getD k 0) (lk.getD k 0) (st.getD j 0) (lk.getD j 0) 0 = decide (st.getD k 0 > st.getD j 0) := fun j => by simp [betB]
    unfold chBest
    rw [hb]
    by_cases h0 : k = 0
    · subst h0; obtain rfl : i = 0 := by omega
      split <;> simp [chBest]
    · have ih := chBest_max st lk k (by omega)
      by_cases hik : i = k
      · subst hik
        split
        · omega
        · rename_i h1; simp only [decide_eq_true_eq] at h1; omega
      · have := ih i (by omega)
        split
        · rename_i h1; simp only [decide_eq_true_eq] at h1; omega
        · exact this
theorem oldest_fn (st : List Int) (l : List (Int × Int)) (p x : Int) (lk : List Int) : Eng.Fn Try.prog 8 [.c (intsX st), .c (edgesX l), .c (.i .i64 p), .c (.i .i64 x), .c (intsX lk)] (Tells (.c (.b true))) := by
  refine Eng.Fn.of tab_ok Try.func8 (by kernel_rfl) (by kernel_rfl) (fun w0 => ?_)
  conv => whnf
  refine callx_as (.c .bt) awake_fn rfl rfl trivial ?_
  conv => whnf
  apply And.intro <;> intro h1 <;> conv => whnf
  apply And.intro <;> intro h2 <;> conv => whnf
  apply And.intro <;> intro h3 <;> conv => whnf
  apply And.intro <;> intro h4 <;> conv => whnf
  apply And.intro <;> intro h5 <;> conv => whnf
  simp only [decide_eq_false_iff_not] at h1 h2 h3 h4 h5
  have hx0 : 0 ≤ x := by omega
  refine loopi tab_ok (fun k => k ≤ st.length ∧ ∀ i, i < k → st.getD x.toNat 0 ≤ st.getD i 0) (fun k => [(0, .c (intsX st)), (1, .c (edgesX l)), (2, .c (.i .i64 p)), (3, .c (.i .i64 x)), (4, .c (intsX lk)), (45, .c (intsX st)), (46, .c (.i .i64 st.length)), (47, .c (.i .i64 k))]) (fun k => []) (fun k => st.length - k) 0 121 rfl ⟨Nat.zero_le _, fun i hi => by omega⟩ ?_ (fun k hk => ?_)
  · refine ⟨?_, ?_, rfl⟩ <;> repeat' (first | exact trivial | exact entV_refl _ | apply And.intro)
    all_goals rfl
  · obtain ⟨hk, hmin⟩ := hk
    conv => whnf
    refine And.intro (fun h6 => ?_) (fun h6 => ?_)
    · conv => whnf
      simp only [decide_eq_true_eq] at h6
      refine ⟨by omega, ?_⟩
      conv => whnf
      refine ⟨by omega, ?_⟩
      conv => whnf
      refine And.intro (fun h7 => ?_) (fun h7 => ?_)
      · conv => whnf
      · conv => whnf
        simp only [decide_eq_false_iff_not, Int.toNat_natCast] at h7
        refine ⟨k + 1, ⟨by omega, fun i hi => ?_⟩, by omega, rfl, ?_⟩
        · by_cases e : i < k
          · exact hmin i e
          · obtain rfl : i = k := by omega
            omega
        · refine ⟨?_, ?_, rfl⟩ <;> repeat' (first | exact trivial | exact entV_refl _ | apply And.intro)
          all_goals first
            | rfl
            | exact wrap_succ (by omega)
    · conv => whnf
      simp only [decide_eq_false_iff_not] at h6
      have e : k = st.length := by omega
      subst e
      refine loopi tab_ok (fun k => k ≤ l.length ∧ ∀ i, i < k → (0 ≤ (l.getD i (0, 0)).1 ∧ (l.getD i (0, 0)).1 < st.length) ∧ (0 ≤ (l.getD i (0, 0)).2 ∧ (l.getD i (0, 0)).2 < st.length)) (fun k => [(0, .c (intsX st)), (1, .c (edgesX l)), (2, .c (.i .i64 p)), (3, .c (.i .i64 x)), (4, .c (intsX lk)), (58, .c (edgesX l)), (59, .c (.i .i64 l.length)), (60, .c (.i .i64 k))]) (fun k => []) (fun k => l.length - k) 0 121 rfl ⟨Nat.zero_le _, fun i hi => by omega⟩ ?_ (fun k hk => ?_)
      · refine ⟨?_, ?_, rfl⟩ <;> repeat' (first | exact trivial | exact entV_refl _ | apply And.intro)
        all_goals rfl
      · obtain ⟨hk, hin⟩ := hk
        conv => whnf
        refine And.intro (fun h7 => ?_) (fun h7 => ?_)
        · conv => whnf
          simp only [decide_eq_true_eq] at h7
          refine ⟨by omega, ?_⟩
          conv => whnf
          repeat' (apply And.intro <;> intro h <;> (try simp only [decide_eq_true_eq, decide_eq_false_iff_not, Int.toNat_natCast] at h) <;> conv => whnf)
          refine ⟨k + 1, ⟨by omega, fun i hi => ?_⟩, by omega, rfl, ?_⟩
          · by_cases e : i < k
            · exact hin i e
            · obtain rfl : i = k := by omega
              omega
          · refine ⟨?_, ?_, rfl⟩ <;> repeat' (first | exact trivial | exact entV_refl _ | apply And.intro)
            all_goals first
              | rfl
              | exact wrap_succ (by omega)
        · conv => whnf
          simp only [decide_eq_false_iff_not] at h7
          have e : k = l.length := by omega
          subst e
          refine callx_tells (all_fn p st l (by omega)) rfl trivial ?_
          conv => whnf
          refine loopi tab_ok (fun k => k ≤ (allL p st l).length) (fun k => [(0, .c (intsX st)), (3, .c (.i .i64 x)), (4, .c (intsX lk)), (90, .c (edgesX (allL p st l))), (91, .c (.i .i64 (allL p st l).length)), (92, .c (.i .i64 k))]) (fun k => []) (fun k => (allL p st l).length - k) 0 121 rfl (Nat.zero_le _) ?_ (fun k hk => ?_)
          · refine ⟨?_, ?_, rfl⟩ <;> repeat' (first | exact trivial | exact entV_refl _ | apply And.intro)
            all_goals rfl
          · have hle := allL_le p st l []
            have hle2 : (allL p st l).length ≤ l.length := by simpa [allL] using hle
            conv => whnf
            refine And.intro (fun h8 => ?_) (fun h8 => ?_)
            · conv => whnf
              simp only [decide_eq_true_eq] at h8
              refine ⟨by omega, ?_⟩
              conv => whnf
              refine And.intro (fun h9 => ?_) (fun h9 => ?_)
              · exfalso
                simp only [beq_iff_eq, Int.toNat_natCast] at h9
                have hkl : k < (allL p st l).length := by omega
                have hmem : (allL p st l).getD k (0, 0) ∈ l.foldl (allStep p st) [] := by
                  rw [List.getD_eq_getElem?_getD, List.getElem?_eq_getElem hkl]; exact List.getElem_mem hkl
                rcases allL_who l [] _ hmem with h10 | ⟨e, he, hj, hw⟩
                · simp at h10
                · obtain ⟨y, hy, hlt⟩ := gives_way hj (hw.trans h9)
                  obtain ⟨i, hi, rfl⟩ := List.getElem_of_mem he
                  have hr := hin i hi
                  rw [List.getD_eq_getElem?_getD, List.getElem?_eq_getElem hi] at hr
                  simp only [Option.getD_some] at hr
                  have hy0 : 0 ≤ y ∧ y < st.length := by rcases hy with rfl | rfl; exact hr.1; exact hr.2
                  rw [stampI_at hy0.1, stampI_at hx0] at hlt
                  have := hmin y.toNat (by omega)
                  omega
              · conv => whnf
                refine ⟨k + 1, by omega, by omega, rfl, ?_⟩
                refine ⟨?_, ?_, rfl⟩ <;> repeat' (first | exact trivial | exact entV_refl _ | apply And.intro)
                all_goals first
                  | rfl
                  | exact wrap_succ (by omega)
            · conv => whnf
              refine callx_tells (choose_fn st lk 0 (by omega)) rfl trivial ?_
              have hch : chooseI st lk 0 = chBest st lk 0 st.length := by
                unfold chooseI
                rw [if_neg]
                rintro (h | h)
                · subst h; simp at h4; omega
                · exact h.1 rfl
              rw [hch]
              conv => whnf
              have hcl := chBest_le st lk 0 st.length
              refine loopi tab_ok (fun k => k ≤ st.length) (fun k => [(0, .c (intsX st)), (17, .c (.i .i64 (chBest st lk 0 st.length))), (104, .c (intsX st)), (105, .c (.i .i64 st.length)), (106, .c (.i .i64 k))]) (fun k => []) (fun k => st.length - k) 0 121 rfl (Nat.zero_le _) ?_ (fun k hk => ?_)
              · refine ⟨?_, ?_, rfl⟩ <;> repeat' (first | exact trivial | exact entV_refl _ | apply And.intro)
                all_goals rfl
              · conv => whnf
                refine And.intro (fun h9 => ?_) (fun h9 => ?_)
                · conv => whnf
                  simp only [decide_eq_true_eq] at h9
                  have hmax := chBest_max st lk st.length (by omega) k (by omega)
                  repeat' (first
                    | (refine And.intro (by omega) ?_; conv => whnf)
                    | (apply And.intro <;> intro h <;> (try simp only [decide_eq_true_eq, decide_eq_false_iff_not, Int.toNat_natCast] at h) <;> conv => whnf))
                  all_goals first
                    | (exfalso; omega)
                    | (refine ⟨k + 1, by omega, by omega, rfl, ?_⟩
                       refine ⟨?_, ?_, rfl⟩ <;> repeat' (first | exact trivial | exact entV_refl _ | apply And.intro)
                       all_goals first
                         | rfl
                         | exact wrap_succ (by omega))
                · conv => whnf
abbrev edgesOf (n : Nat) (g : Nat → Nat → Int) : List (Int × Int) := (List.range n).map fun i => (g i 0, g i 1)
theorem edges_of {n : Nat} {g : Nat → Nat → Int} : entV (.c (.rs n 2 fun i j => .i .i64 (g i j))) (.c (edgesX (edgesOf n g))) :=
  rows_of fun i _ j hj => by
    match j, hj with
    | 0, _ => rfl
    | 1, _ => rfl
theorem does_row (l0 : Nat) (h0 : Nat → Int) (l1 : Nat) (h1 : Nat → Int) (n2 n3 n4 n5 : Int) (l6 : Nat) (h6 : Nat → Nat → Int) : Eng.Fn Try.prog 7 [.c (.rs l0 1 fun i _ => .i .i64 (h0 i)), .c (.rs l1 1 fun i _ => .i .i64 (h1 i)), .c (.i .i64 n2), .c (.i .i64 n3), .c (.i .i64 n4), .c (.i .i64 n5), .c (.rs l6 2 fun i j => .i .i64 (h6 i j))] (Tells (.c (.b true))) :=
  (does_fn (listI l0 h0) (listI l1 h1) n2 n3 n4 n5 (edgesOf l6 h6)).ask ⟨ints_of, ints_of, entV_refl _, entV_refl _, entV_refl _, entV_refl _, edges_of, trivial⟩
theorem oldest_row (l0 : Nat) (h0 : Nat → Int) (l1 : Nat) (h1 : Nat → Nat → Int) (n2 n3 : Int) (l4 : Nat) (h4 : Nat → Int) : Eng.Fn Try.prog 8 [.c (.rs l0 1 fun i _ => .i .i64 (h0 i)), .c (.rs l1 2 fun i j => .i .i64 (h1 i j)), .c (.i .i64 n2), .c (.i .i64 n3), .c (.rs l4 1 fun i _ => .i .i64 (h4 i))] (Tells (.c (.b true))) :=
  (oldest_fn (listI l0 h0) (edgesOf l1 h1) n2 n3 (listI l4 h4)).ask ⟨ints_of, edges_of, entV_refl _, entV_refl _, ints_of, trivial⟩
end Go.Proofs.Ytcagncomnjeinaa
