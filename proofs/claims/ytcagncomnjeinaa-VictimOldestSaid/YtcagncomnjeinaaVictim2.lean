/- Victims: the document's list of all who give way; the law's own words. -/
import Derived.Test.YtcagncomnjeinaaVictim
import Derived.Test.YtcagncomnjeinaaEngY
namespace Go.Proofs.Ytcagncomnjeinaa
open Go Go.Eng Go.RowKit
set_option maxRecDepth 100000
set_option maxHeartbeats 4000000
set_option linter.unusedVariables false
set_option linter.unusedSimpArgs false
def atRow (st : List Int) : List (List XC) := st.map (fun n => [.i .i64 n]) ++ [[.il .i64 0]]
theorem rowsOf_ints (k : IntKind) (st : List Int) : rowsOf st.length 1 (fun i _ => .i k (st.getD i 0)) = st.map fun n => [.i k n] := by
  apply List.ext_getElem
  · simp [rowsOf]
  · intro i h1 h2
    have h3 : i < st.length := by simpa using h2
    simp [rowsOf, List.range_succ, h3]
theorem atRow_eq (st : List Int) (m : Int) (hm : m = st.length + 1) : (rowsOf st.length 1 fun i _ => .i .i64 (st.getD i 0)).take (List.replicate m.toNat [XC.il .i64 0]).length ++ (List.replicate m.toNat [XC.il .i64 0]).drop (rowsOf st.length 1 fun i _ => XC.i .i64 (st.getD i 0)).length = atRow st := by
  have h1 : m.toNat = st.length + 1 := by omega
  rw [h1, rowsOf_ints, List.length_replicate, List.length_map, List.take_of_length_le (by simp), List.drop_replicate, atRow]
  rw [show st.length + 1 - st.length = 1 by omega]; rfl
theorem atRow_at {st : List Int} {i : Nat} (h : i < st.length) : (atRow st)[i]? = some [.i .i64 (st.getD i 0)] := by
  rw [atRow, List.getElem?_append_left (by simpa using h)]
  simp [h]
theorem refAll_fn (p : Int) (st : List Int) (l : List (Int × Int)) (hl : l.length ≤ 1000000) (hs : st.length ≤ 1000000) : Eng.Fn Try.prog 32 [.c (.i .i64 p), .c (edgesX l), .c (intsX st)] (Tells (.c (edgesX (allL p st l)))) := by
  refine Eng.Fn.ofZJ tab_ok [8, 14] Try.func32 (by kernel_rfl) (by kernel_rfl) trivial (fun w0 => ?_)
  conv => whnf
  have e0 : IntKind.i64.wrap ((st.length : Int) + 1) = (st.length : Int) + 1 := wrap_ok (by omega) (by omega)
  refine ⟨by rw [e0]; omega, ?_⟩
  conv => whnf
  refine opx_copy tab_ok rfl rfl rfl rfl rfl rfl ?_
  conv => whnf
  refine loopx_nil 8 51 2 rfl ?_
  conv => whnf
  refine loopi tab_ok (fun k => k ≤ l.length) (fun k => [(0, .c (.i .i64 p)), (2, .c (intsX st)), (7, .c (.ow 0)), (8, .c (.ow 1)), (25, .c (edgesX l)), (26, .c (.i .i64 l.length)), (27, .c (.i .i64 k))])
    (fun k => [.row 2 1 (atRow st), .row 51 2 ((allL p st (l.take k)).map encE)]) (fun k => l.length - k) 0 97 rfl (Nat.zero_le _) ?_ (fun k hk => ?_)
  · refine ⟨?_, ?_, rfl⟩ <;> repeat' (first | exact trivial | exact entV_refl _ | apply And.intro)
    all_goals first
      | rfl
      | exact entLL_of_eq (atRow_eq st _ e0)
  · conv => whnf
    refine And.intro (fun h1 => ?_) (fun h1 => ?_)
    · conv => whnf
      simp only [decide_eq_true_eq] at h1
      have h2 : k < l.length := by omega
      have hs := foldl_take_succ (allStep p st) [] (0, 0) l k h2
      have hle := allL_le p st (l.take k) []
      have ht : (l.take k).length ≤ k := List.length_take_le _ _
      have hle2 : (allL p st (l.take k)).length ≤ 1000000 := by unfold allL; simp only [List.length_nil] at hle; omega
      refine ⟨by omega, ?_⟩
      conv => whnf
      refine seqx_upto tab_ok 12 [14] (fun _ : Unit => True) (fun _ => [(0, .c (.i .i64 p)), (2, .c (intsX st)), (7, .c (.ow 0)), (8, .c (.ow 1)), (10, .c (.p 2 0)), (11, .c (.i .i64 (stampI st (l.getD k (0, 0)).1))), (12, .c (.i .i64 (stampI st (l.getD k (0, 0)).2))), (25, .c (edgesX l)), (26, .c (.i .i64 l.length)), (27, .c (.i .i64 k))])
        (fun _ => [.row 2 1 (atRow st), .row 51 2 ((allL p st (l.take k)).map encE), .cells 51 (encE (l.getD k (0, 0)))]) 97 ?_ (fun _ _ => ?_)
      · conv => whnf
        repeat' (first
          | (apply And.intro <;> intro h <;> (try simp only [decide_eq_true_eq, decide_eq_false_iff_not, Int.toNat_natCast] at h) <;> conv => whnf)
          | (refine And.intro (by simp only [Int.toNat_natCast, atRow, List.length_append, List.length_map, List.length_cons, List.length_nil]; omega) ?_; conv => whnf)
          | (refine ⟨_, atRow_at (by simp only [Int.toNat_natCast]; omega), ?_⟩; conv => whnf))
        all_goals
          refine ⟨(), trivial, rfl, ?_⟩
          refine ⟨?_, ?_, rfl⟩ <;> repeat' (first | exact trivial | exact entV_refl _ | exact entLL_refl _ | exact entL_refl _ | apply And.intro)
          all_goals first
            | rfl
            | (simp only [stampI, Int.toNat_natCast]; split <;> first | rfl | omega | (rw [getD_big (by omega)]))
      · conv => whnf
        refine callx_tells (refJudge_fn _ _ _) rfl trivial ?_
        conv => whnf
        refine seqx_upto tab_ok 16 [] (fun _ : Unit => True) (fun _ => [(0, .c (.i .i64 p)), (2, .c (intsX st)), (7, .c (.ow 0)), (8, .c (.ow 1)), (13, .c (.i .i64 (judgeI p (stampI st (l.getD k (0, 0)).1) (stampI st (l.getD k (0, 0)).2)))), (14, .c (.i .i64 (whoI p st (l.getD k (0, 0))))), (25, .c (edgesX l)), (26, .c (.i .i64 l.length)), (27, .c (.i .i64 k))])
          (fun _ => [.row 2 1 (atRow st), .row 51 2 ((allL p st (l.take k)).map encE)]) 97 ?_ (fun _ _ => ?_)
        · conv => whnf
          refine And.intro (fun h3 => ?_) (fun h3 => ?_)
          all_goals
            conv => whnf
            refine ⟨(), trivial, rfl, ?_⟩
            refine ⟨?_, ?_, rfl⟩ <;> repeat' (first | exact trivial | exact entV_refl _ | exact entLL_refl _ | exact entL_refl _ | apply And.intro)
            all_goals first
              | rfl
              | (simp only [beq_iff_eq, beq_eq_false_iff_ne, ne_eq] at h3; unfold whoI; first | rw [if_pos h3] | rw [if_neg h3])
        · conv => whnf
          refine loopi tab_ok (fun j => j ≤ (allL p st (l.take k)).length) (fun j => [(0, .c (.i .i64 p)), (2, .c (intsX st)), (7, .c (.ow 0)), (8, .c (.ow 1)), (13, .c (.i .i64 (judgeI p (stampI st (l.getD k (0, 0)).1) (stampI st (l.getD k (0, 0)).2)))), (14, .c (.i .i64 (whoI p st (l.getD k (0, 0))))), (15, .c (.b ((judgeI p (stampI st (l.getD k (0, 0)).1) (stampI st (l.getD k (0, 0)).2) == 0) || ((allL p st (l.take k)).take j).any fun o => o.1 == whoI p st (l.getD k (0, 0))))), (25, .c (edgesX l)), (26, .c (.i .i64 l.length)), (27, .c (.i .i64 k)), (73, .c (.ow 1)), (74, .c (.i .i64 (allL p st (l.take k)).length)), (75, .c (.i .i64 j))])
            (fun j => [.row 2 1 (atRow st), .row 51 2 ((allL p st (l.take k)).map encE)]) (fun j => (allL p st (l.take k)).length - j) 0 97 rfl (Nat.zero_le _) ?_ (fun j hj => ?_)
          · refine ⟨?_, ?_, rfl⟩ <;> repeat' (first | exact trivial | exact entV_refl _ | exact entLL_refl _ | apply And.intro)
            all_goals first
              | rfl
              | (simp only [List.length_map]; done)
              | (conv => whnf
                 rw [List.take_zero]
                 try simp)
          · conv => whnf
            refine And.intro (fun h4 => ?_) (fun h4 => ?_)
            · conv => whnf
              simp only [decide_eq_true_eq] at h4
              have hjl : j < (allL p st (l.take k)).length := by omega
              have hany : ((allL p st (l.take k)).take (j + 1)).any (fun o => o.1 == whoI p st (l.getD k (0, 0))) = (((allL p st (l.take k)).take j).any (fun o => o.1 == whoI p st (l.getD k (0, 0))) || (((allL p st (l.take k)).getD j (0, 0)).1 == whoI p st (l.getD k (0, 0)))) := by
                rw [take_succ_snoc (0, 0) _ _ hjl, List.any_append]; simp
              refine ⟨by simp only [List.length_map]; omega, ?_⟩
              conv => whnf
              refine ⟨encE ((allL p st (l.take k)).getD j (0, 0)), by simp [hjl], ?_⟩
              conv => whnf
              refine And.intro (fun h5 => ?_) (fun h5 => ?_)
              all_goals
                conv => whnf
                refine ⟨j + 1, by omega, by omega, rfl, ?_⟩
                refine ⟨?_, ?_, rfl⟩ <;> repeat' (first | exact trivial | exact entV_refl _ | exact entLL_refl _ | apply And.intro)
                all_goals first
                  | rfl
                  | exact wrap_succ (by omega)
                  | (conv => whnf
                     rw [hany, ← Bool.or_assoc, h5]
                     try simp)
            · conv => whnf
              simp only [decide_eq_false_iff_not] at h4
              have e : j = (allL p st (l.take k)).length := by omega
              subst e
              rw [List.take_length]
              have hmem : ((allL p st (l.take k)).any fun o => o.1 == whoI p st (l.getD k (0, 0))) = true ↔ whoI p st (l.getD k (0, 0)) ∈ (allL p st (l.take k)).map Prod.fst := by
                simp only [List.any_eq_true, beq_iff_eq, List.mem_map]
              have hstep : allL p st (l.take (k + 1)) = allStep p st (allL p st (l.take k)) (l.getD k (0, 0)) := hs
              refine And.intro (fun h5 => ?_) (fun h5 => ?_)
              · conv => whnf
                simp only [Bool.not_eq_true', Bool.or_eq_false_iff, beq_eq_false_iff_ne, ne_eq] at h5
                refine ⟨by simp only [List.length_map, List.length_cons, List.length_nil]; omega, ?_⟩
                conv => whnf
                have e2 : allL p st (l.take (k + 1)) = allL p st (l.take k) ++ [(whoI p st (l.getD k (0, 0)), judgeI p (stampI st (l.getD k (0, 0)).1) (stampI st (l.getD k (0, 0)).2))] := by
                  rw [hstep, allStep, if_pos ⟨h5.1, fun h6 => by rw [hmem.2 h6] at h5; cases h5.2⟩]
                refine ⟨k + 1, by omega, by omega, rfl, ?_⟩
                rw [e2]
                refine ⟨?_, ?_, rfl⟩ <;> repeat' (first | exact trivial | exact entV_refl _ | exact entLL_refl _ | apply And.intro)
                all_goals first
                  | rfl
                  | exact wrap_succ (by omega)
                  | (refine entLL_of_eq ?_; rw [List.map_append]; rfl)
              · conv => whnf
                simp only [Bool.not_eq_false', Bool.or_eq_true, beq_iff_eq] at h5
                have e2 : allL p st (l.take (k + 1)) = allL p st (l.take k) := by
                  rw [hstep, allStep, if_neg (fun ⟨h6, h7⟩ => by
                    rcases h5 with h5 | h5
                    · exact h6 h5
                    · exact h7 (hmem.1 h5))]
                refine ⟨k + 1, by omega, by omega, rfl, ?_⟩
                rw [e2]
                refine ⟨?_, ?_, rfl⟩ <;> repeat' (first | exact trivial | exact entV_refl _ | exact entLL_refl _ | apply And.intro)
                all_goals first
                  | rfl
                  | exact wrap_succ (by omega)
    · conv => whnf
      simp only [decide_eq_false_iff_not] at h1
      have e : k = l.length := by omega
      subst e
      rw [List.take_length]
      exact row_ent rfl
end Go.Proofs.Ytcagncomnjeinaa
