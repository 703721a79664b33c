/- Victims: who gives way, of many. -/
import Derived.Test.YtcagncomnjeinaaNum
import Derived.Test.YtcagncomnjeinaaTab
namespace Go.Proofs.Ytcagncomnjeinaa
open Go Go.Eng Go.RowKit
set_option maxRecDepth 100000
set_option maxHeartbeats 4000000
set_option linter.unusedVariables false
set_option linter.unusedSimpArgs false
def betB (s n s' n' how : Int) : Bool := if how = 1 ∧ n ≠ n' then decide (n < n') else decide (s > s')
theorem better_fn (s n s' n' how : Int) : Eng.Fn Try.prog 70 [.a [.i .i64 s, .i .i64 n], .a [.i .i64 s', .i .i64 n'], .c (.i .i64 how)] (Tells (.c (.b (betB s n s' n' how)))) := by
  refine Eng.Fn.of tab_ok Try.func70 (by kernel_rfl) (by kernel_rfl) (fun w0 => ?_)
  conv => whnf
  repeat' (apply And.intro <;> intro h <;> conv => whnf)
  all_goals simp_all [betB]
def chBest (st lk : List Int) (how : Int) : Nat → Nat
  | 0 => 0
  | k + 1 => if betB (st.getD k 0) (lk.getD k 0) (st.getD (chBest st lk how k) 0) (lk.getD (chBest st lk how k) 0) how then k else chBest st lk how k
theorem chBest_yes {st lk : List Int} {how : Int} {k : Nat} (h : betB (st.getD k 0) (lk.getD k 0) (st.getD (chBest st lk how k) 0) (lk.getD (chBest st lk how k) 0) how = true) : (k : Int) = (chBest st lk how (k + 1) : Nat) := by
  rw [chBest, if_pos h]
theorem chBest_no {st lk : List Int} {how : Int} {k : Nat} (h : betB (st.getD k 0) (lk.getD k 0) (st.getD (chBest st lk how k) 0) (lk.getD (chBest st lk how k) 0) how = false) : (chBest st lk how k : Int) = (chBest st lk how (k + 1) : Nat) := by
  rw [chBest, if_neg (by rw [h]; decide)]
theorem chBest_le (st lk : List Int) (how : Int) : ∀ k, chBest st lk how k ≤ k - 1
  | 0 => Nat.le_refl _
  | k + 1 => by
    have := chBest_le st lk how k
    unfold chBest; split <;> omega
def chooseI (st lk : List Int) (how : Int) : Int := if st = [] ∨ (how ≠ 0 ∧ how ≠ 1) then -1 else chBest st lk how st.length
theorem at_fn (st lk : List Int) (k : Nat) (hk : k < st.length) : Eng.Fn Try.prog 69 [.c (.i .i64 k), .c (.ep 1 fun _ => intsX lk), .c (.ep 1 fun _ => intsX st)] (Tells (.a [.i .i64 (st.getD k 0), .i .i64 (lk.getD k 0)])) := by
  refine Eng.Fn.of tab_ok Try.func69 (by kernel_rfl) (by kernel_rfl) (fun w0 => ?_)
  conv => whnf
  refine And.intro (fun h => ?_) (fun h => ?_)
  · conv => whnf
    simp only [decide_eq_true_eq] at h
    refine drawx_plan tab_ok [0] (.take 0 (.take 1 (.take 2 (.take 3 (.take 4 (.take 5 (.take 6 (.take 7 (.take 8 (.one 9 (.done))))))))))) (by kernel_rfl) (by kernel_rfl) (by kernel_rfl) ?_
    conv => whnf
    refine ⟨by omega, ?_⟩
    conv => whnf
    refine ⟨by omega, ?_⟩
    conv => whnf
    exact ⟨⟨rfl, rfl⟩, ⟨rfl, rfl⟩, trivial⟩
  · conv => whnf
    refine ⟨by omega, ?_⟩
    conv => whnf
    simp only [decide_eq_false_iff_not] at h
    refine ⟨⟨rfl, rfl⟩, ⟨rfl, ?_⟩, trivial⟩
    exact (getD_big (by omega)).symm
theorem choose_fn (st lk : List Int) (how : Int) (hl : st.length ≤ 1000000) : Eng.Fn Try.prog 27 [.c (intsX st), .c (intsX lk), .c (.i .i64 how)] (Tells (.c (.i .i64 (chooseI st lk how)))) := by
  refine Eng.Fn.of tab_ok Try.func27 (by kernel_rfl) (by kernel_rfl) (fun w0 => ?_)
  conv => whnf
  have main : (how = 0 ∨ how = 1) → st ≠ [] → chooseI st lk how = chBest st lk how st.length := fun h h1 => by
    unfold chooseI; rw [if_neg (by simp [h1]; omega)]
  repeat' (apply And.intro <;> intro h <;> conv => whnf)
  · simp_all [chooseI]
  · simp_all [chooseI]
  all_goals
    have main := main (by simp_all) (by intro e; simp_all)
    refine loopi tab_ok (fun k => k ≤ st.length) (fun k => [(2, .c (.i .i64 how)), (3, .c (.p 0 0)), (4, .c (.p 1 0)), (7, .c (.fn 69 2 (nthC [.p 1 0, .p 0 0]))), (8, .c (.i .i64 (chBest st lk how k))), (23, .c (.i .i64 st.length)), (24, .c (.i .i64 k))]) (fun k => [.cells 42 [intsX st], .cells 43 [intsX lk]]) (fun k => st.length - k) 0 38 rfl (Nat.zero_le _) ?_ (fun k hk => ?_)
    · refine ⟨?_, ?_, rfl⟩ <;> repeat' (first | exact trivial | exact entV_refl _ | exact entL_refl _ | apply And.intro)
      all_goals rfl
    · conv => whnf
      refine And.intro (fun h1 => ?_) (fun h1 => ?_)
      · conv => whnf
        simp only [decide_eq_true_eq] at h1
        have h2 : k < st.length := by omega
        have hb := chBest_le st lk how k
        refine callx_lent (at_fn st lk k h2) ⟨entV_refl _, ep1 (Nat.le_refl _) rfl, ep1 (Nat.le_refl _) rfl, trivial⟩ rfl rfl ?_
        conv => whnf
        refine callx_lent (at_fn st lk (chBest st lk how k) (by omega)) ⟨entV_refl _, ep1 (Nat.le_refl _) rfl, ep1 (Nat.le_refl _) rfl, trivial⟩ rfl rfl ?_
        conv => whnf
        refine callx_tells (better_fn _ _ _ _ _) rfl trivial ?_
        conv => whnf
        refine And.intro (fun h3 => ?_) (fun h3 => ?_)
        all_goals
          conv => whnf
          refine ⟨k + 1, by omega, by omega, rfl, ?_⟩
          refine ⟨?_, ?_, rfl⟩ <;> repeat' (first | exact trivial | exact entV_refl _ | exact entL_refl _ | apply And.intro)
          all_goals first
            | rfl
            | exact wrap_succ (by omega)
            | exact chBest_yes h3
            | exact chBest_no h3
      · conv => whnf
        simp only [decide_eq_false_iff_not] at h1
        have e : k = st.length := by omega
        subst e
        exact ⟨rfl, main.symm⟩
def judgeI (p a b : Int) : Int := if p = 1 ∧ a > b then 1 else if p = 2 ∧ a < b then 2 else 0
theorem judge_fn (p a b : Int) : Eng.Fn Try.prog 16 [.c (.i .i64 p), .c (.i .i64 a), .c (.i .i64 b)] (Tells (.c (.i .i64 (judgeI p a b)))) := by
  refine Eng.Fn.of tab_ok Try.func16 (by kernel_rfl) (by kernel_rfl) (fun w0 => ?_)
  conv => whnf
  repeat' (apply And.intro <;> intro h <;> conv => whnf)
  all_goals (refine ⟨rfl, ?_⟩; simp_all [judgeI])
  all_goals omega
theorem refJudge_fn (p a b : Int) : Eng.Fn Try.prog 29 [.c (.i .i64 p), .c (.i .i64 a), .c (.i .i64 b)] (Tells (.c (.i .i64 (judgeI p a b)))) := by
  refine Eng.Fn.of tab_ok Try.func29 (by kernel_rfl) (by kernel_rfl) (fun w0 => ?_)
  conv => whnf
  repeat' (apply And.intro <;> intro h <;> conv => whnf)
  all_goals (refine ⟨rfl, ?_⟩; simp_all [judgeI])
  all_goals omega
def killI (p w : Int) : Int := if p = 1 ∧ w = 1 then 41 else if p = 2 ∧ w = 2 then 42 else if p = 0 then 43 else if p = 3 then 44 else 0
theorem kill_fn (p w : Int) : Eng.Fn Try.prog 26 [.c (.i .i64 p), .c (.i .i64 w)] (Tells (.c (.i .i64 (killI p w)))) := by
  refine Eng.Fn.of tab_ok Try.func26 (by kernel_rfl) (by kernel_rfl) (fun w0 => ?_)
  conv => whnf
  repeat' (apply And.intro <;> intro h <;> conv => whnf)
  all_goals (refine ⟨rfl, ?_⟩; simp_all [killI])
  all_goals omega
def stampI (st : List Int) (tx : Int) : Int := if tx < 0 then 0 else st.getD tx.toNat 0
theorem stamp_fn (st : List Int) (tx : Int) : Eng.Fn Try.prog 71 [.c (intsX st), .c (.i .i64 tx)] (Tells (.c (.i .i64 (stampI st tx)))) := by
  refine Eng.Fn.of tab_ok Try.func71 (by kernel_rfl) (by kernel_rfl) (fun w0 => ?_)
  conv => whnf
  refine And.intro (fun h => ?_) (fun h => ?_)
  · conv => whnf
    simp only [decide_eq_true_eq] at h
    exact ⟨rfl, by rw [stampI, if_pos h]⟩
  · conv => whnf
    simp only [decide_eq_false_iff_not] at h
    refine And.intro (fun h1 => ?_) (fun h1 => ?_)
    · conv => whnf
      simp only [decide_eq_true_eq] at h1
      exact ⟨rfl, by rw [stampI, if_neg h, getD_big (by omega)]⟩
    · conv => whnf
      simp only [decide_eq_false_iff_not] at h1
      refine ⟨by omega, ?_⟩
      conv => whnf
      exact ⟨rfl, by rw [stampI, if_neg h]⟩
def whoI (p : Int) (st : List Int) (e : Int × Int) : Int := if judgeI p (stampI st e.1) (stampI st e.2) = 2 then e.2 else e.1
def allStep (p : Int) (st : List Int) (out : List (Int × Int)) (e : Int × Int) : List (Int × Int) :=
  if judgeI p (stampI st e.1) (stampI st e.2) ≠ 0 ∧ whoI p st e ∉ out.map Prod.fst then out ++ [(whoI p st e, judgeI p (stampI st e.1) (stampI st e.2))] else out
def allL (p : Int) (st : List Int) (l : List (Int × Int)) : List (Int × Int) := l.foldl (allStep p st) []
theorem allL_le (p : Int) (st : List Int) : ∀ (l out : List (Int × Int)), (l.foldl (allStep p st) out).length ≤ out.length + l.length
  | [], out => by simp
  | e :: l, out => by
    have := allL_le p st l (allStep p st out e)
    have h2 : (allStep p st out e).length ≤ out.length + 1 := by unfold allStep; split <;> simp
    simp only [List.foldl_cons, List.length_cons]; omega
abbrev domE (out : List (Int × Int)) : List (List Int) := out.map fun p => [p.1]
theorem dom_mem {out : List (Int × Int)} {x : Int} : [x] ∈ domE out ↔ x ∈ out.map Prod.fst := by simp [domE]
theorem all_fn (p : Int) (st : List Int) (l : List (Int × Int)) (hl : l.length ≤ 1000000) : Eng.Fn Try.prog 31 [.c (.i .i64 p), .c (edgesX l), .c (intsX st)] (Tells (.c (edgesX (allL p st l)))) := by
  refine Eng.Fn.ofZ tab_ok Try.func31 (by kernel_rfl) (by kernel_rfl) trivial (fun w0 => ?_)
  conv => whnf
  refine opx_makeMap false [.i64] false 1 (fun _ => [.bt]) ?_
  conv => whnf
  refine loopx_nil 7 51 2 rfl ?_
  conv => whnf
  refine loopi tab_ok (fun k => k ≤ l.length) (fun k => [(0, .c (.i .i64 p)), (2, .c (intsX st)), (7, .c (.ow 1)), (8, .c (.ow 0)), (14, .c (edgesX l)), (15, .c (.i .i64 l.length)), (16, .c (.i .i64 k))])
    (fun k => [.abs (MapA false [.i64] false 1 (domE (allL p st (l.take k))) (fun _ => [.bt])), .row 51 2 ((allL p st (l.take k)).map encE)]) (fun k => l.length - k) 0 54 rfl (Nat.zero_le _) ?_ (fun k hk => ?_)
  · refine ⟨?_, ?_, rfl⟩ <;> repeat' (first | exact trivial | exact entV_refl _ | exact entLL_refl _ | exact (fun _ _ _ _ h => h) | apply And.intro)
    all_goals rfl
  · conv => whnf
    refine And.intro (fun h1 => ?_) (fun h1 => ?_)
    · conv => whnf
      simp only [decide_eq_true_eq] at h1
      have h2 : k < l.length := by omega
      have hs := foldl_take_succ (allStep p st) [] (0, 0) l k h2
      have hle := allL_le p st (l.take k) []
      have ht : (l.take k).length ≤ k := List.length_take_le _ _
      have hle2 : (allL p st (l.take k)).length ≤ 1000000 := by unfold allL; simp only [List.length_nil] at hle; omega
      refine ⟨by omega, ?_⟩
      conv => whnf
      refine drawx_pure tab_ok (by kernel_rfl) (by kernel_rfl) ?_
      conv => whnf
      refine callp_tells (stamp_fn st _) rfl trivial ?_
      conv => whnf
      refine callp_tells (stamp_fn st _) rfl trivial ?_
      conv => whnf
      refine callp_tells (judge_fn _ _ _) rfl trivial ?_
      conv => whnf
      have hyes : ∀ x, whoI p st (l.getD k (0, 0)) = x → judgeI p (stampI st (l.getD k (0, 0)).1) (stampI st (l.getD k (0, 0)).2) ≠ 0 → [x] ∉ domE (allL p st (l.take k)) → allL p st (l.take (k + 1)) = allL p st (l.take k) ++ [(x, judgeI p (stampI st (l.getD k (0, 0)).1) (stampI st (l.getD k (0, 0)).2))] := by
        rintro x rfl h3 h4
        show List.foldl _ _ _ = _
        rw [hs, allStep, if_pos ⟨h3, fun h5 => h4 (dom_mem.2 h5)⟩]; rfl
      have hno : (∀ x, whoI p st (l.getD k (0, 0)) = x → judgeI p (stampI st (l.getD k (0, 0)).1) (stampI st (l.getD k (0, 0)).2) ≠ 0 → [x] ∈ domE (allL p st (l.take k))) → allL p st (l.take (k + 1)) = allL p st (l.take k) := by
        intro h3
        show List.foldl _ _ _ = _
        rw [hs, allStep, if_neg (fun ⟨h4, h5⟩ => h5 (dom_mem.1 (h3 _ rfl h4)))]; rfl
      refine And.intro (fun h3 => ?_) (fun h3 => ?_)
      all_goals
        conv => whnf
        refine And.intro (fun h4 => ?_) (fun h4 => ?_)
        · conv => whnf
          refine opx_lookup tab_ok rfl rfl rfl rfl rfl rfl rfl (fun h5 => ?_) (fun h5 => ?_)
          · conv => whnf
            simp only [Int.toNat_natCast, beq_iff_eq, bne_iff_ne, beq_eq_false_iff_ne, ne_eq] at h3 h4 h5
            have e := hno fun x hx _ => by rw [← hx]; unfold whoI; first | (rw [if_pos h3]; exact h5) | (rw [if_neg h3]; exact h5)
            refine ⟨k + 1, by omega, by omega, rfl, ?_⟩
            rw [e]
            refine ⟨?_, ?_, rfl⟩ <;> repeat' (first | exact trivial | exact entV_refl _ | exact entLL_refl _ | exact (fun _ _ _ _ h => h) | apply And.intro)
            all_goals first
              | rfl
              | exact wrap_succ (by omega)
          · conv => whnf
            refine opx_update tab_ok rfl rfl rfl rfl rfl rfl rfl rfl rfl ?_
            conv => whnf
            refine ⟨by simp only [List.length_map, List.length_cons, List.length_nil]; omega, ?_⟩
            conv => whnf
            simp only [Int.toNat_natCast, beq_iff_eq, bne_iff_ne, beq_eq_false_iff_ne, ne_eq] at h3 h4 h5
            have e := hyes _ (by unfold whoI; first | rw [if_pos h3] | rw [if_neg h3]) h4 h5
            refine ⟨k + 1, by omega, by omega, rfl, ?_⟩
            rw [e]
            refine ⟨?_, ?_, rfl⟩ <;> repeat' (first | exact trivial | exact entV_refl _ | exact entLL_refl _ | apply And.intro)
            all_goals first
              | rfl
              | exact wrap_succ (by omega)
              | (refine mapA_le ?_ (fun q _ => by unfold updV; split <;> rfl); simp only [Int.toNat_natCast]; rw [insD, if_neg h5, domE, domE, List.map_append]; rfl)
              | (refine entLL_of_eq ?_; rw [List.map_append]; rfl)
        · conv => whnf
          simp only [Int.toNat_natCast, beq_iff_eq, bne_eq_false_iff_eq, beq_eq_false_iff_ne, ne_eq] at h3 h4
          have e := hno fun x hx h6 => absurd h4 h6
          refine ⟨k + 1, by omega, by omega, rfl, ?_⟩
          rw [e]
          refine ⟨?_, ?_, rfl⟩ <;> repeat' (first | exact trivial | exact entV_refl _ | exact entLL_refl _ | exact (fun _ _ _ _ h => h) | apply And.intro)
          all_goals first
            | rfl
            | exact wrap_succ (by omega)
    · conv => whnf
      simp only [decide_eq_false_iff_not] at h1
      have e : k = l.length := by omega
      subst e
      rw [List.take_length]
      exact row_ent rfl
theorem sameEdges_fn (a b : List (Int × Int)) (hl : a.length ≤ 1000000) : Eng.Fn Try.prog 30 [.c (edgesX a), .c (edgesX b)] (Tells (.c (.b (decide (a = b))))) := by
  refine Eng.Fn.of tab_ok Try.func30 (by kernel_rfl) (by kernel_rfl) (fun w0 => ?_)
  conv => whnf
  refine And.intro (fun h => ?_) (fun h => ?_)
  · conv => whnf
    simp only [bne_iff_ne, ne_eq] at h
    have : ¬ a = b := fun e => h (by rw [e])
    simp [this]
  · conv => whnf
    simp only [bne_eq_false_iff_eq] at h
    have hab : a.length = b.length := by omega
    refine loopi tab_ok (fun k => k ≤ a.length ∧ ∀ i, i < k → a.getD i (0, 0) = b.getD i (0, 0)) (fun k => [(0, .c (edgesX a)), (1, .c (edgesX b)), (12, .c (.i .i64 a.length)), (13, .c (.i .i64 k))])
      (fun k => []) (fun k => a.length - k) 0 26 rfl ⟨Nat.zero_le _, fun i hi => by omega⟩ ?_ (fun k hk => ?_)
    · refine ⟨?_, ?_, rfl⟩ <;> repeat' (first | exact trivial | exact entV_refl _ | apply And.intro)
      all_goals rfl
    · obtain ⟨hk, hall⟩ := hk
      conv => whnf
      refine And.intro (fun h1 => ?_) (fun h1 => ?_)
      · conv => whnf
        simp only [decide_eq_true_eq] at h1
        refine drawx_pure tab_ok (by kernel_rfl) (by kernel_rfl) ?_
        conv => whnf
        refine ⟨by omega, ?_⟩
        conv => whnf
        refine ⟨by omega, ?_⟩
        conv => whnf
        refine And.intro (fun h2 => ?_) (fun h2 => ?_)
        · conv => whnf
          have : ¬ a = b := fun e => by
            subst e
            simp at h2
          simp [this]
        · conv => whnf
          refine ⟨k + 1, ⟨by omega, fun i hi => ?_⟩, by omega, rfl, ?_⟩
          · by_cases e : i < k
            · exact hall i e
            · obtain rfl : i = k := by omega
              simp only [Int.toNat_natCast, Bool.not_eq_false', Bool.and_eq_true, beq_iff_eq] at h2
              exact Prod.ext h2.1 h2.2
          · refine ⟨?_, ?_, rfl⟩ <;> repeat' (first | exact trivial | exact entV_refl _ | apply And.intro)
            all_goals first
              | rfl
              | exact wrap_succ (by omega)
      · conv => whnf
        simp only [decide_eq_false_iff_not] at h1
        have e : a = b := by
          apply List.ext_getElem hab
          intro i h3 h4
          have := hall i (by omega)
          rwa [List.getD_eq_getElem?_getD, List.getD_eq_getElem?_getD, List.getElem?_eq_getElem h3, List.getElem?_eq_getElem h4] at this
        simp [e]
theorem awake_fn : Eng.Fn Try.prog 15 [] (Tells (.c (.b true))) := by
  refine Eng.Fn.of tab_ok Try.func15 (by kernel_rfl) (by kernel_rfl) (fun w0 => ?_)
  conv => whnf
  refine callx_as (.c (.il .i64 1)) (judge_fn _ _ _) rfl ⟨rfl, by decide⟩ trivial ?_
  conv => whnf
  refine callx_as (.c (.il .i64 2)) (judge_fn _ _ _) rfl ⟨rfl, by decide⟩ trivial ?_
  conv => whnf
  refine callx_as (.c (.il .i64 43)) (kill_fn _ _) rfl ⟨rfl, by decide⟩ trivial ?_
  conv => whnf
theorem betB_iff {s n s' n' how : Int} (hh : how = 0 ∨ how = 1) : betB s n s' n' how = true ↔ (how = 1 ∧ n < n') ∨ ((how = 0 ∨ n = n') ∧ s > s') := by
  unfold betB
  split <;> simp <;> omega
theorem refChoose_fn (st lk : List Int) (how : Int) (hl : st.length ≤ 1000000) : Eng.Fn Try.prog 28 [.c (intsX st), .c (intsX lk), .c (.i .i64 how)] (Tells (.c (.i .i64 (chooseI st lk how)))) := by
  refine Eng.Fn.of tab_ok Try.func28 (by kernel_rfl) (by kernel_rfl) (fun w0 => ?_)
  conv => whnf
  refine loopi tab_ok (fun k => k ≤ st.length ∧ (0 < k → how = 0 ∨ how = 1)) (fun k => [(0, .c (intsX st)), (1, .c (intsX lk)), (2, .c (.i .i64 how)), (7, .c (.i .i64 (if k = 0 then -1 else chBest st lk how k))), (12, .c (.i .i64 st.length)), (13, .c (.i .i64 k))])
      (fun k => []) (fun k => st.length - k) 0 71 rfl ⟨Nat.zero_le _, fun h => by omega⟩ ?_ (fun k hk => ?_)
  · refine ⟨?_, ?_, rfl⟩ <;> repeat' (first | exact trivial | exact entV_refl _ | apply And.intro)
    all_goals rfl
  · obtain ⟨hk, hhow⟩ := hk
    have hb := chBest_le st lk how k
    have hlk : ∀ j : Nat, ¬ j < lk.length → lk.getD j 0 = 0 := fun j hj => getD_big (by omega)
    conv => whnf
    generalize hbest : (if k = 0 then (-1 : Int) else (chBest st lk how k : Int)) = best at *
    have hb0 : (k = 0 ∧ best = -1) ∨ (0 < k ∧ best = chBest st lk how k) := by
      by_cases h : k = 0
      · rw [if_pos h] at hbest; exact .inl ⟨h, hbest.symm⟩
      · rw [if_neg h] at hbest; exact .inr ⟨by omega, hbest.symm⟩
    have hval : ∀ v : Int, (k = 0 → v = 0) → (0 < k → (betB (st.getD k 0) (lk.getD k 0) (st.getD (chBest st lk how k) 0) (lk.getD (chBest st lk how k) 0) how = true → v = k) ∧ (betB (st.getD k 0) (lk.getD k 0) (st.getD (chBest st lk how k) 0) (lk.getD (chBest st lk how k) 0) how = false → v = chBest st lk how k)) → v = if k + 1 = 0 then -1 else (chBest st lk how (k + 1) : Int) := by
      intro v hv0 hv1
      rw [if_neg (by omega)]
      by_cases hk0 : k = 0
      · rw [hv0 hk0]; subst hk0; unfold chBest; split <;> rfl
      · have := hv1 (by omega)
        cases hbb : betB (st.getD k 0) (lk.getD k 0) (st.getD (chBest st lk how k) 0) (lk.getD (chBest st lk how k) 0) how with
        | true => rw [this.1 hbb]; exact chBest_yes hbb
        | false => rw [this.2 hbb]; exact chBest_no hbb
    have hnot : ∀ b : Bool, b = false → ¬ b = true := fun b h => by rw [h]; decide
    have e1 := hlk k
    have e2 := hlk (chBest st lk how k)
    refine And.intro (fun h1 => ?_) (fun h1 => ?_)
    · conv => whnf
      clear hbest
      simp only [decide_eq_true_eq] at h1
      repeat' (first
        | (refine drawx_pure tab_ok (by kernel_rfl) (by kernel_rfl) ?_; conv => whnf)
        | (refine And.intro (by omega) ?_; conv => whnf)
        | (apply And.intro <;> intro h <;> (try simp only [decide_eq_true_eq, decide_eq_false_iff_not, beq_iff_eq, beq_eq_false_iff_ne, bne_iff_ne, bne_eq_false_iff_eq, ne_eq, Int.toNat_natCast] at h) <;> conv => whnf))
      all_goals first
        | (exfalso; omega)
        | exact ⟨rfl, (if_pos (.inr (by omega))).symm⟩
        | (refine ⟨k + 1, ⟨by omega, fun _ => by omega⟩, by omega, rfl, ?_⟩
           refine ⟨?_, ?_, rfl⟩ <;> repeat' (first | exact trivial | exact entV_refl _ | apply And.intro)
           all_goals first
             | rfl
             | exact wrap_succ (by omega)
             | (refine hval _ (fun _ => by omega) (fun hk0 => ?_)
                have hh := hhow hk0
                rcases hb0 with ⟨h0, _⟩ | ⟨_, rfl⟩
                · omega
                · simp only [Int.toNat_natCast] at *
                  refine ⟨fun hb => ?_, fun hb => ?_⟩
                  · rw [betB_iff hh] at hb; first | trivial | omega
                  · have hb := hnot _ hb; rw [betB_iff hh] at hb; first | trivial | omega))
    · conv => whnf
      simp only [decide_eq_false_iff_not] at h1
      have e : k = st.length := by omega
      subst e
      refine ⟨rfl, ?_⟩
      rw [← hbest]
      unfold chooseI
      by_cases h0 : st = []
      · subst h0; simp
      · have hp := List.length_pos_iff.2 h0
        rw [if_neg (by omega), if_neg (by have := hhow hp; simp [h0]; omega)]
end Go.Proofs.Ytcagncomnjeinaa
