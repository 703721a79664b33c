/- Victims: who gives way, of many. -/
import Derived.Test.YtehbalkhboedeaaNum
import Derived.Test.YtehbalkhboedeaaTab
namespace Go.Proofs.Ytehbalkhboedeaa
open Go Go.Eng Go.RowKit
set_option maxRecDepth 100000
set_option maxHeartbeats 4000000
set_option linter.unusedVariables false
set_option linter.unusedSimpArgs false
def betB (s n s' n' how : Int) : Bool := if how = 1 ∧ n ≠ n' then decide (n < n') else decide (s > s')
def chBest (st lk : List Int) (how : Int) : Nat → Nat
  | 0 => 0
  | k + 1 => if betB (st.getD k 0) (lk.getD k 0) (st.getD (chBest st lk how k) 0) (lk.getD (chBest st lk how k) 0) how then k else chBest st lk how k
theorem chBest_yes {st lk : List Int} {how : Int} {k : Nat} (h : betB (st.getD k 0) (lk.getD k 0) (st.getD (chBest st lk how k) 0) (lk.getD (chBest st lk how k) 0) how = true) : (k : Int) = (chBest st lk how (k + 1) : Nat) := by
  rw [chBest, if_pos h]
theorem chBest_no {st lk : List Int} {how : Int} {k : Nat} (h : betB (st.getD k 0) (lk.getD k 0) (st.getD (chBest st lk how k) 0) (lk.getD (chBest st lk how k) 0) how = false) : (chBest st lk how k : Int) = (chBest st lk how (k + 1) : Nat) := by
  rw [chBest, if_neg (by rw [h]; decide)]
theorem chBest_le (st lk : List Int) (how : Int) : ∀ k, chBest st lk how k ≤ k - 1
  | 0 => Nat.le_refl _
  | k + 1 => by
    have := chBest_le st lk how k
    unfold chBest; split <;> omega
def chooseI (st lk : List Int) (how : Int) : Int := if st = [] ∨ (how ≠ 0 ∧ how ≠ 1) then -1 else chBest st lk how st.length
def judgeI (p a b : Int) : Int := if p = 1 ∧ a > b then 1 else if p = 2 ∧ a < b then 2 else 0
theorem judge_fn (p a b : Int) : Eng.Fn Try.prog 52 [.c (.i .i64 p), .c (.i .i64 a), .c (.i .i64 b)] (Tells (.c (.i .i64 (judgeI p a b)))) := by
  refine Eng.Fn.of tab_ok Try.func52 (by kernel_rfl) (by kernel_rfl) (fun w0 => ?_)
  conv => whnf
  repeat' (apply And.intro <;> intro h <;> conv => whnf)
  all_goals (refine ⟨rfl, ?_⟩; simp_all [judgeI])
  all_goals omega
def killI (p w : Int) : Int := if p = 1 ∧ w = 1 then 41 else if p = 2 ∧ w = 2 then 42 else if p = 0 then 43 else if p = 3 then 44 else 0
theorem kill_fn (p w : Int) : Eng.Fn Try.prog 53 [.c (.i .i64 p), .c (.i .i64 w)] (Tells (.c (.i .i64 (killI p w)))) := by
  refine Eng.Fn.of tab_ok Try.func53 (by kernel_rfl) (by kernel_rfl) (fun w0 => ?_)
  conv => whnf
  repeat' (apply And.intro <;> intro h <;> conv => whnf)
  all_goals (refine ⟨rfl, ?_⟩; simp_all [killI])
  all_goals omega
def stampI (st : List Int) (tx : Int) : Int := if tx < 0 then 0 else st.getD tx.toNat 0
theorem stamp_fn (st : List Int) (tx : Int) : Eng.Fn Try.prog 54 [.c (intsX st), .c (.i .i64 tx)] (Tells (.c (.i .i64 (stampI st tx)))) := by
  refine Eng.Fn.of tab_ok Try.func54 (by kernel_rfl) (by kernel_rfl) (fun w0 => ?_)
  conv => whnf
  refine And.intro (fun h => ?_) (fun h => ?_)
  · conv => whnf
    simp only [decide_eq_true_eq] at h
    exact ⟨rfl, by rw [stampI, if_pos h]⟩
  · conv => whnf
    simp only [decide_eq_false_iff_not] at h
    refine And.intro (fun h1 => ?_) (fun h1 => ?_)
    · conv => whnf
      simp only [decide_eq_true_eq] at h1
      exact ⟨rfl, by rw [stampI, if_neg h, getD_big (by omega)]⟩
    · conv => whnf
      simp only [decide_eq_false_iff_not] at h1
      refine ⟨by omega, ?_⟩
      conv => whnf
      exact ⟨rfl, by rw [stampI, if_neg h]⟩
def whoI (p : Int) (st : List Int) (e : Int × Int) : Int := if judgeI p (stampI st e.1) (stampI st e.2) = 2 then e.2 else e.1
def allStep (p : Int) (st : List Int) (out : List (Int × Int)) (e : Int × Int) : List (Int × Int) :=
  if judgeI p (stampI st e.1) (stampI st e.2) ≠ 0 ∧ whoI p st e ∉ out.map Prod.fst then out ++ [(whoI p st e, judgeI p (stampI st e.1) (stampI st e.2))] else out
def allL (p : Int) (st : List Int) (l : List (Int × Int)) : List (Int × Int) := l.foldl (allStep p st) []
theorem allL_le (p : Int) (st : List Int) : ∀ (l out : List (Int × Int)), (l.foldl (allStep p st) out).length ≤ out.length + l.length
  | [], out => by simp
  | e :: l, out => by
    have := allL_le p st l (allStep p st out e)
    have h2 : (allStep p st out e).length ≤ out.length + 1 := by unfold allStep; split <;> simp
    simp only [List.foldl_cons, List.length_cons]; omega
abbrev domE (out : List (Int × Int)) : List (List Int) := out.map fun p => [p.1]
theorem dom_mem {out : List (Int × Int)} {x : Int} : [x] ∈ domE out ↔ x ∈ out.map Prod.fst := by simp [domE]
theorem all_fn (p : Int) (st : List Int) (l : List (Int × Int)) (hl : l.length ≤ 1000000) : Eng.Fn Try.prog 31 [.c (.i .i64 p), .c (edgesX l), .c (intsX st)] (Tells (.c (edgesX (allL p st l)))) := by
  refine Eng.Fn.ofZ tab_ok Try.func31 (by kernel_rfl) (by kernel_rfl) trivial (fun w0 => ?_)
  conv => whnf
  refine opx_makeMap false [.i64] false 1 (fun _ => [.bt]) ?_
  conv => whnf
  refine loopx_nil 7 64 2 rfl ?_
  conv => whnf
  refine loopi tab_ok (fun k => k ≤ l.length) (fun k => [(0, .c (.i .i64 p)), (2, .c (intsX st)), (7, .c (.ow 1)), (8, .c (.ow 0)), (14, .c (edgesX l)), (15, .c (.i .i64 l.length)), (16, .c (.i .i64 k))])
    (fun k => [.abs (MapA false [.i64] false 1 (domE (allL p st (l.take k))) (fun _ => [.bt])), .row 64 2 ((allL p st (l.take k)).map encE)]) (fun k => l.length - k) 0 54 rfl (Nat.zero_le _) ?_ (fun k hk => ?_)
  · refine ⟨?_, ?_, rfl⟩ <;> repeat' (first | exact trivial | exact entV_refl _ | exact entLL_refl _ | exact (fun _ _ _ _ h => h) | apply And.intro)
    all_goals rfl
  · conv => whnf
    refine And.intro (fun h1 => ?_) (fun h1 => ?_)
    · conv => whnf
      simp only [decide_eq_true_eq] at h1
      have h2 : k < l.length := by omega
      have hs := foldl_take_succ (allStep p st) [] (0, 0) l k h2
      have hle := allL_le p st (l.take k) []
      have ht : (l.take k).length ≤ k := List.length_take_le _ _
      have hle2 : (allL p st (l.take k)).length ≤ 1000000 := by unfold allL; simp only [List.length_nil] at hle; omega
      refine ⟨by omega, ?_⟩
      conv => whnf
      refine drawx_pure tab_ok (by kernel_rfl) (by kernel_rfl) ?_
      conv => whnf
      refine callp_tells (stamp_fn st _) rfl trivial ?_
      conv => whnf
      refine callp_tells (stamp_fn st _) rfl trivial ?_
      conv => whnf
      refine callp_tells (judge_fn _ _ _) rfl trivial ?_
      conv => whnf
      have hyes : ∀ x, whoI p st (l.getD k (0, 0)) = x → judgeI p (stampI st (l.getD k (0, 0)).1) (stampI st (l.getD k (0, 0)).2) ≠ 0 → [x] ∉ domE (allL p st (l.take k)) → allL p st (l.take (k + 1)) = allL p st (l.take k) ++ [(x, judgeI p (stampI st (l.getD k (0, 0)).1) (stampI st (l.getD k (0, 0)).2))] := by
        rintro x rfl h3 h4
        show List.foldl _ _ _ = _
        rw [hs, allStep, if_pos ⟨h3, fun h5 => h4 (dom_mem.2 h5)⟩]; rfl
      have hno : (∀ x, whoI p st (l.getD k (0, 0)) = x → judgeI p (stampI st (l.getD k (0, 0)).1) (stampI st (l.getD k (0, 0)).2) ≠ 0 → [x] ∈ domE (allL p st (l.take k))) → allL p st (l.take (k + 1)) = allL p st (l.take k) := by
        intro h3
        show List.foldl _ _ _ = _
        rw [hs, allStep, if_neg (fun ⟨h4, h5⟩ => h5 (dom_mem.1 (h3 _ rfl h4)))]; rfl
      refine And.intro (fun h3 => ?_) (fun h3 => ?_)
      all_goals
        conv => whnf
        refine And.intro (fun h4 => ?_) (fun h4 => ?_)
        · conv => whnf
          refine opx_lookup tab_ok rfl rfl rfl rfl rfl rfl rfl (fun h5 => ?_) (fun h5 => ?_)
          · conv => whnf
            simp only [Int.toNat_natCast, beq_iff_eq, bne_iff_ne, beq_eq_false_iff_ne, ne_eq] at h3 h4 h5
            have e := hno fun x hx _ => by rw [← hx]; unfold whoI; first | (rw [if_pos h3]; exact h5) | (rw [if_neg h3]; exact h5)
            refine ⟨k + 1, by omega, by omega, rfl, ?_⟩
            rw [e]
            refine ⟨?_, ?_, rfl⟩ <;> repeat' (first | exact trivial | exact entV_refl _ | exact entLL_refl _ | exact (fun _ _ _ _ h => h) | apply And.intro)
            all_goals first
              | rfl
              | exact wrap_succ (by omega)
          · conv => whnf
            refine opx_update tab_ok rfl rfl rfl rfl rfl rfl rfl rfl rfl ?_
            conv => whnf
            refine ⟨by simp only [List.length_map, List.length_cons, List.length_nil]; omega, ?_⟩
            conv => whnf
            simp only [Int.toNat_natCast, beq_iff_eq, bne_iff_ne, beq_eq_false_iff_ne, ne_eq] at h3 h4 h5
            have e := hyes _ (by unfold whoI; first | rw [if_pos h3] | rw [if_neg h3]) h4 h5
            refine ⟨k + 1, by omega, by omega, rfl, ?_⟩
            rw [e]
            refine ⟨?_, ?_, rfl⟩ <;> repeat' (first | exact trivial | exact entV_refl _ | exact entLL_refl _ | apply And.intro)
            all_goals first
              | rfl
              | exact wrap_succ (by omega)
              | (refine mapA_le ?_ (fun q _ => by unfold updV; split <;> rfl); simp only [Int.toNat_natCast]; rw [insD, if_neg h5, domE, domE, List.map_append]; rfl)
              | (refine entLL_of_eq ?_; rw [List.map_append]; rfl)
        · conv => whnf
          simp only [Int.toNat_natCast, beq_iff_eq, bne_eq_false_iff_eq, beq_eq_false_iff_ne, ne_eq] at h3 h4
          have e := hno fun x hx h6 => absurd h4 h6
          refine ⟨k + 1, by omega, by omega, rfl, ?_⟩
          rw [e]
          refine ⟨?_, ?_, rfl⟩ <;> repeat' (first | exact trivial | exact entV_refl _ | exact entLL_refl _ | exact (fun _ _ _ _ h => h) | apply And.intro)
          all_goals first
            | rfl
            | exact wrap_succ (by omega)
    · conv => whnf
      simp only [decide_eq_false_iff_not] at h1
      have e : k = l.length := by omega
      subst e
      rw [List.take_length]
      exact row_ent rfl
theorem awake_fn : Eng.Fn Try.prog 30 [] (Tells (.c (.b true))) := by
  refine Eng.Fn.of tab_ok Try.func30 (by kernel_rfl) (by kernel_rfl) (fun w0 => ?_)
  conv => whnf
  refine callx_as (.c (.il .i64 1)) (judge_fn _ _ _) rfl ⟨rfl, by decide⟩ trivial ?_
  conv => whnf
  refine callx_as (.c (.il .i64 2)) (judge_fn _ _ _) rfl ⟨rfl, by decide⟩ trivial ?_
  conv => whnf
  refine callx_as (.c (.il .i64 43)) (kill_fn _ _) rfl ⟨rfl, by decide⟩ trivial ?_
  conv => whnf
theorem betB_iff {s n s' n' how : Int} (hh : how = 0 ∨ how = 1) : betB s n s' n' how = true ↔ (how = 1 ∧ n < n') ∨ ((how = 0 ∨ n = n') ∧ s > s') := by
  unfold betB
  split <;> simp <;> omega
end Go.Proofs.Ytehbalkhboedeaa
