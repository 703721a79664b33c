/- The reference: which clash, of which kind, who ends. -/
import Derived.Test.YtbhmplbckkipjaaDeps5
import Derived.Test.YtbhmplbckkipjaaFoot2
namespace Go.Proofs.Ytbhmplbckkipjaa
open Go Go.Eng Go.RowKit
set_option maxRecDepth 100000
set_option maxHeartbeats 4000000
set_option linter.unusedVariables false
set_option linter.unusedSimpArgs false
theorem rEnds_fn (l : List Ev) (tx : Int) (hl : l.length ≤ 1000000) : Eng.Fn Try.prog 104 [.c (evsX l), .c (.i .i64 tx)] (Tells (.t [.c (.i .i64 (endsI l tx).1), .c (.i .i64 (endsI l tx).2)])) := by
  refine Eng.Fn.of tab_ok Try.func104 (by kernel_rfl) (by kernel_rfl) (fun w0 => ?_)
  conv => whnf
  refine loopi tab_ok (fun k => k ≤ l.length ∧ endsI l tx = endsAt tx k (l.drop k)) (fun k => [(0, .c (evsX l)), (1, .c (.i .i64 tx)), (8, .c (evsX l)), (9, .c (.i .i64 l.length)), (10, .c (.i .i64 k))]) (fun k => []) (fun k => l.length - k) 0 _ rfl ⟨Nat.zero_le _, rfl⟩ ?_ (fun k hk => ?_)
  · refine ⟨?_, ?_, rfl⟩ <;> repeat' (first | exact trivial | exact entV_refl _ | apply And.intro)
    all_goals rfl
  · obtain ⟨hk, hall⟩ := hk
    conv => whnf
    refine And.intro (fun h1 => ?_) (fun h1 => ?_)
    · conv => whnf
      simp only [decide_eq_true_eq] at h1
      have h2 : k < l.length := by omega
      refine ⟨by omega, ?_⟩
      conv => whnf
      generalize he : l.getD (Int.toNat (k : Int)) default = e
      have he : l.getD k default = e := he
      rw [drop_getD default h2, he, endsAt] at hall
      clear he
      repeat' (refine And.intro ?_ ?_ <;> intro h <;> conv => whnf)
      all_goals first
        | (have hx : e.tx = tx ∧ e.kind = 9 := by simp_all
           rw [if_pos hx] at hall
           rw [hall]
           repeat' (first | exact trivial | exact ⟨rfl, rfl⟩ | rfl | apply And.intro)
           done)
        | (have hx : ¬ (e.tx = tx ∧ e.kind = 9) := by simp_all
           have hy : e.tx = tx ∧ e.kind = 12 := by simp_all
           rw [if_neg hx, if_pos hy] at hall
           rw [hall]
           repeat' (first | exact trivial | exact ⟨rfl, rfl⟩ | rfl | apply And.intro)
           done)
        | (have hx : ¬ (e.tx = tx ∧ e.kind = 9) := by simp_all
           have hy : ¬ (e.tx = tx ∧ e.kind = 12) := by simp_all
           rw [if_neg hx, if_neg hy] at hall
           refine ⟨k + 1, ⟨by omega, hall⟩, by omega, rfl, ?_⟩
           refine ⟨?_, ?_, rfl⟩ <;> repeat' (first | exact trivial | exact entV_refl _ | exact wrap_succ (by omega) | rfl | apply And.intro)
           done)
    · conv => whnf
      simp only [decide_eq_false_iff_not] at h1
      have e : k = l.length := by omega
      subst e
      rw [List.drop_length] at hall
      rw [hall]
      repeat' (first | exact trivial | exact ⟨rfl, rfl⟩ | rfl | apply And.intro)
theorem rWrites_fn (e : Ev) : Eng.Fn Try.prog 105 [.a (encEv e)] (Tells (.c (.b (wrB e)))) := by
  refine Eng.Fn.of tab_ok Try.func105 (by kernel_rfl) (by kernel_rfl) (fun w0 => ?_)
  conv => whnf
  repeat' (apply And.intro <;> intro h <;> conv => whnf)
  all_goals simp_all [wrB]
theorem rAccess_fn (e : Ev) : Eng.Fn Try.prog 127 [.a (encEv e)] (Tells (.c (.b (accB e)))) := by
  refine Eng.Fn.of tab_ok Try.func127 (by kernel_rfl) (by kernel_rfl) (fun w0 => ?_)
  conv => whnf
  refine callx_tells (rWrites_fn e) rfl trivial ?_
  conv => whnf
  repeat' (apply And.intro <;> intro h <;> conv => whnf)
  all_goals simp_all [accB]
theorem rClash_fn (a b : Ev) : Eng.Fn Try.prog 108 [.a (encEv a), .a (encEv b)] (Tells (.c (.b (clashB a b)))) := by
  refine Eng.Fn.of tab_ok Try.func108 (by kernel_rfl) (by kernel_rfl) (fun w0 => ?_)
  conv => whnf
  repeat' (first
    | (refine callx_tells (rAccess_fn a) rfl trivial ?_; conv => whnf)
    | (refine callx_tells (rAccess_fn b) rfl trivial ?_; conv => whnf)
    | (refine callx_tells (rWrites_fn a) rfl trivial ?_; conv => whnf)
    | (refine callx_tells (rWrites_fn b) rfl trivial ?_; conv => whnf)
    | (refine callx_tells (refWithin_fn a.p b.p) rfl trivial ?_; conv => whnf)
    | (refine callx_tells (refWithin_fn b.p a.p) rfl trivial ?_; conv => whnf)
    | (apply And.intro <;> intro h <;> conv => whnf))
  all_goals simp_all [clashB]
theorem rKind_fn (a b : Ev) : Eng.Fn Try.prog 66 [.a (encEv a), .a (encEv b)] (Tells (.c (.i .i64 (kindI a b)))) := by
  refine Eng.Fn.of tab_ok Try.func66 (by kernel_rfl) (by kernel_rfl) (fun w0 => ?_)
  conv => whnf
  repeat' (first
    | (refine callx_tells (rClash_fn a b) rfl trivial ?_; conv => whnf)
    | (refine callx_tells (rWrites_fn a) rfl trivial ?_; conv => whnf)
    | (refine callx_tells (rWrites_fn b) rfl trivial ?_; conv => whnf)
    | (apply And.intro <;> intro h <;> conv => whnf))
  all_goals simp_all [kindI]
end Go.Proofs.Ytbhmplbckkipjaa

/- The reference: which reasons. -/
namespace Go.Proofs.Ytbhmplbckkipjaa
open Go Go.Eng Go.RowKit
set_option maxRecDepth 100000
set_option maxHeartbeats 4000000
set_option linter.unusedVariables false
set_option linter.unusedSimpArgs false
def rskB (l : List Ev) (a b : Ev) : Bool := (endsI l a.tx).2 != 1 || (endsI l b.tx).2 != 1 || kindI a b == 0 || a.kind == 10 || b.kind == 10
def rAdd (l : List Ev) (a : Ev) (out : List Dep) (b : Ev) : List Dep := if (rskB l a b || out.any (fun o => decide (o = mkD a b))) = true then out else out ++ [mkD a b]
def rInn (l : List Ev) (k : Nat) (out : List Dep) (j : Nat) : List Dep := ((l.take j).drop (k + 1)).foldl (rAdd l (l.getD k default)) out
def rOut (l : List Ev) : Nat → List Dep
  | 0 => []
  | k + 1 => rInn l k (rOut l k) l.length
theorem rAdd_len (l : List Ev) (a : Ev) (out : List Dep) (b : Ev) : (rAdd l a out b).length ≤ out.length + 1 := by
  unfold rAdd; split
  · omega
  · simp
theorem rfold_len (l : List Ev) (a : Ev) : ∀ (m : List Ev) (out : List Dep), (m.foldl (rAdd l a) out).length ≤ out.length + m.length
  | [], out => by simp
  | b :: m, out => by
    have := rfold_len l a m (rAdd l a out b)
    have := rAdd_len l a out b
    simp only [List.foldl_cons, List.length_cons]; omega
theorem rInn_len (l : List Ev) (k : Nat) (out : List Dep) (j : Nat) : (rInn l k out j).length ≤ out.length + l.length := by
  refine Nat.le_trans (rfold_len _ _ _ _) ?_
  rw [List.length_drop, List.length_take]; omega
theorem rOut_len (l : List Ev) : ∀ k, (rOut l k).length ≤ k * l.length
  | 0 => by simp [rOut]
  | k + 1 => by
    have h1 := rOut_len l k
    have h2 := rInn_len l k (rOut l k) l.length
    unfold rOut
    rw [Nat.succ_mul]
    omega
theorem rInn_start (l : List Ev) (k : Nat) (out : List Dep) : rInn l k out (k + 1) = out := by
  unfold rInn
  rw [List.drop_eq_nil_of_le (by rw [List.length_take]; omega)]; rfl
theorem rInn_step (l : List Ev) {k j : Nat} (out : List Dep) (h1 : k + 1 ≤ j) (h2 : j < l.length) : rInn l k out (j + 1) = rAdd l (l.getD k default) (rInn l k out j) (l.getD j default) := by
  unfold rInn
  rw [take_snocE default h2, List.drop_append_of_le_length (by rw [List.length_take]; omega), List.foldl_append]; rfl
abbrev depIt (l : List Dep) : It := .row 104 8 (l.map encD)
theorem rDeps_fn (l : List Ev) (hl : l.length ≤ 10000) : Eng.Fn Try.prog 64 [.c (evsX l)] (Tells (.c (depsX (rOut l l.length)))) := by
  refine Eng.Fn.ofZJ tab_ok [9] Try.func64 (by kernel_rfl) (by kernel_rfl) trivial (fun w0 => ?_)
  conv => whnf
  refine loopx_nil 3 104 8 rfl ?_
  conv => whnf
  refine loopi tab_ok (fun k => k ≤ l.length) (fun k => [(0, .c (evsX l)), (3, .c (.ow 0)), (16, .c (evsX l)), (17, .c (.i .i64 l.length)), (18, .c (.i .i64 k))])
    (fun k => [depIt (rOut l k)]) (fun k => l.length - k) 0 _ rfl (Nat.zero_le _) ?_ (fun k hk => ?_)
  · refine ⟨?_, ?_, rfl⟩ <;> repeat' (first | exact trivial | exact entV_refl _ | exact entLL_refl _ | exact ⟨rfl, rfl⟩ | rfl | apply And.intro)
  · conv => whnf
    refine And.intro (fun h1 => ?_) (fun h1 => ?_)
    · have h1 : k < l.length := by simp at h1; omega
      conv => whnf
      refine ⟨by omega, ?_⟩
      conv => whnf
      have hw : IntKind.i64.wrap ((k : Int) + 1) = ((k + 1 : Nat) : Int) := wrap_succ (by omega)
      rw [hw]
      have hol := rOut_len l k
      have hkl : k * l.length ≤ 10000 * 10000 := Nat.mul_le_mul (by omega) hl
      generalize hO : rOut l k = O at *
      generalize ha : l.getD (Int.toNat (k : Int)) default = a
      have ha : l.getD k default = a := ha
      refine loopi tab_ok (fun j => k + 1 ≤ j ∧ j ≤ l.length) (fun j => [(0, .c (evsX l)), (3, .c (.ow 0)), (5, .c (.p 1 0)), (6, .c (.i .i64 j)), (16, .c (evsX l)), (17, .c (.i .i64 l.length)), (18, .c (.i .i64 k))])
        (fun j => [depIt (rInn l k O j), .cells 100 (encEv a)]) (fun j => l.length - j) (k + 1) _ rfl ⟨Nat.le_refl _, h1⟩ ?_ (fun j hj => ?_)
      · rw [rInn_start]
        refine ⟨?_, ?_, rfl⟩ <;> repeat' (first | exact trivial | exact entV_refl _ | exact entL_refl _ | exact entLL_refl _ | exact ⟨rfl, rfl⟩ | rfl | apply And.intro)
      · obtain ⟨hj1, hj2⟩ := hj
        conv => whnf
        refine And.intro (fun h3 => ?_) (fun h3 => ?_)
        · have h3 : j < l.length := by simp at h3; omega
          have hil := rInn_len l k O j
          have hst := rInn_step l O hj1 h3
          rw [ha] at hst
          conv => whnf
          generalize hN : rInn l k O j = N at *
          refine ⟨by omega, ?_⟩
          conv => whnf
          generalize hb : l.getD (Int.toNat (j : Int)) default = b
          have hb : l.getD j default = b := hb
          rw [hb] at hst
          refine seqx_upto tab_ok 15 [] (fun _ : Unit => True) (fun _ => [(0, .c (evsX l)), (3, .c (.ow 0)), (5, .c (.p 1 0)), (6, .c (.i .i64 j)), (12, .c (.p 3 0)), (13, .c (.b (rskB l a b))), (16, .c (evsX l)), (17, .c (.i .i64 l.length)), (18, .c (.i .i64 k))])
            (fun _ => [depIt N, .cells 100 (encEv a), .cells 100 (encEv b), .cells 104 (encD (mkD a b))]) 106 ?_ (fun _ _ => ?_)
          · conv => whnf
            refine callx_tells (rEnds_fn l a.tx (by omega)) rfl ?_ ?_
            · intro x hx
              simp only [List.mem_cons, List.not_mem_nil, or_false] at hx
              rcases hx with rfl | rfl <;> trivial
            conv => whnf
            refine callx_tells (rEnds_fn l b.tx (by omega)) rfl ?_ ?_
            · intro x hx
              simp only [List.mem_cons, List.not_mem_nil, or_false] at hx
              rcases hx with rfl | rfl <;> trivial
            conv => whnf
            refine drawx_plan tab_ok [] (.take 0 (.take 1 (.take 2 (.take 3 (.take 4 (.take 5 (.take 7 (.take 8 (.two 6 10 (.take 9 (.one 10 (.one 11 .done))) (.one 6 (.take 9 (.one 11 .done)))))))))))) (by kernel_rfl) (by kernel_rfl) (by kernel_rfl) ?_
            conv => whnf
            repeat' (first
              | (refine callf_lend (rKind_fn a b) rfl rfl rfl ?_; conv => whnf)
              | (refine callx_tells (rWrites_fn b) rfl trivial ?_; conv => whnf)
              | (refine And.intro ?_ ?_ <;> intro h <;> conv => whnf)
              | (refine And.intro ?_ ?_ <;> conv => whnf))
            all_goals
              refine ⟨(), trivial, rfl, ?_⟩
              refine ⟨?_, ?_, rfl⟩ <;> repeat' (first | exact trivial | exact entV_refl _ | exact entL_refl _ | exact entLL_refl _ | exact ⟨rfl, rfl⟩ | rfl | apply And.intro)
              all_goals clear hb ha hst hN hO hj1 hj2 hol hil hkl hw hk
              all_goals (conv => whnf)
              all_goals (simp_all [rskB, mkD, placeP]; done)
          · conv => whnf
            refine loopi tab_ok (fun i => i ≤ N.length) (fun i => [(0, .c (evsX l)), (3, .c (.ow 0)), (5, .c (.p 1 0)), (6, .c (.i .i64 j)), (12, .c (.p 3 0)), (13, .c (.b (rskB l a b || (N.take i).any (fun o => decide (o = mkD a b))))), (16, .c (evsX l)), (17, .c (.i .i64 l.length)), (18, .c (.i .i64 k)), (85, .c (.ow 0)), (86, .c (.i .i64 N.length)), (87, .c (.i .i64 i))])
              (fun _ => [depIt N, .cells 100 (encEv a), .cells 100 (encEv b), .cells 104 (encD (mkD a b))]) (fun i => N.length - i) 0 _ rfl (Nat.zero_le _) ?_ (fun i hi => ?_)
            · refine ⟨?_, ?_, rfl⟩ <;> repeat' (first | exact trivial | exact entV_refl _ | exact entL_refl _ | exact entLL_refl _ | exact ⟨rfl, rfl⟩ | rfl | apply And.intro)
              all_goals (conv => whnf)
              all_goals (simp; done)
            · have hNm : (N.map encD).length = N.length := List.length_map ..
              conv => whnf
              refine And.intro (fun h4 => ?_) (fun h4 => ?_)
              · have h4 : i < N.length := by simp at h4; omega
                have hany : (N.take (i + 1)).any (fun o => decide (o = mkD a b)) = ((N.take i).any (fun o => decide (o = mkD a b)) || decide (N.getD i default = mkD a b)) := by
                  rw [take_snocE default h4, List.any_append]; simp
                conv => whnf
                rw [hNm]
                refine ⟨by omega, ?_⟩
                conv => whnf
                refine ⟨_, elD N (k := i) h4, ?_⟩
                conv => whnf
                refine And.intro (fun h5 => ?_) (fun h5 => ?_)
                · conv => whnf
                  refine ⟨i + 1, by omega, by omega, rfl, ?_⟩
                  refine ⟨?_, ?_, rfl⟩ <;> repeat' (first | exact trivial | exact entV_refl _ | exact entL_refl _ | exact entLL_refl _ | exact ⟨rfl, rfl⟩ | exact wrap_succ (by omega) | rfl | apply And.intro)
                  all_goals (conv => whnf)
                  all_goals
                    rw [hany]
                    revert h5
                    generalize (N.take i).any (fun o => decide (o = mkD a b)) = q
                    cases rskB l a b <;> cases q <;> simp
                · conv => whnf
                  refine ⟨i + 1, by omega, by omega, rfl, ?_⟩
                  refine ⟨?_, ?_, rfl⟩ <;> repeat' (first | exact trivial | exact entV_refl _ | exact entL_refl _ | exact entLL_refl _ | exact ⟨rfl, rfl⟩ | exact wrap_succ (by omega) | rfl | apply And.intro)
                  all_goals (conv => whnf)
                  all_goals
                    refine Eq.trans (eqD (N.getD i default) (mkD a b)) ?_
                    rw [hany]
                    simp only [Bool.or_eq_false_iff] at h5
                    rw [h5.1, h5.2]
                    rfl
              · have h4 : i = N.length := by simp at h4; omega
                subst h4
                rw [List.take_length]
                conv => whnf
                refine And.intro (fun h5 => ?_) (fun h5 => ?_)
                · have hst2 : rInn l k O (j + 1) = N ++ [mkD a b] := by rw [hst, rAdd, if_neg (by intro hh; rw [hh] at h5; cases h5)]
                  conv => whnf
                  refine ⟨by simp only [List.length_map, List.length_cons, List.length_nil]; omega, ?_⟩
                  conv => whnf
                  refine ⟨j + 1, by omega, by omega, rfl, ?_⟩
                  rw [hst2]
                  refine ⟨?_, ?_, rfl⟩ <;> repeat' (first | exact trivial | exact entV_refl _ | exact entL_refl _ | exact entLL_of_eq (by rw [List.map_append]; rfl) | exact ⟨rfl, rfl⟩ | exact wrap_succ (by omega) | rfl | apply And.intro)
                · have hst2 : rInn l k O (j + 1) = N := by rw [hst, rAdd, if_pos (by cases hq : (rskB l a b || N.any fun o => decide (o = mkD a b)) with | true => rfl | false => (rw [hq] at h5; cases h5))]
                  conv => whnf
                  refine ⟨j + 1, by omega, by omega, rfl, ?_⟩
                  rw [hst2]
                  refine ⟨?_, ?_, rfl⟩ <;> repeat' (first | exact trivial | exact entV_refl _ | exact entL_refl _ | exact entLL_refl _ | exact ⟨rfl, rfl⟩ | exact wrap_succ (by omega) | rfl | apply And.intro)
        · have h3 : j = l.length := by simp at h3; omega
          subst h3
          conv => whnf
          refine ⟨k + 1, by omega, by omega, rfl, ?_⟩
          rw [rOut, hO]
          refine ⟨?_, ?_, rfl⟩ <;> repeat' (first | exact trivial | exact entV_refl _ | exact entL_refl _ | exact entLL_refl _ | exact ⟨rfl, rfl⟩ | exact hw | rfl | apply And.intro)
    · have h1 : k = l.length := by simp at h1; omega
      subst h1
      conv => whnf
      exact rowX_entS encD default 8 _ (entLL_refl _)
end Go.Proofs.Ytbhmplbckkipjaa
