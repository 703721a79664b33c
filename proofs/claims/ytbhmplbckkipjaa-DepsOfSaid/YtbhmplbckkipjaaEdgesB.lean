/- The edges of reasons. -/
import Derived.Test.YtbhmplbckkipjaaEdgesA
import Derived.Test.YtbhmplbckkipjaaDeps5
namespace Go.Proofs.Ytbhmplbckkipjaa
open Go Go.Eng Go.RowKit
set_option maxRecDepth 100000
set_option maxHeartbeats 4000000
set_option linter.unusedVariables false
set_option linter.unusedSimpArgs false
def dgE (d : Dep) : Eg := ⟨d.fr, d.to⟩
theorem compAt_len (l : List Eg) : ∀ k, (compAt l k).length ≤ k
  | 0 => Nat.le_refl _
  | k + 1 => by
    have := compAt_len l k
    rw [compAt]
    split
    · omega
    · simp only [List.length_append, List.length_cons, List.length_nil]; omega
theorem sortE_len (l : List Eg) : (sortE l).length = l.length := List.length_mergeSort ..
theorem edges_fn (l : List Dep) (hl : l.length ≤ 1000000) : Eng.Fn Try.prog 70 [.c (depsX l)] (Tells (.c (egsX (compL (sortE (l.map dgE)))))) := by
  refine Eng.Fn.ofZ tab_ok Try.func70 (by kernel_rfl) (by kernel_rfl) trivial (fun w0 => ?_)
  conv => whnf
  refine loopx_nil 3 106 2 rfl ?_
  conv => whnf
  refine loopi tab_ok (fun k => k ≤ l.length) (fun k => [(3, .c (.ow 0)), (6, .c (depsX l)), (7, .c (.i .i64 l.length)), (8, .c (.i .i64 k))]) (fun k => [rowE ((l.take k).map dgE)]) (fun k => l.length - k) 0 25 rfl (Nat.zero_le _) ?_ (fun k hk => ?_)
  · refine ⟨?_, ?_, rfl⟩ <;> repeat' (first | exact trivial | exact entV_refl _ | exact entLL_refl _ | exact ⟨rfl, rfl⟩ | rfl | apply And.intro)
  · conv => whnf
    refine And.intro (fun h1 => ?_) (fun h1 => ?_)
    · have h1 : k < l.length := by simp at h1; omega
      have htk : l.take (k + 1) = l.take k ++ [l.getD k default] := take_snocE default h1
      conv => whnf
      refine ⟨by omega, ?_⟩
      conv => whnf
      rw [Int.toNat_natCast]
      generalize l.getD k default = d at *
      refine ⟨by simp only [List.length_map, List.length_cons, List.length_nil, List.length_take]; omega, ?_⟩
      conv => whnf
      refine ⟨k + 1, by omega, by omega, rfl, ?_⟩
      rw [htk]
      refine ⟨?_, ?_, rfl⟩ <;> repeat' (first | exact trivial | exact entV_refl _ | exact wrap_succ (by omega) | exact entLL_of_eq (by rw [List.map_append, List.map_append]; rfl) | rfl | apply And.intro)
    · have h1 : k = l.length := by simp at h1; omega
      subst h1
      rw [List.take_length]
      conv => whnf
      refine callx_m (sort_d_fn (l.map dgE) (by simp; omega) [.ow 0]) [0] (by kernel_rfl) ⟨entV_refl _, entV_refl _, trivial⟩ ?_ ?_
      · repeat' (first | exact trivial | exact ⟨rfl, rfl⟩ | exact entLL_refl _ | apply And.intro)
      conv => whnf
      refine callx_m (compact_fn (sortE (l.map dgE)) (by rw [sortE_len]; simpa using hl)) [0] (by kernel_rfl) ⟨entV_refl _, trivial⟩ ?_ ?_
      · repeat' (first | exact trivial | exact ⟨rfl, rfl⟩ | exact entLL_refl _ | apply And.intro)
      conv => whnf
      exact rowX_entS encEg default 2 _ (entLL_refl _)
end Go.Proofs.Ytbhmplbckkipjaa

/- The edges of a history. -/
namespace Go.Proofs.Ytbhmplbckkipjaa
open Go Go.Eng Go.RowKit
set_option maxRecDepth 100000
set_option maxHeartbeats 4000000
set_option linter.unusedVariables false
set_option linter.unusedSimpArgs false
def keyE (e : Eg) : List Int := [e.fr, e.to]
def mkE (a b : Ev) : Eg := ⟨a.tx, b.tx⟩
def addH (dom : List (List Int)) (a : Ev) (out : List Eg) (b : Ev) : List Eg :=
  if playsB dom b = true ∧ clashB a b = true ∧ keyE (mkE a b) ∉ out.map keyE then out ++ [mkE a b] else out
def innH (l : List Ev) (k : Nat) (out : List Eg) (j : Nat) : List Eg := ((l.drop (k + 1)).take j).foldl (addH (doneD l) (l.getD k default)) out
def outH (l : List Ev) : Nat → List Eg
  | 0 => []
  | k + 1 => if playsB (doneD l) (l.getD k default) = true then innH l k (outH l k) (l.length - (k + 1)) else outH l k
def hedL (l : List Ev) : List Eg := sortE (outH l l.length)
theorem addH_len (dom : List (List Int)) (a : Ev) (out : List Eg) (b : Ev) : (addH dom a out b).length ≤ out.length + 1 := by
  unfold addH; split
  · simp
  · omega
theorem foldH_len (dom : List (List Int)) (a : Ev) : ∀ (m : List Ev) (out : List Eg), (m.foldl (addH dom a) out).length ≤ out.length + m.length
  | [], out => by simp
  | b :: m, out => by
    have := foldH_len dom a m (addH dom a out b)
    have := addH_len dom a out b
    simp only [List.foldl_cons, List.length_cons]; omega
theorem innH_len (l : List Ev) (k : Nat) (out : List Eg) (j : Nat) : (innH l k out j).length ≤ out.length + j := by
  refine Nat.le_trans (foldH_len _ _ _ _) ?_
  rw [List.length_take]; omega
theorem outH_len (l : List Ev) : ∀ k, (outH l k).length ≤ k * l.length
  | 0 => by simp [outH]
  | k + 1 => by
    have h1 := outH_len l k
    have h2 := innH_len l k (outH l k) (l.length - (k + 1))
    unfold outH
    rw [Nat.succ_mul]
    split <;> omega
theorem hedges_fn (l : List Ev) (hl : l.length ≤ 10000) : Eng.Fn Try.prog 72 [.c (evsX l)] (Tells (.c (egsX (hedL l)))) := by
  refine Eng.Fn.ofZ tab_ok Try.func72 (by kernel_rfl) (by kernel_rfl) trivial (fun w0 => ?_)
  conv => whnf
  refine opx_makeMap false [.i64] false 1 (fun _ => [.bt]) ?_
  conv => whnf
  refine callx_tells (commits_fn l (by omega)) rfl trivial ?_
  conv => whnf
  have hcl : (commitsL l).length ≤ 10000 := Nat.le_trans (comAt_len l l.length) hl
  generalize hC : commitsL l = cs at hcl
  refine loopi tab_ok (fun k => k ≤ cs.length) (fun k => [(0, .c (evsX l)), (3, .c (.ow 0)), (15, .c (intsX cs)), (16, .c (.i .i64 cs.length)), (17, .c (.i .i64 k))])
    (fun k => [.abs (MapA false [.i64] false 1 (domI (cs.take k)) (fun _ => [.bt]))]) (fun k => cs.length - k) 0 _ rfl (Nat.zero_le _) ?_ (fun k hk => ?_)
  · refine ⟨?_, ?_, rfl⟩ <;> repeat' (first | exact trivial | exact entV_refl _ | exact entL_refl _ | exact ⟨rfl, rfl⟩ | apply And.intro)
    all_goals first
      | rfl
      | exact mapA_le rfl (fun k hk => by simp at hk)
  · conv => whnf
    refine And.intro (fun h1 => ?_) (fun h1 => ?_)
    · conv => whnf
      simp only [decide_eq_true_eq] at h1
      have h2 : k < cs.length := by omega
      have hs : domI (cs.take (k + 1)) = insD (domI (cs.take k)) [cs.getD k 0] := foldl_take_succ _ _ _ _ _ h2
      refine ⟨by omega, ?_⟩
      conv => whnf
      refine opx_update tab_ok rfl rfl rfl rfl rfl rfl rfl rfl rfl ?_
      conv => whnf
      refine ⟨k + 1, by omega, by omega, rfl, ?_⟩
      rw [hs]
      refine ⟨?_, ?_, rfl⟩ <;> repeat' (first | exact trivial | exact entV_refl _ | exact entL_refl _ | exact ⟨rfl, rfl⟩ | apply And.intro)
      all_goals first
        | rfl
        | exact wrap_succ (by omega)
        | exact mapA_le rfl (fun q _ => by simp only [updV]; split <;> rfl)
    · conv => whnf
      simp only [decide_eq_false_iff_not] at h1
      have e : k = cs.length := by omega
      subst e
      rw [List.take_length]
      have hdom : domI cs = doneD l := by rw [doneD, hC]
      rw [hdom]
      clear hdom hC hcl h1 hk
      refine opx_makeMap true [.i64, .i64] false 1 (fun _ => [.bt]) ?_
      conv => whnf
      refine loopx_nil 7 106 2 rfl ?_
      conv => whnf
      refine loopi tab_ok (fun k => k ≤ l.length) (fun k => [(0, .c (evsX l)), (3, .c (.ow 0)), (6, .c (.ow 1)), (7, .c (.ow 2)), (25, .c (evsX l)), (26, .c (.i .i64 l.length)), (27, .c (.i .i64 k))])
        (fun k => [.abs (MapA false [.i64] false 1 (doneD l) (fun _ => [.bt])), .abs (MapA true [.i64, .i64] false 1 ((outH l k).map keyE) (fun _ => [.bt])), rowE (outH l k)])
        (fun k => l.length - k) 0 _ rfl (Nat.zero_le _) ?_ (fun k hk => ?_)
      · refine ⟨?_, ?_, rfl⟩ <;> repeat' (first | exact trivial | exact entV_refl _ | exact entL_refl _ | exact ⟨rfl, rfl⟩ | apply And.intro)
        all_goals first
          | rfl
          | exact mapA_le rfl (fun k hk => by simp at hk)
          | exact (fun _ _ _ _ h => h)
      · conv => whnf
        refine And.intro (fun h1 => ?_) (fun h1 => ?_)
        · conv => whnf
          simp only [decide_eq_true_eq] at h1
          have h2 : k < l.length := by omega
          refine ⟨by omega, ?_⟩
          conv => whnf
          generalize ha : l.getD (Int.toNat (k : Int)) default = a
          have ha : l.getD k default = a := ha
          refine opx_lookup tab_ok rfl rfl rfl rfl rfl rfl rfl (fun h3 => ?_) (fun h3 => ?_)
          · have h3 : [a.tx] ∈ doneD l := h3
            conv => whnf
            refine And.intro (fun h4 => ?_) (fun h4 => ?_)
            · conv => whnf
              have hno : playsB (doneD l) a = false := by simp only [playsB, Bool.and_eq_false_iff]; right; simpa using h4
              have hs : outH l (k + 1) = outH l k := by rw [outH, ha, if_neg (by rw [hno]; decide)]
              refine ⟨k + 1, by omega, by omega, rfl, ?_⟩
              rw [hs]
              refine ⟨?_, ?_, rfl⟩ <;> repeat' (first | exact trivial | exact entV_refl _ | exact entL_refl _ | exact entLL_refl _ | exact ⟨rfl, rfl⟩ | exact wrap_succ (by omega) | rfl | exact (fun _ _ _ _ h => h) | apply And.intro)
            · have hpl : playsB (doneD l) a = true := by simp only [playsB, Bool.and_eq_true, decide_eq_true_eq]; exact ⟨h3, by simpa using h4⟩
              have hs : outH l (k + 1) = innH l k (outH l k) (l.length - (k + 1)) := by rw [outH, ha, if_pos hpl]
              have hol := outH_len l k
              have hw : IntKind.i64.wrap ((k : Int) + 1) = ((k + 1 : Nat) : Int) := wrap_succ (by omega)
              conv => whnf
              rw [hw]
              refine ⟨by omega, ?_⟩
              conv => whnf
              generalize hm : l.drop (k + 1) = m
              have hml : m.length = l.length - (k + 1) := by rw [← hm, List.length_drop]
              refine loopi tab_ok (fun j => j ≤ m.length) (fun j => [(0, .c (evsX l)), (3, .c (.ow 0)), (6, .c (.ow 1)), (7, .c (.ow 2)), (9, .c (.p 3 0)), (25, .c (evsX l)), (26, .c (.i .i64 l.length)), (27, .c (.i .i64 k)), (45, .c (evsX m)), (46, .c (.i .i64 m.length)), (47, .c (.i .i64 j))])
                (fun j => [.abs (MapA false [.i64] false 1 (doneD l) (fun _ => [.bt])), .abs (MapA true [.i64, .i64] false 1 ((innH l k (outH l k) j).map keyE) (fun _ => [.bt])), rowE (innH l k (outH l k) j), .cells 100 (encEv a)])
                (fun j => m.length - j) 0 _ rfl (Nat.zero_le _) ?_ (fun j hj => ?_)
              · rw [← hm]
                refine ⟨?_, ?_, rfl⟩ <;> repeat' (first | exact trivial | exact entV_refl _ | exact rs_drop _ _ _ _ _ | exact entL_refl _ | exact entLL_refl _ | exact ⟨rfl, rfl⟩ | exact (fun _ _ _ _ h => h) | apply And.intro)
                all_goals first
                  | rfl
                  | (rw [List.length_drop]; rfl)
              · conv => whnf
                refine And.intro (fun h5 => ?_) (fun h5 => ?_)
                · conv => whnf
                  simp only [decide_eq_true_eq] at h5
                  have h6 : j < m.length := by omega
                  refine ⟨by omega, ?_⟩
                  conv => whnf
                  generalize hb : m.getD (Int.toNat (j : Int)) default = b
                  have hb : m.getD j default = b := hb
                  have hil := innH_len l k (outH l k) j
                  have hst : innH l k (outH l k) (j + 1) = addH (doneD l) a (innH l k (outH l k) j) b := by
                    rw [innH, hm, foldl_take_succ _ _ default _ _ h6, ha, hb]
                    rw [innH, hm, ha]
                  refine opx_lookup tab_ok rfl rfl rfl rfl rfl rfl rfl (fun g1 => ?_) (fun g1 => ?_)
                  · have g1 : [b.tx] ∈ doneD l := g1
                    conv => whnf
                    refine And.intro (fun g2 => ?_) (fun g2 => ?_)
                    · have g2 : ¬ b.kind = 10 := by simpa using g2
                      have hpb : playsB (doneD l) b = true := by simp only [playsB, Bool.and_eq_true, decide_eq_true_eq]; exact ⟨g1, by simpa using g2⟩
                      conv => whnf
                      refine callx_tells (clash_fn a b) rfl trivial ?_
                      conv => whnf
                      refine And.intro (fun g3 => ?_) (fun g3 => ?_)
                      · have g3 : clashB a b = true := g3
                        conv => whnf
                        refine opx_lookup tab_ok rfl rfl rfl rfl rfl rfl rfl (fun g4 => ?_) (fun g4 => ?_)
                        · have g4 : keyE (mkE a b) ∈ (innH l k (outH l k) j).map keyE := g4
                          rw [addH, if_neg (fun h => h.2.2 g4)] at hst
                          conv => whnf
                          refine ⟨j + 1, by omega, by omega, rfl, ?_⟩
                          rw [hst]
                          refine ⟨?_, ?_, rfl⟩ <;> repeat' (first | exact trivial | exact entV_refl _ | exact entL_refl _ | exact entLL_refl _ | exact ⟨rfl, rfl⟩ | exact wrap_succ (by omega) | rfl | exact (fun _ _ _ _ h => h) | apply And.intro)
                        · have g4 : keyE (mkE a b) ∉ (innH l k (outH l k) j).map keyE := g4
                          rw [addH, if_pos ⟨hpb, g3, g4⟩] at hst
                          conv => whnf
                          refine opx_update tab_ok rfl rfl rfl rfl rfl rfl rfl rfl rfl ?_
                          conv => whnf
                          have hkl : k * l.length ≤ 10000 * 10000 := Nat.mul_le_mul (by omega) hl
                          refine ⟨by simp only [List.length_map, List.length_cons, List.length_nil]; omega, ?_⟩
                          conv => whnf
                          refine ⟨j + 1, by omega, by omega, rfl, ?_⟩
                          rw [hst]
                          refine ⟨?_, ?_, rfl⟩ <;> repeat' (first | exact trivial | exact entV_refl _ | exact entL_refl _ | exact (fun _ _ _ _ h => h) | exact ⟨rfl, rfl⟩ | exact wrap_succ (by omega) | apply And.intro)
                          all_goals try first
                            | rfl
                            | exact mapA_le (by rw [List.map_append, insD]; exact if_neg g4) (fun q _ => by simp only [updV]; split <;> rfl)
                          rw [List.map_append]
                          exact entLL_append (entLL_refl _) (entLL_refl _)
                      · have g3 : ¬ clashB a b = true := by rw [g3]; decide
                        rw [addH, if_neg (fun h => g3 h.2.1)] at hst
                        conv => whnf
                        refine ⟨j + 1, by omega, by omega, rfl, ?_⟩
                        rw [hst]
                        refine ⟨?_, ?_, rfl⟩ <;> repeat' (first | exact trivial | exact entV_refl _ | exact entL_refl _ | exact entLL_refl _ | exact ⟨rfl, rfl⟩ | exact wrap_succ (by omega) | rfl | exact (fun _ _ _ _ h => h) | apply And.intro)
                    · have hpb : playsB (doneD l) b = false := by simp only [playsB, Bool.and_eq_false_iff]; right; simpa using g2
                      rw [addH, if_neg (fun h => by rw [hpb] at h; cases h.1)] at hst
                      conv => whnf
                      refine ⟨j + 1, by omega, by omega, rfl, ?_⟩
                      rw [hst]
                      refine ⟨?_, ?_, rfl⟩ <;> repeat' (first | exact trivial | exact entV_refl _ | exact entL_refl _ | exact entLL_refl _ | exact ⟨rfl, rfl⟩ | exact wrap_succ (by omega) | rfl | exact (fun _ _ _ _ h => h) | apply And.intro)
                  · have g1 : [b.tx] ∉ doneD l := g1
                    have hpb : playsB (doneD l) b = false := by simp only [playsB, Bool.and_eq_false_iff]; left; simpa using g1
                    rw [addH, if_neg (fun h => by rw [hpb] at h; cases h.1)] at hst
                    conv => whnf
                    refine ⟨j + 1, by omega, by omega, rfl, ?_⟩
                    rw [hst]
                    refine ⟨?_, ?_, rfl⟩ <;> repeat' (first | exact trivial | exact entV_refl _ | exact entL_refl _ | exact entLL_refl _ | exact ⟨rfl, rfl⟩ | exact wrap_succ (by omega) | rfl | exact (fun _ _ _ _ h => h) | apply And.intro)
                · conv => whnf
                  simp only [decide_eq_false_iff_not] at h5
                  have e : j = m.length := by omega
                  subst e
                  refine ⟨k + 1, by omega, by omega, rfl, ?_⟩
                  rw [hs, ← hml]
                  refine ⟨?_, ?_, rfl⟩ <;> repeat' (first | exact trivial | exact entV_refl _ | exact entL_refl _ | exact entLL_refl _ | exact ⟨rfl, rfl⟩ | exact wrap_succ (by omega) | rfl | exact (fun _ _ _ _ h => h) | apply And.intro)
          · have h3 : [a.tx] ∉ doneD l := h3
            conv => whnf
            have hno : playsB (doneD l) a = false := by simp only [playsB, Bool.and_eq_false_iff]; left; simpa using h3
            have hs : outH l (k + 1) = outH l k := by rw [outH, ha, if_neg (by rw [hno]; decide)]
            refine ⟨k + 1, by omega, by omega, rfl, ?_⟩
            rw [hs]
            refine ⟨?_, ?_, rfl⟩ <;> repeat' (first | exact trivial | exact entV_refl _ | exact entL_refl _ | exact entLL_refl _ | exact ⟨rfl, rfl⟩ | exact wrap_succ (by omega) | rfl | exact (fun _ _ _ _ h => h) | apply And.intro)
        · conv => whnf
          simp only [decide_eq_false_iff_not] at h1
          have e : k = l.length := by omega
          subst e
          have hol := outH_len l l.length
          have hkl : l.length * l.length ≤ 10000 * 10000 := Nat.mul_le_mul hl hl
          refine callx_m (sort_h_fn (outH l l.length) (by omega) [.ow 0]) [2] (by kernel_rfl) ⟨entV_refl _, entV_refl _, trivial⟩ ?_ ?_
          · repeat' (first | exact trivial | exact ⟨rfl, rfl⟩ | exact entLL_refl _ | apply And.intro)
          conv => whnf
          exact rowX_entS encEg default 2 _ (entLL_refl _)
end Go.Proofs.Ytbhmplbckkipjaa
