/- Why one comes ahead of another one. -/
import Derived.Test.YtbhmplbckkipjaaDeps2
namespace Go.Proofs.Ytbhmplbckkipjaa
open Go Go.Eng Go.RowKit
set_option maxRecDepth 100000
set_option maxHeartbeats 4000000
set_option linter.unusedVariables false
set_option linter.unusedSimpArgs false
structure Dep where
  fr : Int
  to : Int
  kind : Int
  p : Pth
instance : Inhabited Dep := ⟨⟨0, 0, 0, default⟩⟩
def encD (d : Dep) : List XC := [.i .i64 d.fr, .i .i64 d.to, .i .i64 d.kind, .i .i64 d.p.a, .i .i64 d.p.b, .i .i64 d.p.c, .i .i64 d.p.d, .i .i64 d.p.n]
def keyD (d : Dep) : List Int := [d.fr, d.to, d.kind, d.p.a, d.p.b, d.p.c, d.p.d, d.p.n]
abbrev depsX (l : List Dep) : XC := rowX encD default 8 l
/-- Who has committed, as a map's keys. -/
def domI (l : List Int) : List (List Int) := l.foldl (fun d t => insD d [t]) []
def doneD (l : List Ev) : List (List Int) := domI (commitsL l)
def playsB (dom : List (List Int)) (e : Ev) : Bool := decide ([e.tx] ∈ dom) && !(e.kind == 10)
def mkD (a b : Ev) : Dep := ⟨a.tx, b.tx, kindI a b, placeP a b⟩
def addD (dom : List (List Int)) (a : Ev) (out : List Dep) (b : Ev) : List Dep :=
  if playsB dom b = true ∧ kindI a b ≠ 0 ∧ keyD (mkD a b) ∉ out.map keyD then out ++ [mkD a b] else out
def innD (l : List Ev) (k : Nat) (out : List Dep) (j : Nat) : List Dep := ((l.drop (k + 1)).take j).foldl (addD (doneD l) (l.getD k default)) out
def outD (l : List Ev) : Nat → List Dep
  | 0 => []
  | k + 1 => if playsB (doneD l) (l.getD k default) = true then innD l k (outD l k) (l.length - (k + 1)) else outD l k
def depsL (l : List Ev) : List Dep := outD l l.length
theorem addD_len (dom : List (List Int)) (a : Ev) (out : List Dep) (b : Ev) : (addD dom a out b).length ≤ out.length + 1 := by
  unfold addD; split
  · simp
  · omega
theorem foldD_len (dom : List (List Int)) (a : Ev) : ∀ (m : List Ev) (out : List Dep), (m.foldl (addD dom a) out).length ≤ out.length + m.length
  | [], out => by simp
  | b :: m, out => by
    have := foldD_len dom a m (addD dom a out b)
    have := addD_len dom a out b
    simp only [List.foldl_cons, List.length_cons]; omega
theorem innD_len (l : List Ev) (k : Nat) (out : List Dep) (j : Nat) : (innD l k out j).length ≤ out.length + j := by
  refine Nat.le_trans (foldD_len _ _ _ _) ?_
  rw [List.length_take]; omega
theorem outD_len (l : List Ev) : ∀ k, (outD l k).length ≤ k * l.length
  | 0 => by simp [outD]
  | k + 1 => by
    have h1 := outD_len l k
    have h2 := innD_len l k (outD l k) (l.length - (k + 1))
    unfold outD
    rw [Nat.succ_mul]
    split <;> omega
theorem rs_drop {α : Type} (enc : α → List XC) (d : α) (z : Nat) (l : List α) (k : Nat) : entC (.rs (l.length - k) z (fun i => (fun i j => nthC (enc (l.getD i d)) j) (k + i))) (rowX enc d z (l.drop k)) := by
  refine ⟨by simp, rfl, fun i hi j hj => entC_of_eq ?_⟩
  have : l.getD (k + i) d = (l.drop k).getD i d := by
    rw [List.getD_eq_getElem?_getD, List.getD_eq_getElem?_getD, List.getElem?_drop]
  show nthC (enc (l.getD (k + i) d)) j = _
  rw [this]
theorem of_fn (l : List Ev) (hl : l.length ≤ 10000) : Eng.Fn Try.prog 63 [.c (evsX l)] (Tells (.c (depsX (depsL l)))) := by
  refine Eng.Fn.ofZ tab_ok Try.func63 (by kernel_rfl) (by kernel_rfl) trivial (fun w0 => ?_)
  conv => whnf
  refine opx_makeMap false [.i64] false 1 (fun _ => [.bt]) ?_
  conv => whnf
  refine callx_tells (commits_fn l (by omega)) rfl trivial ?_
  conv => whnf
  have hcl : (commitsL l).length ≤ 10000 := Nat.le_trans (comAt_len l l.length) hl
  generalize hC : commitsL l = cs at hcl
  refine loopi tab_ok (fun k => k ≤ cs.length) (fun k => [(0, .c (evsX l)), (3, .c (.p 1 0)), (16, .c (intsX cs)), (17, .c (.i .i64 cs.length)), (18, .c (.i .i64 k))])
    (fun k => [.abs (MapA false [.i64] false 1 (domI (cs.take k)) (fun _ => [.bt])), .cells 145 [.ow 0]]) (fun k => cs.length - k) 0 81 rfl (Nat.zero_le _) ?_ (fun k hk => ?_)
  · refine ⟨?_, ?_, rfl⟩ <;> repeat' (first | exact trivial | exact entV_refl _ | exact entL_refl _ | apply And.intro)
    all_goals first
      | rfl
      | exact mapA_le rfl (fun k hk => by simp at hk)
  · conv => whnf
    refine And.intro (fun h1 => ?_) (fun h1 => ?_)
    · conv => whnf
      simp only [decide_eq_true_eq] at h1
      have h2 : k < cs.length := by omega
      have hs : domI (cs.take (k + 1)) = insD (domI (cs.take k)) [cs.getD k 0] := foldl_take_succ _ _ _ _ _ h2
      refine ⟨by omega, ?_⟩
      conv => whnf
      refine opx_update tab_ok rfl rfl rfl rfl rfl rfl rfl rfl rfl ?_
      conv => whnf
      refine ⟨k + 1, by omega, by omega, rfl, ?_⟩
      rw [hs]
      refine ⟨?_, ?_, rfl⟩ <;> repeat' (first | exact trivial | exact entV_refl _ | exact entL_refl _ | apply And.intro)
      all_goals first
        | rfl
        | exact wrap_succ (by omega)
        | exact mapA_le rfl (fun q _ => by simp only [updV]; split <;> rfl)
    · conv => whnf
      simp only [decide_eq_false_iff_not] at h1
      have e : k = cs.length := by omega
      subst e
      rw [List.take_length]
      have hdom : domI cs = doneD l := by rw [doneD, hC]
      rw [hdom]
      clear hdom hC hcl h1 hk
      refine opx_makeMap true [.i64, .i64, .i64, .i64, .i64, .i64, .i64, .i64] false 1 (fun _ => [.bt]) ?_
      conv => whnf
      refine loopx_nil 8 104 8 rfl ?_
      conv => whnf
      refine loopi tab_ok (fun k => k ≤ l.length) (fun k => [(0, .c (evsX l)), (6, .c (.fn 102 1 (nthC [.p 1 0]))), (7, .c (.ow 2)), (8, .c (.ow 3)), (27, .c (evsX l)), (28, .c (.i .i64 l.length)), (29, .c (.i .i64 k))])
        (fun k => [.abs (MapA false [.i64] false 1 (doneD l) (fun _ => [.bt])), .cells 145 [.ow 0], .abs (MapA true [.i64, .i64, .i64, .i64, .i64, .i64, .i64, .i64] false 1 ((outD l k).map keyD) (fun _ => [.bt])), .row 104 8 ((outD l k).map encD)])
        (fun k => l.length - k) 0 81 rfl (Nat.zero_le _) ?_ (fun k hk => ?_)
      · refine ⟨?_, ?_, rfl⟩ <;> repeat' (first | exact trivial | exact entV_refl _ | exact entL_refl _ | apply And.intro)
        all_goals first
          | rfl
          | exact mapA_le rfl (fun k hk => by simp at hk)
          | exact (fun _ _ _ _ h => h)
      · conv => whnf
        refine And.intro (fun h1 => ?_) (fun h1 => ?_)
        · conv => whnf
          simp only [decide_eq_true_eq] at h1
          have h2 : k < l.length := by omega
          refine ⟨by omega, ?_⟩
          conv => whnf
          generalize ha : l.getD (Int.toNat (k : Int)) default = a
          have ha : l.getD k default = a := ha
          refine callx_inline tab_ok Try.func102 (by kernel_rfl) (by kernel_rfl) (fun vs => ?_)
          conv => whnf
          refine opx_lookup tab_ok rfl rfl rfl rfl rfl rfl rfl (fun h3 => ?_) (fun h3 => ?_)
          · have h3 : [a.tx] ∈ doneD l := h3
            conv => whnf
            refine ⟨rfl, ?_⟩
            conv => whnf
            refine And.intro (fun h4 => ?_) (fun h4 => ?_)
            · conv => whnf
              have hno : playsB (doneD l) a = false := by simp only [playsB, Bool.and_eq_false_iff]; right; simpa using h4
              have hs : outD l (k + 1) = outD l k := by rw [outD, ha, if_neg (by rw [hno]; decide)]
              refine ⟨k + 1, by omega, by omega, rfl, ?_⟩
              rw [hs]
              refine ⟨?_, ?_, rfl⟩ <;> repeat' (first | exact trivial | exact entV_refl _ | exact entL_refl _ | exact entLL_refl _ | exact (fun _ _ _ _ h => h) | apply And.intro)
              all_goals first
                | rfl
                | exact wrap_succ (by omega)
            · conv => whnf
              have hpl : playsB (doneD l) a = true := by simp only [playsB, Bool.and_eq_true, decide_eq_true_eq]; exact ⟨h3, by simpa using h4⟩
              have hs : outD l (k + 1) = innD l k (outD l k) (l.length - (k + 1)) := by rw [outD, ha, if_pos hpl]
              have hol := outD_len l k
              have hw : IntKind.i64.wrap ((k : Int) + 1) = ((k + 1 : Nat) : Int) := wrap_succ (by omega)
              rw [hw]
              refine ⟨by omega, ?_⟩
              conv => whnf
              generalize hm : l.drop (k + 1) = m
              have hml : m.length = l.length - (k + 1) := by rw [← hm, List.length_drop]
              refine loopi tab_ok (fun j => j ≤ m.length) (fun j => [(0, .c (evsX l)), (6, .c (.fn 102 1 (nthC [.p 1 0]))), (7, .c (.ow 2)), (8, .c (.ow 3)), (10, .c (.p 4 0)), (27, .c (evsX l)), (28, .c (.i .i64 l.length)), (29, .c (.i .i64 k)), (41, .c (evsX m)), (42, .c (.i .i64 m.length)), (43, .c (.i .i64 j))])
                (fun j => [.abs (MapA false [.i64] false 1 (doneD l) (fun _ => [.bt])), .cells 145 [.ow 0], .abs (MapA true [.i64, .i64, .i64, .i64, .i64, .i64, .i64, .i64] false 1 ((innD l k (outD l k) j).map keyD) (fun _ => [.bt])), .row 104 8 ((innD l k (outD l k) j).map encD), .cells 100 (encEv a)])
                (fun j => m.length - j) 0 81 rfl (Nat.zero_le _) ?_ (fun j hj => ?_)
              · rw [← hm]
                refine ⟨?_, ?_, rfl⟩ <;> repeat' (first | exact trivial | exact entV_refl _ | exact rs_drop _ _ _ _ _ | exact entL_refl _ | exact entLL_refl _ | exact (fun _ _ _ _ h => h) | apply And.intro)
                all_goals first
                  | rfl
                  | (rw [List.length_drop]; rfl)
              · conv => whnf
                refine And.intro (fun h5 => ?_) (fun h5 => ?_)
                · conv => whnf
                  simp only [decide_eq_true_eq] at h5
                  have h6 : j < m.length := by omega
                  refine ⟨by omega, ?_⟩
                  conv => whnf
                  generalize hb : m.getD (Int.toNat (j : Int)) default = b
                  have hb : m.getD j default = b := hb
                  have hil := innD_len l k (outD l k) j
                  have hst : innD l k (outD l k) (j + 1) = addD (doneD l) a (innD l k (outD l k) j) b := by
                    rw [innD, hm, foldl_take_succ _ _ default _ _ h6, ha, hb]
                    rw [innD, hm, ha]
                  refine drawx_plan tab_ok [] (.take 0 (.take 1 (.take 2 (.take 3 (.take 4 (.take 5 (.take 7 (.take 8 (.two 6 11 (.two 9 11 (.take 10 (.one 11 (.one 12 .done))) (.one 9 (.take 10 (.one 12 .done)))) (.one 6 (.one 9 (.take 10 (.one 12 .done))))))))))))) (by kernel_rfl) (by kernel_rfl) (by kernel_rfl) ?_
                  conv => whnf
                  repeat' (first
                    | (refine callf_lend (kind_fn a b) rfl rfl rfl ?_; conv => whnf)
                    | (refine callf_lend (place_fn a b) rfl rfl rfl ?_; conv => whnf)
                    | (refine And.intro ?_ ?_ <;> conv => whnf))
                  all_goals
                    refine callx_inline tab_ok Try.func102 (by kernel_rfl) (by kernel_rfl) (fun vs2 => ?_)
                    conv => whnf
                    refine opx_lookup tab_ok rfl rfl rfl rfl rfl rfl rfl (fun g1 => ?_) (fun g1 => ?_)
                    · have g1 : [b.tx] ∈ doneD l := g1
                      conv => whnf
                      refine ⟨rfl, ?_⟩
                      conv => whnf
                      refine And.intro (fun g2 => ?_) (fun g2 => ?_)
                      · conv => whnf
                        have g2 : ¬ b.kind = 10 := by simpa using g2
                        have hpb : playsB (doneD l) b = true := by simp only [playsB, Bool.and_eq_true, decide_eq_true_eq]; exact ⟨g1, by simpa using g2⟩
                        refine And.intro (fun g3 => ?_) (fun g3 => ?_)
                        · conv => whnf
                          have g3 : kindI a b ≠ 0 := by simpa using g3
                          refine opx_lookup tab_ok rfl rfl rfl rfl rfl rfl rfl (fun g4 => ?_) (fun g4 => ?_)
                          · have g4 : keyD (mkD a b) ∈ (innD l k (outD l k) j).map keyD := g4
                            rw [addD, if_neg (fun h => h.2.2 g4)] at hst
                            conv => whnf
                            refine ⟨j + 1, by omega, by omega, rfl, ?_⟩
                            rw [hst]
                            refine ⟨?_, ?_, rfl⟩ <;> repeat' (first | exact trivial | exact entV_refl _ | exact entL_refl _ | exact entLL_refl _ | exact (fun _ _ _ _ h => h) | apply And.intro)
                            all_goals first
                              | rfl
                              | exact wrap_succ (by omega)
                          · have g4 : keyD (mkD a b) ∉ (innD l k (outD l k) j).map keyD := g4
                            rw [addD, if_pos ⟨hpb, g3, g4⟩] at hst
                            conv => whnf
                            refine opx_update tab_ok rfl rfl rfl rfl rfl rfl rfl rfl rfl ?_
                            conv => whnf
                            have hkl : k * l.length ≤ 10000 * 10000 := Nat.mul_le_mul (by omega) hl
                            refine ⟨by simp only [List.length_map, List.length_cons, List.length_nil]; omega, ?_⟩
                            conv => whnf
                            refine ⟨j + 1, by omega, by omega, rfl, ?_⟩
                            rw [hst]
                            refine ⟨?_, ?_, rfl⟩ <;> repeat' (first | exact trivial | exact entV_refl _ | exact entL_refl _ | exact (fun _ _ _ _ h => h) | apply And.intro)
                            all_goals try first
                              | rfl
                              | exact wrap_succ (by omega)
                              | exact mapA_le (by rw [List.map_append, insD]; exact if_neg g4) (fun q _ => by simp only [updV]; split <;> rfl)
                            rw [List.map_append]
                            exact entLL_append (entLL_refl _) (entLL_refl _)
                        · conv => whnf
                          have g3 : kindI a b = 0 := by simpa using g3
                          rw [addD, if_neg (fun h => h.2.1 g3)] at hst
                          refine ⟨j + 1, by omega, by omega, rfl, ?_⟩
                          rw [hst]
                          refine ⟨?_, ?_, rfl⟩ <;> repeat' (first | exact trivial | exact entV_refl _ | exact entL_refl _ | exact entLL_refl _ | exact (fun _ _ _ _ h => h) | apply And.intro)
                          all_goals first
                            | rfl
                            | exact wrap_succ (by omega)
                      · conv => whnf
                        have hpb : playsB (doneD l) b = false := by simp only [playsB, Bool.and_eq_false_iff]; right; simpa using g2
                        rw [addD, if_neg (fun h => by rw [hpb] at h; cases h.1)] at hst
                        refine ⟨j + 1, by omega, by omega, rfl, ?_⟩
                        rw [hst]
                        refine ⟨?_, ?_, rfl⟩ <;> repeat' (first | exact trivial | exact entV_refl _ | exact entL_refl _ | exact entLL_refl _ | exact (fun _ _ _ _ h => h) | apply And.intro)
                        all_goals first
                          | rfl
                          | exact wrap_succ (by omega)
                    · have g1 : [b.tx] ∉ doneD l := g1
                      conv => whnf
                      refine ⟨rfl, ?_⟩
                      conv => whnf
                      have hpb : playsB (doneD l) b = false := by simp only [playsB, Bool.and_eq_false_iff]; left; simpa using g1
                      rw [addD, if_neg (fun h => by rw [hpb] at h; cases h.1)] at hst
                      refine ⟨j + 1, by omega, by omega, rfl, ?_⟩
                      rw [hst]
                      refine ⟨?_, ?_, rfl⟩ <;> repeat' (first | exact trivial | exact entV_refl _ | exact entL_refl _ | exact entLL_refl _ | exact (fun _ _ _ _ h => h) | apply And.intro)
                      all_goals first
                        | rfl
                        | exact wrap_succ (by omega)
                · conv => whnf
                  simp only [decide_eq_false_iff_not] at h5
                  have e : j = m.length := by omega
                  subst e
                  refine ⟨k + 1, by omega, by omega, rfl, ?_⟩
                  rw [hs, ← hml]
                  refine ⟨?_, ?_, rfl⟩ <;> repeat' (first | exact trivial | exact entV_refl _ | exact entL_refl _ | exact entLL_refl _ | exact (fun _ _ _ _ h => h) | apply And.intro)
                  all_goals first
                    | rfl
                    | exact wrap_succ (by omega)
          · have h3 : [a.tx] ∉ doneD l := h3
            conv => whnf
            refine ⟨rfl, ?_⟩
            conv => whnf
            have hno : playsB (doneD l) a = false := by simp only [playsB, Bool.and_eq_false_iff]; left; simpa using h3
            have hs : outD l (k + 1) = outD l k := by rw [outD, ha, if_neg (by rw [hno]; decide)]
            refine ⟨k + 1, by omega, by omega, rfl, ?_⟩
            rw [hs]
            refine ⟨?_, ?_, rfl⟩ <;> repeat' (first | exact trivial | exact entV_refl _ | exact entL_refl _ | exact entLL_refl _ | exact (fun _ _ _ _ h => h) | apply And.intro)
            all_goals first
              | rfl
              | exact wrap_succ (by omega)
        · conv => whnf
          simp only [decide_eq_false_iff_not] at h1
          have e : k = l.length := by omega
          subst e
          exact row_ent rfl
end Go.Proofs.Ytbhmplbckkipjaa
