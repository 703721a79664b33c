/- The order: the reference's way. -/
import Derived.Test.YtehbalkhboedeaaCyc9
namespace Go.Proofs.Ytehbalkhboedeaa
open Go Go.Eng Go.RowKit
set_option maxRecDepth 100000
set_option maxHeartbeats 8000000
set_option linter.unusedVariables false
set_option linter.unusedSimpArgs false
/-- Whether one may be next. -/
def qual (l : List Eg) (out : List Int) (x : Int) : Bool := !decide (x ∈ out) && (fromL l x).all fun y => decide (y ∈ out)
def firstQ (l : List Eg) (out : List Int) (k : Nat) : Option Int := ((nodesL l).take k).find? (qual l out)
theorem firstQ_succ {l : List Eg} {out : List Int} {k : Nat} (hk : k < (nodesL l).length) : firstQ l out (k + 1) = match firstQ l out k with
    | some x => some x
    | none => if qual l out ((nodesL l).getD k 0) = true then some ((nodesL l).getD k 0) else none := by
  unfold firstQ
  rw [take_snocI hk, List.find?_append]
  cases ((nodesL l).take k).find? (qual l out) with
  | some x => rfl
  | none =>
    rw [List.find?_cons]
    cases hq : qual l out ((nodesL l).getD k 0) <;> simp
/-- What has not come yet. -/
def leftL (l : List Eg) (out : List Int) : List Int := (nodesL l).filter fun x => !decide (x ∈ out)
theorem left_pick (l : List Eg) (out : List Int) : pickO l (leftL l out) = firstQ l out (nodesL l).length := by
  unfold pickO firstQ leftL
  rw [List.take_length, List.find?_filter]
  have hc : ∀ (m : List Int) (p q : Int → Bool), (∀ x ∈ m, p x = q x) → m.find? p = m.find? q := by
    intro m p q h
    induction m with
    | nil => rfl
    | cons a m ih =>
      rw [List.find?_cons, List.find?_cons, h a (by simp), ih fun x hx => h x (by simp [hx])]
  refine hc _ _ _ fun x hx => ?_
  unfold qual
  rw [Bool.eq_iff_iff]
  simp only [Bool.and_eq_true, List.all_eq_true, decide_eq_true_eq, Bool.not_eq_true', decide_eq_false_iff_not, List.mem_filter, Classical.not_and_iff_not_or_not, Classical.not_not]
  constructor
  · rintro ⟨h1, h2⟩
    refine ⟨h1, fun y hy => ?_⟩
    rcases h2 y hy with h3 | h3
    · exact absurd ((nodes_mem l y).2 ⟨_, (from_mem l x y).1 hy, .inr rfl⟩) h3
    · exact h3
  · rintro ⟨h1, h2⟩
    exact ⟨h1, fun y hy => .inr (h2 y hy)⟩
theorem left_erase {l : List Eg} {out : List Int} {x : Int} : (leftL l out).erase x = leftL l (out ++ [x]) := by
  unfold leftL
  have hnd := (ris_nodup (nodes_ris l))
  rw [List.Nodup.erase_eq_filter (hnd.sublist List.filter_sublist), List.filter_filter]
  refine List.filter_congr fun y hy => ?_
  rw [Bool.eq_iff_iff]
  simp only [Bool.and_eq_true, Bool.not_eq_true', decide_eq_false_iff_not, List.mem_append, List.mem_singleton, bne_iff_ne, ne_eq, not_or]
  exact ⟨fun ⟨h1, h2⟩ => ⟨h2, h1⟩, fun ⟨h1, h2⟩ => ⟨h2, h1⟩⟩
def allTo (out m : List Int) : Bool := m.all fun y => decide (y ∈ out)
theorem allTo_snoc (out m : List Int) (y : Int) : allTo out (m ++ [y]) = (allTo out m && decide (y ∈ out)) := by simp [allTo]
theorem rorder_fn (l : List Eg) (hl : l.length ≤ 500) : Eng.Fn Try.prog 33 [.c (egsX l)] (Tells (.t [.c (intsX (ordL l).1), .c (.b (ordL l).2)])) := by
  refine Eng.Fn.ofZ tab_ok Try.func33 (by kernel_rfl) (by kernel_rfl) ?_ (fun w0 => ?_)
  · intro x hx
    simp only [List.mem_cons, List.not_mem_nil, or_false] at hx
    rcases hx with rfl | rfl <;> trivial
  conv => whnf
  refine callx_tells (rnodes_fn l (by omega)) rfl trivial ?_
  conv => whnf
  have hnl := nodes_len l
  refine loopx_nil 4 3 1 rfl ?_
  conv => whnf
  refine loopi tab_ok (fun (i : Nat × List Int) => i.1 + (leftL l i.2).length = (nodesL l).length ∧ i.2.length = i.1 ∧ ordG l (leftL l i.2).length (leftL l i.2) i.2 = ordL l)
    (fun i => [(0, .c (egsX l)), (4, .c (.ow 0)), (5, .c (intsX (nodesL l))), (15, .c (.i .i64 (nodesL l).length)), (16, .c (.i .i64 i.1))]) (fun i => [rowI 3 i.2]) (fun i => (nodesL l).length - i.1) (0, []) _ rfl ⟨?_, rfl, ?_⟩ ?_ (fun i hi => ?_)
  · simp [leftL]
  · have : leftL l [] = nodesL l := by simp [leftL]
    dsimp only
    rw [this]; rfl
  · refine ⟨?_, ?_, rfl⟩ <;> repeat' (first | exact trivial | exact entV_refl _ | exact entLL_refl _ | exact ⟨rfl, rfl⟩ | rfl | apply And.intro)
  · obtain ⟨k, out⟩ := i
    obtain ⟨hsum, hlen, hord⟩ := hi
    have hsum : k + (leftL l out).length = (nodesL l).length := hsum
    have hlen : out.length = k := hlen
    have hord : ordG l (leftL l out).length (leftL l out) out = ordL l := hord
    conv => whnf
    refine And.intro (fun h1 => ?_) (fun h1 => ?_)
    · have h1 : k < (nodesL l).length := by simp at h1; omega
      conv => whnf
      refine loopi tab_ok (fun j => j ≤ (nodesL l).length)
        (fun j => [(0, .c (egsX l)), (4, .c (.ow 0)), (5, .c (intsX (nodesL l))), (6, .c (.b (firstQ l out j).isSome)), (15, .c (.i .i64 (nodesL l).length)), (16, .c (.i .i64 k)), (18, .c (intsX (nodesL l))), (19, .c (.i .i64 (nodesL l).length)), (20, .c (.i .i64 j))])
        (fun j => [rowI 3 (out ++ (firstQ l out j).toList)]) (fun j => (nodesL l).length - j) 0 _ rfl (Nat.zero_le _) ?_ (fun j hj => ?_)
      · refine ⟨?_, ?_, rfl⟩ <;> repeat' (first | exact trivial | exact entV_refl _ | exact entLL_refl _ | exact ⟨rfl, rfl⟩ | rfl | apply And.intro)
        all_goals simp [firstQ]
        exact entLL_refl _
      · have htl : (firstQ l out j).toList.length ≤ 1 := by cases firstQ l out j <;> simp
        have hcl : (out ++ (firstQ l out j).toList).length ≤ 2000 := by rw [List.length_append]; omega
        conv => whnf
        refine And.intro (fun h2 => ?_) (fun h2 => ?_)
        · have h2 : j < (nodesL l).length := by simp at h2; omega
          have hstep := firstQ_succ (out := out) h2
          conv => whnf
          refine ⟨by omega, ?_⟩
          conv => whnf
          rw [Int.toNat_natCast]
          generalize (nodesL l).getD j 0 = x at *
          have hfr := from_len l x
          cases hq : firstQ l out j with
          | some x0 =>
            rw [hq] at hstep hcl
            dsimp only [Option.toList] at hcl
            conv => whnf
            refine And.intro (fun g => absurd g (by simp)) (fun _ => ?_)
            conv => whnf
            refine callx_tells (rfrom_fn l x (by omega)) rfl trivial ?_
            conv => whnf
            refine loopi tab_ok (fun i => i ≤ (fromL l x).length)
              (fun i => [(0, .c (egsX l)), (4, .c (.ow 0)), (5, .c (intsX (nodesL l))), (6, .c (.b true)), (8, .c (.i .i64 x)), (9, .c (.b (false && allTo (out ++ [x0]) ((fromL l x).take i)))), (15, .c (.i .i64 (nodesL l).length)), (16, .c (.i .i64 k)), (18, .c (intsX (nodesL l))), (19, .c (.i .i64 (nodesL l).length)), (20, .c (.i .i64 j)), (34, .c (intsX (fromL l x))), (35, .c (.i .i64 (fromL l x).length)), (36, .c (.i .i64 i))])
              (fun i => [rowI 3 (out ++ [x0])]) (fun i => (fromL l x).length - i) 0 _ rfl (Nat.zero_le _) ?_ (fun i hi => ?_)
            · refine ⟨?_, ?_, rfl⟩ <;> repeat' (first | exact trivial | exact entV_refl _ | exact entLL_refl _ | exact ⟨rfl, rfl⟩ | rfl | apply And.intro)
              all_goals (show (_ : Bool) = (_ : Bool); simp [allTo])
            · conv => whnf
              refine And.intro (fun g1 => ?_) (fun g1 => ?_)
              · have g1 : i < (fromL l x).length := by simp at g1; omega
                have htk : allTo (out ++ [x0]) ((fromL l x).take (i + 1)) = (allTo (out ++ [x0]) ((fromL l x).take i) && decide ((fromL l x).getD i 0 ∈ (out ++ [x0]))) := by rw [take_snocI g1, allTo_snoc]
                conv => whnf
                refine ⟨by omega, ?_⟩
                conv => whnf
                rw [Int.toNat_natCast]
                generalize (fromL l x).getD i 0 = y at *
                refine And.intro (fun g2 => ?_) (fun g2 => ?_)
                · conv => whnf
                  refine callx_lent (has_fn (out ++ [x0]) y (by omega)) ⟨ints_ent2 (entLL_refl _), entV_refl _, trivial⟩ rfl rfl ?_
                  conv => whnf
                  refine ⟨i + 1, by omega, by omega, rfl, ?_⟩
                  rw [htk, ← Bool.and_assoc, g2, Bool.true_and]
                  refine ⟨?_, ?_, rfl⟩ <;> repeat' (first | exact trivial | exact entV_refl _ | exact entLL_refl _ | exact ⟨rfl, rfl⟩ | exact wrap_succ (by omega) | rfl | apply And.intro)
                · conv => whnf
                  refine ⟨i + 1, by omega, by omega, rfl, ?_⟩
                  rw [htk, ← Bool.and_assoc, g2, Bool.false_and]
                  refine ⟨?_, ?_, rfl⟩ <;> repeat' (first | exact trivial | exact entV_refl _ | exact entLL_refl _ | exact ⟨rfl, rfl⟩ | exact wrap_succ (by omega) | rfl | apply And.intro)
              · have g1 : i = (fromL l x).length := by simp at g1; omega
                subst g1
                rw [List.take_length]
                conv => whnf
                refine And.intro (fun g2 => ?_) (fun g2 => ?_)
                · exact absurd g2 (by simp)
                · conv => whnf
                  refine ⟨j + 1, by omega, by omega, rfl, ?_⟩
                  rw [hstep]
                  refine ⟨?_, ?_, rfl⟩ <;> repeat' (first | exact trivial | exact entV_refl _ | exact entLL_refl _ | exact ⟨rfl, rfl⟩ | exact wrap_succ (by omega) | rfl | apply And.intro)
          | none =>
            rw [hq] at hstep hcl
            rw [Option.toList, List.append_nil] at hcl ⊢
            conv => whnf
            refine And.intro (fun _ => ?_) (fun g => absurd g (by simp))
            conv => whnf
            refine callx_lent (has_fn out x (by omega)) ⟨ints_ent2 (entLL_refl _), entV_refl _, trivial⟩ rfl rfl ?_
            conv => whnf
            refine callx_tells (rfrom_fn l x (by omega)) rfl trivial ?_
            conv => whnf
            refine loopi tab_ok (fun i => i ≤ (fromL l x).length)
              (fun i => [(0, .c (egsX l)), (4, .c (.ow 0)), (5, .c (intsX (nodesL l))), (6, .c (.b false)), (8, .c (.i .i64 x)), (9, .c (.b (!decide (x ∈ out) && allTo out ((fromL l x).take i)))), (15, .c (.i .i64 (nodesL l).length)), (16, .c (.i .i64 k)), (18, .c (intsX (nodesL l))), (19, .c (.i .i64 (nodesL l).length)), (20, .c (.i .i64 j)), (34, .c (intsX (fromL l x))), (35, .c (.i .i64 (fromL l x).length)), (36, .c (.i .i64 i))])
              (fun i => [rowI 3 out]) (fun i => (fromL l x).length - i) 0 _ rfl (Nat.zero_le _) ?_ (fun i hi => ?_)
            · refine ⟨?_, ?_, rfl⟩ <;> repeat' (first | exact trivial | exact entV_refl _ | exact entLL_refl _ | exact ⟨rfl, rfl⟩ | rfl | apply And.intro)
              all_goals (show (_ : Bool) = (_ : Bool); simp [allTo])
            · conv => whnf
              refine And.intro (fun g1 => ?_) (fun g1 => ?_)
              · have g1 : i < (fromL l x).length := by simp at g1; omega
                have htk : allTo out ((fromL l x).take (i + 1)) = (allTo out ((fromL l x).take i) && decide ((fromL l x).getD i 0 ∈ out)) := by rw [take_snocI g1, allTo_snoc]
                conv => whnf
                refine ⟨by omega, ?_⟩
                conv => whnf
                rw [Int.toNat_natCast]
                generalize (fromL l x).getD i 0 = y at *
                refine And.intro (fun g2 => ?_) (fun g2 => ?_)
                · conv => whnf
                  refine callx_lent (has_fn out y (by omega)) ⟨ints_ent2 (entLL_refl _), entV_refl _, trivial⟩ rfl rfl ?_
                  conv => whnf
                  refine ⟨i + 1, by omega, by omega, rfl, ?_⟩
                  rw [htk, ← Bool.and_assoc, g2, Bool.true_and]
                  refine ⟨?_, ?_, rfl⟩ <;> repeat' (first | exact trivial | exact entV_refl _ | exact entLL_refl _ | exact ⟨rfl, rfl⟩ | exact wrap_succ (by omega) | rfl | apply And.intro)
                · conv => whnf
                  refine ⟨i + 1, by omega, by omega, rfl, ?_⟩
                  rw [htk, ← Bool.and_assoc, g2, Bool.false_and]
                  refine ⟨?_, ?_, rfl⟩ <;> repeat' (first | exact trivial | exact entV_refl _ | exact entLL_refl _ | exact ⟨rfl, rfl⟩ | exact wrap_succ (by omega) | rfl | apply And.intro)
              · have g1 : i = (fromL l x).length := by simp at g1; omega
                subst g1
                rw [List.take_length]
                conv => whnf
                refine And.intro (fun g2 => ?_) (fun g2 => ?_)
                · have g2 : qual l out x = true := g2
                  rw [g2] at hstep
                  conv => whnf
                  refine ⟨by simp only [List.length_map, List.length_cons, List.length_nil]; omega, ?_⟩
                  conv => whnf
                  refine ⟨j + 1, by omega, by omega, rfl, ?_⟩
                  rw [hstep]
                  refine ⟨?_, ?_, rfl⟩ <;> repeat' (first | exact trivial | exact entV_refl _ | exact ⟨rfl, rfl⟩ | exact wrap_succ (by omega) | apply And.intro)
                  all_goals first | rfl | exact entLL_of_eq (by simp)
                · have g2 : qual l out x = false := g2
                  rw [g2] at hstep
                  conv => whnf
                  refine ⟨j + 1, by omega, by omega, rfl, ?_⟩
                  rw [hstep]
                  refine ⟨?_, ?_, rfl⟩ <;> repeat' (first | exact trivial | exact entV_refl _ | exact ⟨rfl, rfl⟩ | exact wrap_succ (by omega) | apply And.intro)
                  all_goals first | rfl | exact entLL_of_eq (by simp)
        · have h2 : j = (nodesL l).length := by simp at h2; omega
          subst h2
          have hpk := left_pick l out
          obtain ⟨n, hn⟩ : ∃ n, (leftL l out).length = n + 1 := ⟨(leftL l out).length - 1, by omega⟩
          rw [hn, ordG, hpk] at hord
          cases hq : firstQ l out (nodesL l).length with
          | none =>
            rw [hq] at hord
            conv => whnf
            refine And.intro (fun _ => ?_) (fun g => absurd g (by simp))
            conv => whnf
            rw [← hord]
            exact ⟨nil_ints, rfl, trivial⟩
          | some x0 =>
            rw [hq] at hord hpk
            have hmem := (pick_some hpk).1
            have hel : (leftL l (out ++ [x0])).length = n := by
              rw [← left_erase, List.length_erase_of_mem hmem]; omega
            conv => whnf
            refine And.intro (fun g => absurd g (by simp)) (fun _ => ?_)
            conv => whnf
            refine ⟨(k + 1, out ++ [x0]), ⟨by dsimp only; omega, by dsimp only; simp [hlen], ?_⟩, by dsimp only; omega, rfl, ?_⟩
            · dsimp only
              rw [hel, ← left_erase]; exact hord
            refine ⟨?_, ?_, rfl⟩ <;> repeat' (first | exact trivial | exact entV_refl _ | exact entLL_refl _ | exact ⟨rfl, rfl⟩ | exact wrap_succ (by omega) | rfl | apply And.intro)
    · have h1 : k = (nodesL l).length := by simp at h1; omega
      have h2 : leftL l out = [] := List.length_eq_zero_iff.1 (by omega)
      rw [h2] at hord
      conv => whnf
      rw [← hord]
      exact ⟨ints_ent2 (entLL_refl _), rfl, trivial⟩
end Go.Proofs.Ytehbalkhboedeaa
