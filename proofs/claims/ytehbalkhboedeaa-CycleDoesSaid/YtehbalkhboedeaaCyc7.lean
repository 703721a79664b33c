/- Reached by one who is reached: the law walked. -/
import Derived.Test.YtehbalkhboedeaaCyc6
namespace Go.Proofs.Ytehbalkhboedeaa
open Go Go.Eng Go.RowKit
set_option maxRecDepth 100000
set_option maxHeartbeats 4000000
set_option linter.unusedVariables false
set_option linter.unusedSimpArgs false
def ex15 : List Eg := [⟨2, 3⟩, ⟨3, 2⟩]
theorem ex15_mem (x y : Int) : (⟨x, y⟩ : Eg) ∈ ex15 ↔ (x = 2 ∧ y = 3) ∨ (x = 3 ∧ y = 2) := by simp [ex15, Eg.eq_iff]
theorem ex15_find : findL ex15 = [2, 3] := by
  have e23 : (⟨2, 3⟩ : Eg) ∈ ex15 := (ex15_mem _ _).2 (.inl ⟨rfl, rfl⟩)
  have e32 : (⟨3, 2⟩ : Eg) ∈ ex15 := (ex15_mem _ _).2 (.inr ⟨rfl, rfl⟩)
  have hon : onL ex15 = [2, 3] := ris_ext (on_ris _) (by simp [Ris]) fun x => by
    rw [on_mem]
    constructor
    · intro h
      obtain ⟨e, he, h⟩ := (nodes_mem ex15 x).1 h.to_node
      rcases (ex15_mem e.fr e.to).1 he with ⟨h1, h2⟩ | ⟨h1, h2⟩ <;> rcases h with h | h <;> simp [h, h1, h2]
    · intro h
      simp only [List.mem_cons, List.not_mem_nil, or_false] at h
      rcases h with rfl | rfl
      · exact .head e23 (.one e32)
      · exact .head e32 (.one e23)
  have d2 : Ds ex15 2 2 2 := ⟨by omega, ⟨3, e23, 2, e32, rfl⟩, fun j h1 h2 h3 => by
    obtain rfl : j = 1 := by omega
    obtain ⟨z, hz, e⟩ := h3
    have e : z = 2 := e
    subst e
    rcases (ex15_mem _ _).1 hz with ⟨h1, h2⟩ | ⟨h1, h2⟩ <;> omega⟩
  have d3 : Ds ex15 2 1 3 := ⟨by omega, ⟨2, e32, rfl⟩, fun j h1 h2 => by omega⟩
  have hfr : fromL ex15 2 = [3] := ris_ext (from_ris _ _) (by simp [Ris]) fun y => by
    rw [from_mem, ex15_mem]
    simp
  have hN : dN ex15 2 2 = 2 := dN_eq d2
  have hg : gP ex15 2 2 1 = [2, 3] := by
    have : nxtF ex15 2 2 1 2 = some 3 := by
      unfold nxtF
      rw [hfr]
      simp [dN_eq d3]
    show (match nxtF ex15 2 2 1 ((gP ex15 2 2 0).getLastD 0) with | some y => gP ex15 2 2 0 ++ [y] | none => gP ex15 2 2 0) = _
    have e0 : (gP ex15 2 2 0).getLastD 0 = 2 := rfl
    rw [e0, this]; rfl
  rw [findL, hon]
  show gP ex15 2 (dN ex15 2 2) (dN ex15 2 2 - 1) = _
  rw [hN]
  exact hg
theorem awake15_fn : Eng.Fn Try.prog 25 [] (Tells (.c (.b true))) := by
  refine Eng.Fn.of tab_ok Try.func25 (by kernel_rfl) (by kernel_rfl) (fun w0 => ?_)
  conv => whnf
  refine callx_frz 0 rfl ?_
  conv => whnf
  refine callx_says (find_fn ex15 (by decide) (fun e he => by simp only [ex15, List.mem_cons, List.not_mem_nil, or_false] at he; rcases he with rfl | rfl <;> rfl)) ⟨?_, trivial⟩ rfl trivial ?_
  · exact row_ent2 ⟨⟨⟨rfl, rfl⟩, ⟨rfl, rfl⟩, trivial⟩, ⟨⟨rfl, rfl⟩, ⟨rfl, rfl⟩, trivial⟩, trivial⟩
  conv => whnf
  rw [ex15_find]
  refine callx_frz 1 rfl ?_
  conv => whnf
  refine callx_says (sameI_fn [2, 3] [2, 3] (by decide)) ⟨entV_refl _, ints_ent2 ⟨⟨⟨rfl, rfl⟩, trivial⟩, ⟨⟨rfl, rfl⟩, trivial⟩, trivial⟩, trivial⟩ rfl trivial ?_
  conv => whnf
  rfl
theorem find_len (l : List Eg) : (findL l).length ≤ 2 * l.length := by
  have hn : (findL l).Nodup := by
    cases ho : onL l with
    | nil => rw [findL, ho]; exact List.nodup_nil
    | cons a r => exact (find_ring ho).once
  exact Nat.le_trans (nodup_le hn fun x hx => find_on hx) (on_len l)
theorem cycReach_fn (l : List Eg) (a : Int) (hwf : ∀ e ∈ l, (Lit.int .i64 e.to).wf = true) : Eng.Fn Try.prog 5 [.c (egsX l), .c (.i .i64 a)] (Tells (.c (.b true))) := by
  refine Eng.Fn.of tab_ok Try.func5 (by kernel_rfl) (by kernel_rfl) (fun w0 => ?_)
  conv => whnf
  refine callx_tells awake15_fn rfl trivial ?_
  conv => whnf
  refine And.intro (fun h => absurd h (by simp)) (fun _ => ?_)
  conv => whnf
  refine And.intro (fun h => by conv => whnf) (fun h0 => ?_)
  have hl : l.length ≤ 40 := by simp at h0; omega
  conv => whnf
  refine callx_tells (reach_fn l a (by omega) hwf) rfl trivial ?_
  conv => whnf
  have hrl := reach_len l a
  refine loopi tab_ok (fun i => i ≤ (reachL l a).length) (fun i => [(0, .c (egsX l)), (1, .c (.i .i64 a)), (5, .c (intsX (reachL l a))), (21, .c (intsX (reachL l a))), (22, .c (.i .i64 (reachL l a).length)), (23, .c (.i .i64 i))]) (fun _ => []) (fun i => (reachL l a).length - i) 0 _ rfl (Nat.zero_le _) ?_ (fun i hi => ?_)
  · refine ⟨?_, ?_, rfl⟩ <;> repeat' (first | exact trivial | exact entV_refl _ | rfl | apply And.intro)
  · conv => whnf
    refine And.intro (fun g1 => ?_) (fun g1 => ?_)
    · have g1 : i < (reachL l a).length := by simp at g1; omega
      conv => whnf
      refine ⟨by omega, ?_⟩
      conv => whnf
      rw [Int.toNat_natCast]
      have hx : (reachL l a).getD i 0 ∈ reachL l a := by rw [List.getD_eq_getElem?_getD, List.getElem?_eq_getElem g1]; exact List.getElem_mem g1
      generalize (reachL l a).getD i 0 = x at *
      have hx := (reach_mem l a x).1 hx
      refine callx_tells (reach_fn l x (by omega) hwf) rfl trivial ?_
      conv => whnf
      refine loopi tab_ok (fun j => j ≤ (reachL l x).length) (fun j => [(0, .c (egsX l)), (1, .c (.i .i64 a)), (5, .c (intsX (reachL l a))), (21, .c (intsX (reachL l a))), (22, .c (.i .i64 (reachL l a).length)), (23, .c (.i .i64 i)), (29, .c (intsX (reachL l x))), (30, .c (.i .i64 (reachL l x).length)), (31, .c (.i .i64 j))]) (fun _ => []) (fun j => (reachL l x).length - j) 0 _ rfl (Nat.zero_le _) ?_ (fun j hj => ?_)
      · refine ⟨?_, ?_, rfl⟩ <;> repeat' (first | exact trivial | exact entV_refl _ | rfl | apply And.intro)
      · have hrx := reach_len l x
        conv => whnf
        refine And.intro (fun g2 => ?_) (fun g2 => ?_)
        · have g2 : j < (reachL l x).length := by simp at g2; omega
          conv => whnf
          refine ⟨by omega, ?_⟩
          conv => whnf
          rw [Int.toNat_natCast]
          have hy : (reachL l x).getD j 0 ∈ reachL l x := by rw [List.getD_eq_getElem?_getD, List.getElem?_eq_getElem g2]; exact List.getElem_mem g2
          generalize (reachL l x).getD j 0 = y at *
          have hy := (reach_mem l x y).1 hy
          have hay : y ∈ reachL l a := (reach_mem l a y).2 (hx.trans hy)
          refine callx_tells (has_fn (reachL l a) y (by omega)) rfl trivial ?_
          conv => whnf
          refine And.intro (fun g3 => absurd hay (by simpa using g3)) (fun g3 => ?_)
          conv => whnf
          refine ⟨j + 1, by omega, by omega, rfl, ?_⟩
          refine ⟨?_, ?_, rfl⟩ <;> repeat' (first | exact trivial | exact entV_refl _ | exact wrap_succ (by omega) | rfl | apply And.intro)
        · conv => whnf
          refine ⟨i + 1, by omega, by omega, rfl, ?_⟩
          refine ⟨?_, ?_, rfl⟩ <;> repeat' (first | exact trivial | exact entV_refl _ | exact wrap_succ (by omega) | rfl | apply And.intro)
    · conv => whnf
      refine callx_tells (on_fn l (by omega) hwf) rfl trivial ?_
      conv => whnf
      refine callx_tells (find_fn l (by omega) hwf) rfl trivial ?_
      conv => whnf
      have hol := on_len l
      have hfl := find_len l
      refine loopi tab_ok (fun j => j ≤ (findL l).length) (fun j => [(1, .c (.i .i64 a)), (5, .c (intsX (reachL l a))), (10, .c (intsX (onL l))), (44, .c (intsX (findL l))), (45, .c (.i .i64 (findL l).length)), (46, .c (.i .i64 j))]) (fun _ => []) (fun j => (findL l).length - j) 0 _ rfl (Nat.zero_le _) ?_ (fun j hj => ?_)
      · refine ⟨?_, ?_, rfl⟩ <;> repeat' (first | exact trivial | exact entV_refl _ | rfl | apply And.intro)
      · conv => whnf
        refine And.intro (fun g2 => ?_) (fun g2 => ?_)
        · have g2 : j < (findL l).length := by simp at g2; omega
          conv => whnf
          refine ⟨by omega, ?_⟩
          conv => whnf
          rw [Int.toNat_natCast]
          have hy : (findL l).getD j 0 ∈ findL l := by rw [List.getD_eq_getElem?_getD, List.getElem?_eq_getElem g2]; exact List.getElem_mem g2
          generalize (findL l).getD j 0 = y at *
          have hy := find_on hy
          refine callx_tells (has_fn (onL l) y (by omega)) rfl trivial ?_
          conv => whnf
          refine And.intro (fun g3 => absurd hy (by simpa using g3)) (fun g3 => ?_)
          conv => whnf
          refine ⟨j + 1, by omega, by omega, rfl, ?_⟩
          refine ⟨?_, ?_, rfl⟩ <;> repeat' (first | exact trivial | exact entV_refl _ | exact wrap_succ (by omega) | rfl | apply And.intro)
        · conv => whnf
          refine callx_tells (has_fn (onL l) a (by omega)) rfl trivial ?_
          conv => whnf
          refine callx_tells (has_fn (reachL l a) a (by omega)) rfl trivial ?_
          conv => whnf
          have : decide (a ∈ onL l) = decide (a ∈ reachL l a) := by rw [decide_eq_decide, on_mem, reach_mem]
          rw [this]
          simp
theorem cycReach_row (l0 : Nat) (h0 : Nat → Nat → Int) (a : Int) (_ : l0 ≤ maxLen) (w0 : ∀ i, i < l0 → ∀ j, j < 2 → (Lit.int .i64 (h0 i j)).wf = true) (_ : (Lit.int .i64 a).wf = true) :
    Eng.Fn Try.prog 5 [.c (.rs l0 2 fun i j => .i .i64 (h0 i j)), .c (.i .i64 a)] (Tells (.c (.b true))) :=
  (cycReach_fn (egsOf l0 h0) a (egs_wf w0)).ask ⟨egs_of, entV_refl _, trivial⟩
end Go.Proofs.Ytehbalkhboedeaa
