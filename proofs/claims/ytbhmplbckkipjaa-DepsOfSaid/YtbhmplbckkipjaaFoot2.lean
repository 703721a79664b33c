/- The document's 'within'. -/
import Derived.Test.YtbhmplbckkipjaaFoot
import Derived.Test.YtbhmplbckkipjaaDeps2
namespace Go.Proofs.Ytbhmplbckkipjaa
open Go Go.Eng Go.RowKit
set_option maxRecDepth 100000
set_option maxHeartbeats 4000000
set_option linter.unusedVariables false
set_option linter.unusedSimpArgs false
theorem front_fn (p : Pth) (k : Int) (hk : 1 ≤ k ∧ k ≤ 4) : Eng.Fn Try.prog 129 [.a (encP p), .c (.i .i64 k)] (Tells (.a (encP (cutP p k)))) := by
  have : k = 1 ∨ k = 2 ∨ k = 3 ∨ k = 4 := by omega
  rcases this with rfl | rfl | rfl | rfl
  all_goals
    refine Eng.Fn.of tab_ok Try.func129 (by kernel_rfl) (by kernel_rfl) (fun w0 => ?_)
    conv => whnf
    repeat' (first
      | exact ⟨⟨rfl, rfl⟩, ⟨rfl, rfl⟩, ⟨rfl, rfl⟩, ⟨rfl, rfl⟩, ⟨rfl, rfl⟩, trivial⟩
      | (refine loopx_rounds tab_ok 6 ?_; conv => whnf)
      | (refine And.intro (fun h => absurd h (by decide)) (fun _ => ?_); conv => whnf)
      | (refine And.intro (fun _ => ?_) (fun h => absurd h (by decide)); conv => whnf)
      | (refine And.intro ⟨by decide, by decide⟩ ?_; conv => whnf))
abbrev pthsX (l : List Pth) : XC := rowX encP default 5 l
def waysL (p : Pth) : List Pth := if MayP p then ([1, 2, 3, 4].take p.n.toNat).map (cutP p) else []
theorem ways_fn (p : Pth) : Eng.Fn Try.prog 117 [.a (encP p)] (Tells (.c (pthsX (waysL p)))) := by
  refine Eng.Fn.ofZ tab_ok Try.func117 (by kernel_rfl) (by kernel_rfl) trivial (fun w0 => ?_)
  conv => whnf
  refine loopx_nil 3 35 5 rfl ?_
  conv => whnf
  refine loopi tab_ok (fun (k : Nat) => k = 0 ∨ (MayP p ∧ (k : Int) ≤ p.n)) (fun k => [(1, .c (.p 0 0)), (3, .c (.ow 1)), (4, .c (.i .i64 (k + 1)))])
    (fun k => [.cells 35 (encP p), .row 35 5 ((([1, 2, 3, 4] : List Int).take k).map fun i => encP (cutP p i))]) (fun k => 5 - k) 0 22 rfl (.inl rfl) ?_ (fun k hk => ?_)
  · refine ⟨?_, ?_, rfl⟩ <;> repeat' (first | exact trivial | exact entV_refl _ | exact entL_refl _ | apply And.intro)
    all_goals rfl
  · conv => whnf
    refine callx_tells (right_fn p) rfl trivial ?_
    conv => whnf
    refine And.intro (fun h1 => ?_) (fun h1 => ?_)
    · have h1 : MayP p := by simpa using h1
      have hn : 1 ≤ p.n ∧ p.n ≤ 4 := ⟨h1.1, h1.2.1⟩
      conv => whnf
      refine And.intro (fun h2 => ?_) (fun h2 => ?_)
      · have h2 : (k : Int) + 1 ≤ p.n := by simpa using h2
        conv => whnf
        refine callx_tells (front_fn p (k + 1) (by omega)) rfl (allSt_iff rfl) ?_
        conv => whnf
        refine ⟨by simp only [List.length_map, List.length_cons, List.length_nil, List.length_take]; omega, ?_⟩
        conv => whnf
        refine ⟨k + 1, .inr ⟨h1, by omega⟩, by omega, rfl, ?_⟩
        have hk4 : k = 0 ∨ k = 1 ∨ k = 2 ∨ k = 3 := by omega
        rcases hk4 with rfl | rfl | rfl | rfl
        all_goals
          refine ⟨?_, ?_, rfl⟩ <;> repeat' (first | exact trivial | exact entV_refl _ | exact entL_refl _ | exact entLL_refl _ | exact ⟨rfl, rfl⟩ | apply And.intro)
          all_goals rfl
      · have h2 : ¬ (k : Int) + 1 ≤ p.n := by simpa using h2
        conv => whnf
        have hk' : p.n.toNat = k := by omega
        refine row_ent ?_
        rw [waysL, if_pos h1, hk', List.map_map]; rfl
    · have h1 : ¬ MayP p := by simpa using h1
      conv => whnf
      have hk' : k = 0 := by rcases hk with h | h; exact h; exact absurd h.1 h1
      subst hk'
      refine row_ent ?_
      rw [waysL, if_neg h1]; rfl
theorem ways_within (p q : Pth) : (waysL p).any (fun a => decide (a = q)) = withinB p q := by
  unfold waysL withinB
  by_cases h : MayP p
  · rw [if_pos h, Bool.eq_iff_iff]
    simp only [List.any_eq_true, List.mem_map, decide_eq_true_eq]
    constructor
    · rintro ⟨a, ⟨i, hi, rfl⟩, rfl⟩
      have hn : p.n = 1 ∨ p.n = 2 ∨ p.n = 3 ∨ p.n = 4 := by have := h.1; have := h.2.1; omega
      have hi2 : 1 ≤ i ∧ i ≤ p.n := by
        rcases hn with e | e | e | e <;> rw [e] at hi ⊢ <;> simp at hi <;> omega
      have hm : MayP (cutP p i) := by
        unfold MayP cutP at *
        dsimp only
        refine ⟨by omega, by omega, ?_⟩
        repeat' split
        all_goals omega
      exact ⟨h, hm, hi2.2, rfl⟩
    · rintro ⟨_, hq, hle, he⟩
      refine ⟨cutP p q.n, ⟨q.n, ?_, rfl⟩, he⟩
      have hn : p.n = 1 ∨ p.n = 2 ∨ p.n = 3 ∨ p.n = 4 := by have := h.1; have := h.2.1; omega
      have := hq.1
      rcases hn with e | e | e | e <;> rw [e] at hle ⊢ <;> simp <;> omega
  · rw [if_neg h]; simp [h]
theorem waysL_len (p : Pth) : (waysL p).length ≤ 4 := by
  unfold waysL; split
  · rw [List.length_map, List.length_take]; simp; omega
  · simp
theorem refWithin_fn (p q : Pth) : Eng.Fn Try.prog 79 [.a (encP p), .a (encP q)] (Tells (.c (.b (withinB p q)))) := by
  refine Eng.Fn.of tab_ok Try.func79 (by kernel_rfl) (by kernel_rfl) (fun w0 => ?_)
  conv => whnf
  refine callx_tells (ways_fn p) rfl trivial ?_
  conv => whnf
  rw [← ways_within]
  have hlen := waysL_len p
  generalize waysL p = l at hlen
  refine loopi tab_ok (fun (k : Nat) => k ≤ l.length ∧ l.any (fun a => decide (a = q)) = (l.drop k).any (fun a => decide (a = q))) (fun k => [(3, .c (.p 1 0)), (8, .c (pthsX l)), (9, .c (.i .i64 l.length)), (10, .c (.i .i64 k))])
    (fun k => [.dead, .cells 35 (encP q)]) (fun k => l.length - k) 0 18 rfl ⟨Nat.zero_le _, rfl⟩ ?_ (fun k hk => ?_)
  · refine ⟨?_, ?_, rfl⟩ <;> repeat' (first | exact trivial | exact entV_refl _ | exact entL_refl _ | apply And.intro)
    all_goals rfl
  · obtain ⟨hk, hany⟩ := hk
    conv => whnf
    refine And.intro (fun h1 => ?_) (fun h1 => ?_)
    · conv => whnf
      simp only [decide_eq_true_eq] at h1
      have h2 : k < l.length := by omega
      refine ⟨by omega, ?_⟩
      conv => whnf
      generalize he : l.getD (Int.toNat (k : Int)) default = e
      have he : l.getD k default = e := he
      rw [drop_getD default h2, he, List.any_cons] at hany
      have hb : (e.a == q.a && (e.b == q.b && (e.c == q.c && (e.d == q.d && e.n == q.n)))) = decide (e = q) := by
        rw [Bool.eq_iff_iff]; simp only [Bool.and_eq_true, beq_iff_eq, decide_eq_true_eq, Pth.eq_iff]
      refine And.intro (fun h3 => ?_) (fun h3 => ?_)
      · have h3 : decide (e = q) = true := hb.symm.trans h3
        conv => whnf
        rw [hany, h3]; rfl
      · have h3 : decide (e = q) = false := hb.symm.trans h3
        conv => whnf
        rw [h3, Bool.false_or] at hany
        refine ⟨k + 1, ⟨by omega, hany⟩, by omega, rfl, ?_⟩
        refine ⟨?_, ?_, rfl⟩ <;> repeat' (first | exact trivial | exact entV_refl _ | exact entL_refl _ | exact entLL_refl _ | apply And.intro)
        all_goals first
          | rfl
          | exact wrap_succ (by omega)
    · conv => whnf
      simp only [decide_eq_false_iff_not] at h1
      rw [hany, List.drop_eq_nil_of_le (by omega)]; rfl
end Go.Proofs.Ytbhmplbckkipjaa
