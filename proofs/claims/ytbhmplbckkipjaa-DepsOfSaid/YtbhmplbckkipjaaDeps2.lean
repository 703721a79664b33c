/- Who ends where; who commits. -/
import Derived.Test.YtbhmplbckkipjaaDeps
namespace Go.Proofs.Ytbhmplbckkipjaa
open Go Go.Eng Go.RowKit
set_option maxRecDepth 100000
set_option maxHeartbeats 4000000
set_option linter.unusedVariables false
set_option linter.unusedSimpArgs false
def endsAt (tx : Int) : Nat → List Ev → Int × Int
  | _, [] => (-1, 0)
  | i, e :: l => if e.tx = tx ∧ e.kind = 9 then (i, 1) else if e.tx = tx ∧ e.kind = 12 then (i, 2) else endsAt tx (i + 1) l
def endsI (l : List Ev) (tx : Int) : Int × Int := endsAt tx 0 l
theorem drop_getD {α : Type} (d : α) {l : List α} {k : Nat} (h : k < l.length) : l.drop k = l.getD k d :: l.drop (k + 1) := by
  rw [List.getD_eq_getElem?_getD, List.getElem?_eq_getElem h]
  exact List.drop_eq_getElem_cons h
theorem ends_fn (l : List Ev) (tx : Int) (hl : l.length ≤ 1000000) : Eng.Fn Try.prog 124 [.c (evsX l), .c (.i .i64 tx)] (Tells (.t [.c (.i .i64 (endsI l tx).1), .c (.i .i64 (endsI l tx).2)])) := by
  refine Eng.Fn.of tab_ok Try.func124 (by kernel_rfl) (by kernel_rfl) (fun w0 => ?_)
  conv => whnf
  refine loopi tab_ok (fun k => k ≤ l.length ∧ endsI l tx = endsAt tx k (l.drop k)) (fun k => [(0, .c (evsX l)), (1, .c (.i .i64 tx)), (8, .c (evsX l)), (9, .c (.i .i64 l.length)), (10, .c (.i .i64 k))]) (fun k => []) (fun k => l.length - k) 0 31 rfl ⟨Nat.zero_le _, rfl⟩ ?_ (fun k hk => ?_)
  · refine ⟨?_, ?_, rfl⟩ <;> repeat' (first | exact trivial | exact entV_refl _ | apply And.intro)
    all_goals rfl
  · obtain ⟨hk, hall⟩ := hk
    conv => whnf
    refine And.intro (fun h1 => ?_) (fun h1 => ?_)
    · conv => whnf
      simp only [decide_eq_true_eq] at h1
      have h2 : k < l.length := by omega
      refine ⟨by omega, ?_⟩
      conv => whnf
      generalize he : l.getD (Int.toNat (k : Int)) default = e
      have he : l.getD k default = e := he
      rw [drop_getD default h2, he, endsAt] at hall
      refine And.intro (fun h3 => ?_) (fun h3 => ?_)
      · conv => whnf
        have h3 : ¬ e.tx = tx := by simpa using h3
        rw [if_neg (fun h => h3 h.1), if_neg (fun h => h3 h.1)] at hall
        refine ⟨k + 1, ⟨by omega, hall⟩, by omega, rfl, ?_⟩
        refine ⟨?_, ?_, rfl⟩ <;> repeat' (first | exact trivial | exact entV_refl _ | apply And.intro)
        all_goals first
          | rfl
          | exact wrap_succ (by omega)
      · conv => whnf
        have h3 : e.tx = tx := by simpa using h3
        refine And.intro (fun h4 => ?_) (fun h4 => ?_)
        · conv => whnf
          have h4 : e.kind = 9 := by simpa using h4
          rw [if_pos ⟨h3, h4⟩] at hall
          rw [hall]
          repeat' (first | exact trivial | exact ⟨rfl, rfl⟩ | rfl | apply And.intro)
        · conv => whnf
          have h4 : ¬ e.kind = 9 := by simpa using h4
          rw [if_neg (fun h => h4 h.2)] at hall
          refine And.intro (fun h5 => ?_) (fun h5 => ?_)
          · conv => whnf
            have h5 : e.kind = 12 := by simpa using h5
            rw [if_pos ⟨h3, h5⟩] at hall
            rw [hall]
            repeat' (first | exact trivial | exact ⟨rfl, rfl⟩ | rfl | apply And.intro)
          · conv => whnf
            have h5 : ¬ e.kind = 12 := by simpa using h5
            rw [if_neg (fun h => h5 h.2)] at hall
            refine ⟨k + 1, ⟨by omega, hall⟩, by omega, rfl, ?_⟩
            refine ⟨?_, ?_, rfl⟩ <;> repeat' (first | exact trivial | exact entV_refl _ | apply And.intro)
            all_goals first
              | rfl
              | exact wrap_succ (by omega)
    · conv => whnf
      simp only [decide_eq_false_iff_not] at h1
      have e : k = l.length := by omega
      subst e
      rw [List.drop_length] at hall
      rw [hall]
      repeat' (first | exact trivial | exact ⟨rfl, rfl⟩ | rfl | apply And.intro)
def comAt (l : List Ev) : Nat → List Int
  | 0 => []
  | k + 1 => if endsI l (l.getD k default).tx = ((k : Int), 1) then comAt l k ++ [(l.getD k default).tx] else comAt l k
def commitsL (l : List Ev) : List Int := comAt l l.length
theorem comAt_len (l : List Ev) : ∀ k, (comAt l k).length ≤ k
  | 0 => Nat.le_refl _
  | k + 1 => by
    have := comAt_len l k
    unfold comAt
    split
    · simp; omega
    · omega
theorem commits_fn (l : List Ev) (hl : l.length ≤ 1000000) : Eng.Fn Try.prog 101 [.c (evsX l)] (Tells (.c (intsX (commitsL l)))) := by
  refine Eng.Fn.ofZ tab_ok Try.func101 (by kernel_rfl) (by kernel_rfl) trivial (fun w0 => ?_)
  conv => whnf
  refine loopx_nil 3 3 1 rfl ?_
  conv => whnf
  refine loopi tab_ok (fun k => k ≤ l.length) (fun k => [(0, .c (evsX l)), (3, .c (.ow 0)), (8, .c (evsX l)), (9, .c (.i .i64 l.length)), (10, .c (.i .i64 k))])
    (fun k => [.row 3 1 ((comAt l k).map fun n => [.i .i64 n])]) (fun k => l.length - k) 0 36 rfl (Nat.zero_le _) ?_ (fun k hk => ?_)
  · refine ⟨?_, ?_, rfl⟩ <;> repeat' (first | exact trivial | exact entV_refl _ | apply And.intro)
    all_goals rfl
  · conv => whnf
    refine And.intro (fun h1 => ?_) (fun h1 => ?_)
    · conv => whnf
      simp only [decide_eq_true_eq] at h1
      have h2 : k < l.length := by omega
      have hlen := comAt_len l k
      refine ⟨by omega, ?_⟩
      conv => whnf
      generalize he : l.getD (Int.toNat (k : Int)) default = e
      have he : l.getD k default = e := he
      have hs : comAt l (k + 1) = if endsI l e.tx = ((k : Int), 1) then comAt l k ++ [e.tx] else comAt l k := by rw [← he]; rfl
      refine callx_tells (ends_fn l e.tx hl) rfl ?_ ?_
      · intro x hx
        simp only [List.mem_cons, List.not_mem_nil, or_false] at hx
        rcases hx with rfl | rfl <;> trivial
      conv => whnf
      have e1 : ∀ n : Int, endsI l e.tx = ((k : Int), 1) ↔ (endsI l e.tx).1 = k ∧ (endsI l e.tx).2 = 1 := fun _ => Prod.ext_iff
      refine And.intro (fun h3 => ?_) (fun h3 => ?_)
      · conv => whnf
        refine And.intro (fun h4 => ?_) (fun h4 => ?_)
        · conv => whnf
          refine ⟨by simp only [List.length_map, List.length_cons, List.length_nil]; omega, ?_⟩
          conv => whnf
          rw [if_pos ((e1 0).2 ⟨by simpa using h3, by simpa using h4⟩)] at hs
          refine ⟨k + 1, by omega, by omega, rfl, ?_⟩
          rw [hs]
          refine ⟨?_, ?_, rfl⟩ <;> repeat' (first | exact trivial | exact entV_refl _ | apply And.intro)
          all_goals try first
            | rfl
            | exact wrap_succ (by omega)
          rw [List.map_append]
          exact entLL_refl _
        · conv => whnf
          rw [if_neg (fun h => by rw [((e1 0).1 h).2] at h4; cases h4)] at hs
          refine ⟨k + 1, by omega, by omega, rfl, ?_⟩
          rw [hs]
          refine ⟨?_, ?_, rfl⟩ <;> repeat' (first | exact trivial | exact entV_refl _ | exact entLL_refl _ | apply And.intro)
          all_goals first
            | rfl
            | exact wrap_succ (by omega)
      · conv => whnf
        rw [if_neg (fun h => by rw [((e1 0).1 h).1] at h3; simp at h3)] at hs
        refine ⟨k + 1, by omega, by omega, rfl, ?_⟩
        rw [hs]
        refine ⟨?_, ?_, rfl⟩ <;> repeat' (first | exact trivial | exact entV_refl _ | exact entLL_refl _ | apply And.intro)
        all_goals first
          | rfl
          | exact wrap_succ (by omega)
    · conv => whnf
      simp only [decide_eq_false_iff_not] at h1
      have e : k = l.length := by omega
      subst e
      exact ints_ent rfl
end Go.Proofs.Ytbhmplbckkipjaa
