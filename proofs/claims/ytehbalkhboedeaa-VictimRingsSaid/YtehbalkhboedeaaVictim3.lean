/- Victims: the two laws' walks. -/
import Derived.Test.YtehbalkhboedeaaVictim2
namespace Go.Proofs.Ytehbalkhboedeaa
open Go Go.Eng Go.RowKit
set_option maxRecDepth 100000
set_option maxHeartbeats 4000000
set_option linter.unusedVariables false
set_option linter.unusedSimpArgs false
theorem stampI_at {st : List Int} {x : Int} (h0 : 0 ≤ x) : stampI st x = st.getD x.toNat 0 := by rw [stampI, if_neg (by omega)]
/-- Who gives way has a greater stamp than somebody. -/
theorem gives_way {p : Int} {st : List Int} {e : Int × Int} {x : Int} (h : judgeI p (stampI st e.1) (stampI st e.2) ≠ 0) (hx : whoI p st e = x) : ∃ y, (y = e.1 ∨ y = e.2) ∧ stampI st y < stampI st x := by
  unfold whoI at hx
  unfold judgeI at h hx
  split at h
  · rename_i h1
    rw [if_pos h1, if_neg (by decide)] at hx
    exact ⟨e.2, .inr rfl, by rw [← hx]; exact h1.2⟩
  · rename_i h1
    split at h
    · rename_i h2
      rw [if_neg h1, if_pos h2, if_pos rfl] at hx
      exact ⟨e.1, .inl rfl, by rw [← hx]; exact h2.2⟩
    · exact absurd rfl h
theorem allL_who {p : Int} {st : List Int} : ∀ (l out : List (Int × Int)) (o : Int × Int), o ∈ l.foldl (allStep p st) out → o ∈ out ∨ ∃ e ∈ l, judgeI p (stampI st e.1) (stampI st e.2) ≠ 0 ∧ whoI p st e = o.1
  | [], out, o, h => .inl h
  | e :: l, out, o, h => by
    rw [List.foldl_cons] at h
    rcases allL_who l _ o h with h1 | ⟨e', h1, h2⟩
    · unfold allStep at h1
      split at h1
      · rename_i h3
        rcases List.mem_append.1 h1 with h4 | h4
        · exact .inl h4
        · simp only [List.mem_singleton] at h4
          exact .inr ⟨e, by simp, h3.1, by rw [h4]⟩
      · exact .inl h1
    · exact .inr ⟨e', by simp [h1], h2⟩
theorem chBest_max (st lk : List Int) : ∀ k, 0 < k → ∀ i, i < k → st.getD i 0 ≤ st.getD (chBest st lk 0 k) 0
  | 0, h, _, _ => absurd h (by omega)
  | k + 1, _, i, hi => by
    have hb : ∀ j, betB (st.getD k 0) (lk.getD k 0) (st.getD j 0) (lk.getD j 0) 0 = decide (st.getD k 0 > st.getD j 0) := fun j => by simp [betB]
    unfold chBest
    rw [hb]
    by_cases h0 : k = 0
    · subst h0; obtain rfl : i = 0 := by omega
      split <;> simp [chBest]
    · have ih := chBest_max st lk k (by omega)
      by_cases hik : i = k
      · subst hik
        split
        · omega
        · rename_i h1; simp only [decide_eq_true_eq] at h1; omega
      · have := ih i (by omega)
        split
        · rename_i h1; simp only [decide_eq_true_eq] at h1; omega
        · exact this
abbrev edgesOf (n : Nat) (g : Nat → Nat → Int) : List (Int × Int) := (List.range n).map fun i => (g i 0, g i 1)
theorem edges_of {n : Nat} {g : Nat → Nat → Int} : entV (.c (.rs n 2 fun i j => .i .i64 (g i j))) (.c (edgesX (edgesOf n g))) :=
  rows_of fun i _ j hj => by
    match j, hj with
    | 0, _ => exact entC_refl _
    | 1, _ => exact entC_refl _
end Go.Proofs.Ytehbalkhboedeaa
