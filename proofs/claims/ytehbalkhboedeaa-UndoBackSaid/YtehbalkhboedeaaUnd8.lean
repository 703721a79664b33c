/- The log and the reference's log: plain laws. -/
import Derived.Test.YtehbalkhboedeaaUnd5
import Derived.Test.YtehbalkhboedeaaUnd6
import Derived.Test.YtehbalkhboedeaaUnd7
namespace Go.Proofs.Ytehbalkhboedeaa
open Go Go.Eng Go.RowKit
set_option linter.unusedVariables false
set_option linter.unusedSimpArgs false
theorem gOf_append (a b : Lg) (k : Int) : gOf (a ++ b) k = gOf a k ++ gOf b k := by unfold gOf; rw [List.filter_append, List.map_append]
theorem gOf_one (p : Int × Rw) (k : Int) : gOf [p] k = if p.1 = k then [p.2] else [] := by
  unfold gOf
  by_cases e : p.1 = k <;> simp [List.filter_cons, e]
theorem gOf_note (l : Lg) (k : Int) (r : Rw) : gOf (noteL l k r) = noteG (gOf l) k r := by
  unfold noteL noteG
  split
  · funext j
    rw [gOf_append, gOf_one]
    unfold updG
    by_cases e : j = k
    · subst e; simp
    · rw [if_neg e, if_neg (fun h => e h.symm), List.append_nil]
  · rfl
theorem gOf_drop (l : Lg) (k : Int) : gOf (dropL l k) = updG (gOf l) k [] := by
  funext j
  unfold gOf dropL updG
  rw [List.filter_filter]
  split
  · rename_i e; subst e
    rw [List.filter_eq_nil_iff.2 (fun p hp => by simp)]; rfl
  · rename_i e
    congr 1
    refine List.filter_congr fun p hp => ?_
    by_cases h : p.1 = j
    · simp [h, e]
    · simp [h]
theorem lastIx_none {l : Lg} {k : Int} : ∀ {m : Nat}, m ≤ l.length → lastIx l k m = none → gOf (l.take m) k = []
  | 0, _, _ => by simp [gOf]
  | m + 1, hm, h => by
    unfold lastIx at h
    split at h
    · cases h
    · rename_i e
      rw [gOf_take (by omega), if_neg e, List.append_nil]
      exact lastIx_none (by omega) h
theorem lastIx_some {l : Lg} {k : Int} {q : Nat} : ∀ {m : Nat}, m ≤ l.length → lastIx l k m = some q → q < m ∧ (l.getD q default).1 = k ∧ gOf (l.take m) k = gOf (l.take q) k ++ [(l.getD q default).2]
  | 0, _, h => by simp [lastIx] at h
  | m + 1, hm, h => by
    unfold lastIx at h
    split at h
    · rename_i e
      cases h
      refine ⟨by omega, e, ?_⟩
      rw [gOf_take (by omega), if_pos e]
    · rename_i e
      obtain ⟨h1, h2, h3⟩ := lastIx_some (by omega) h
      refine ⟨by omega, h2, ?_⟩
      rw [gOf_take (by omega), if_neg e, List.append_nil, h3]
theorem take_drop_at {l : Lg} {q : Nat} (h : q < l.length) : l = l.take q ++ [l.getD q default] ++ l.drop (q + 1) := by
  rw [← take_snocU default h, List.take_append_drop]
theorem back_all (l : Lg) (k : Int) : gOf (backL l k) = updG (gOf l) k (gOf l k).dropLast ∧ backR l k = (gOf l k).getLastD ⟨0, 0, 0, 0, 0, 0⟩ ∧ (lastIx l k l.length).isSome = !(gOf l k).isEmpty := by
  cases h : lastIx l k l.length with
  | none =>
    have h1 := lastIx_none (Nat.le_refl _) h
    rw [List.take_length] at h1
    have e1 : backL l k = l := by unfold backL; rw [h]
    have e2 : backR l k = ⟨0, 0, 0, 0, 0, 0⟩ := by unfold backR; rw [h]
    rw [e1, e2, h1]
    refine ⟨?_, rfl, rfl⟩
    funext j
    unfold updG
    split
    · rename_i e; rw [e, h1]; rfl
    · rfl
  | some q =>
    obtain ⟨h1, h2, h3⟩ := lastIx_some (Nat.le_refl _) h
    rw [List.take_length] at h3
    have e1 : backL l k = l.take q ++ l.drop (q + 1) := by unfold backL; rw [h]
    have e2 : backR l k = (l.getD q default).2 := by unfold backR; rw [h]
    have hsp : ∀ j, gOf l j = gOf (l.take q) j ++ (if (l.getD q default).1 = j then [(l.getD q default).2] else []) ++ gOf (l.drop (q + 1)) j := fun j => by
      conv => lhs; rw [take_drop_at h1]
      rw [gOf_append, gOf_append, gOf_one]
    have hnil : gOf (l.drop (q + 1)) k = [] := by
      have := hsp k
      rw [if_pos h2, h3] at this
      have := congrArg List.length this
      simp only [List.length_append, List.length_cons, List.length_nil] at this
      exact List.length_eq_zero_iff.1 (by omega)
    refine ⟨?_, ?_, ?_⟩
    · funext j
      rw [e1, gOf_append]
      unfold updG
      split
      · rename_i e
        subst e
        rw [hnil, h3]; simp
      · rename_i e
        rw [hsp j, if_neg (fun h => e (h.symm.trans h2)), List.append_nil]
    · rw [e2, h3]; simp
    · rw [h3]; simp
theorem back_len (l : Lg) (k : Int) : (backL l k).length ≤ l.length := by
  unfold backL
  split
  · exact Nat.le_refl _
  · rw [List.length_append, List.length_take, List.length_drop]; omega
theorem back_mem {l : Lg} {k : Int} {p : Int × Rw} (h : p ∈ backL l k) : p ∈ l := by
  unfold backL at h
  split at h
  · exact h
  · rcases List.mem_append.1 h with h | h
    · exact List.mem_of_mem_take h
    · exact List.mem_of_mem_drop h
theorem lgOk_note {l : Lg} {k : Int} {r : Rw} (h : ∀ p ∈ l, (Lit.int .i64 p.1).wf = true) (hk : (Lit.int .i64 k).wf = true) : ∀ p ∈ noteL l k r, (Lit.int .i64 p.1).wf = true := by
  intro p hp
  unfold noteL at hp
  split at hp
  · rcases List.mem_append.1 hp with hp | hp
    · exact h p hp
    · simp at hp; subst hp; exact hk
  · exact h p hp
end Go.Proofs.Ytehbalkhboedeaa
