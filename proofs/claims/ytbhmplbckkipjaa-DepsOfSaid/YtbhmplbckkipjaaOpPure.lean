/- Bytes of operations: what is put is told again. Plain laws. -/
import Derived.Test.YtbhmplbckkipjaaOpOf
import Derived.Test.YtbhmplbckkipjaaOpPut
namespace Go.Proofs.Ytbhmplbckkipjaa
open Go Go.Eng Go.RowKit
set_option maxRecDepth 100000
set_option maxHeartbeats 4000000
set_option linter.unusedVariables false
set_option linter.unusedSimpArgs false
theorem take_at8 (l : List Int) : ∀ (n : Nat), n ≤ l.length → l.take n = (List.range n).map (at8 l)
  | 0, _ => by simp
  | n + 1, h => by
    rw [List.range_succ, List.map_append, ← take_at8 l n (by omega), take_succ_snoc 0 _ _ (by omega)]
    rfl
theorem put_opOf {l : List Int} (hb : Bytes l) (hg : Good l) : putB (opOf l) = l.take (sizeI l).toNat := by
  obtain ⟨hne, hsz, hok⟩ := hg
  have hn := hok.nums.1
  rw [take_at8 l _ (by omega), putB, if_pos hok]
  have hn' : (opOf l).p.n = dpI l := rfl
  have hk' : (opOf l).k = kdI l := rfl
  have b0 := hb 0
  have h0 : kdI l * 8 + dpI l = at8 l 0 := by unfold kdI dpI; omega
  have hb2 : ∀ i, be2 l i / 256 = at8 l i ∧ be2 l i % 256 = at8 l (i + 1) := fun i => by
    have := hb i; have := hb (i + 1); unfold be2; omega
  have hb4 : ∀ i, be4 l i / 16777216 = at8 l i ∧ be4 l i / 65536 % 256 = at8 l (i + 1) ∧ be4 l i / 256 % 256 = at8 l (i + 2) ∧ be4 l i % 256 = at8 l (i + 3) := fun i => by
    have := hb i; have := hb (i + 1); have := hb (i + 2); have := hb (i + 3); unfold be4; omega
  rw [hn', hk', h0]
  rw [hn'] at hn
  unfold sizeI
  simp only [opOf]
  generalize dpI l = D at hn
  by_cases h4 : kdI l = 4
  · rcases hn with rfl | rfl | rfl | rfl | rfl <;> simp [h4, hb2, hb4, List.range_succ]
  · rcases hn with rfl | rfl | rfl | rfl | rfl <;> simp [h4, hb2, List.range_succ]
theorem ofR_put {o : Opr} (ho : OkP o) (b : List Int) : ofR (putB o ++ b) = (o, ((putB o).length : Int), 0) := by
  have hnums := ho.nums
  have e : opOf (putB o ++ b) = o ∧ sizeI (putB o ++ b) = (putB o).length := by
    obtain ⟨hn, hk, ha, hb', hc, hd, hv⟩ := hnums
    have hz : (1 ≤ o.p.n ∨ o.p.a = 0) ∧ (2 ≤ o.p.n ∨ o.p.b = 0) ∧ (3 ≤ o.p.n ∨ o.p.c = 0) ∧ (4 ≤ o.p.n ∨ o.p.d = 0) ∧ (o.k = 4 ∨ o.v = 0) := by
      unfold OkP MayP at ho; omega
    rw [putB, if_pos ho]
    obtain ⟨k, ⟨a, b2, c, d, n⟩, v⟩ := o
    dsimp only at *
    have hdp : ∀ r, dpI ((k * 8 + n) :: r) = n := fun r => by show (k * 8 + n) % 8 = n; omega
    have hkd : ∀ r, kdI ((k * 8 + n) :: r) = k := fun r => by show (k * 8 + n) / 8 = k; omega
    simp only [List.cons_append, opOf, sizeI, hdp, hkd, Opr.eq_iff, Pth.eq_iff]
    clear hdp hkd ho
    by_cases h4 : k = 4
    · rcases hn with rfl | rfl | rfl | rfl | rfl <;> simp [h4, be2, be4, at8] <;> omega
    · rcases hn with rfl | rfl | rfl | rfl | rfl <;> simp [h4, be2, be4, at8] <;> omega
  have hg : Good (putB o ++ b) := by
    refine ⟨?_, ?_, by rw [e.1]; exact ho⟩
    · rw [putB, if_pos ho]; simp
    · rw [e.2]; simp only [List.length_append]; omega
  rw [ofR, if_pos hg, e.1, e.2]
end Go.Proofs.Ytbhmplbckkipjaa
