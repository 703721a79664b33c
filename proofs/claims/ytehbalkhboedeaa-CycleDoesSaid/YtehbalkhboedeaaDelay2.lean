/- How long answers took: of a row of replies, the slowest, a sum. -/
import Derived.Test.YtehbalkhboedeaaDelay
namespace Go.Proofs.Ytehbalkhboedeaa
open Go Go.Eng Go.RowKit
set_option maxRecDepth 100000
set_option maxHeartbeats 4000000
set_option linter.unusedVariables false
set_option linter.unusedSimpArgs false
structure Rp where
  c0 : Int
  c1 : Int
  c2 : Int
  c3 : Int
  c4 : Int
  c5 : Int
  c6 : Int
  c7 : Int
  c8 : Int
  c9 : Int
  c10 : Int
  rows : List Rw
  fr : Int
  to : Int
instance : Inhabited Rp := ⟨⟨0, 0, 0, 0, 0, 0, 0, 0, 0, 0, 0, [], 0, 0⟩⟩
def encRp (r : Rp) : List XC := [.i .i64 r.c0, .i .i64 r.c1, .i .i64 r.c2, .i .i64 r.c3, .i .i64 r.c4, .i .i64 r.c5, .i .i64 r.c6, .i .i64 r.c7, .i .i64 r.c8, .i .i64 r.c9, .i .i64 r.c10, rowX encR default 6 r.rows, .i .i64 r.fr, .i .i64 r.to]
abbrev rpsX (l : List Rp) : XC := rowX encRp default 14 l
def subI (r : Rp) : Int := IntKind.i64.wrap ((if 0 > r.to then 0 else r.to) - if 0 > r.fr then 0 else r.fr)
def oneI (r : Rp) : Int := if 0 > subI r then 0 else subI r
theorem one_pos (r : Rp) : 0 ≤ oneI r := by unfold oneI; split <;> omega
theorem take_snoc {α : Type} (d : α) {l : List α} {k : Nat} (h : k < l.length) : l.take (k + 1) = l.take k ++ [l.getD k d] := by
  rw [List.take_add_one, List.getD_eq_getElem?_getD, List.getElem?_eq_getElem h]
  rfl
def slowAt (l : List Rp) : Nat → Nat × Bool
  | 0 => (0, false)
  | k + 1 => if (slowAt l k).2 = false ∨ oneI (l.getD k default) > oneI (l.getD (slowAt l k).1 default) then (k, true) else slowAt l k
theorem slowAt_ok (l : List Rp) : ∀ k, (k = 0 ∧ slowAt l k = (0, false)) ∨ (0 < k ∧ (slowAt l k).2 = true ∧ (slowAt l k).1 < k ∧ ∀ j, j < k → oneI (l.getD j default) ≤ oneI (l.getD (slowAt l k).1 default))
  | 0 => .inl ⟨rfl, rfl⟩
  | k + 1 => by
    refine .inr ⟨Nat.succ_pos _, ?_⟩
    have ih := slowAt_ok l k
    by_cases h : (slowAt l k).2 = false ∨ oneI (l.getD k default) > oneI (l.getD (slowAt l k).1 default)
    · have e : slowAt l (k + 1) = (k, true) := by rw [slowAt, if_pos h]
      rw [e]
      refine ⟨rfl, Nat.lt_succ_self _, fun j hj => ?_⟩
      by_cases hjk : j = k
      · rw [hjk]; exact Int.le_refl _
      · rcases ih with ⟨h0, _⟩ | ⟨_, h2, _, h4⟩
        · omega
        · rcases h with h | h
          · rw [h2] at h; cases h
          · have := h4 j (by omega)
            dsimp only
            omega
    · have e : slowAt l (k + 1) = slowAt l k := by rw [slowAt, if_neg h]
      rw [e]
      rcases ih with ⟨h0, h1⟩ | ⟨_, h2, h3, h4⟩
      · exact absurd (.inl (by rw [h1])) h
      · refine ⟨h2, by omega, fun j hj => ?_⟩
        by_cases hjk : j = k
        · rw [hjk]
          by_cases h5 : oneI (l.getD k default) > oneI (l.getD (slowAt l k).1 default)
          · exact absurd (.inr h5) h
          · omega
        · exact h4 j (by omega)
theorem drop_cons2 {α : Type} (d : α) {l : List α} {k : Nat} (h : k < l.length) : l.drop k = l.getD k d :: l.drop (k + 1) := by
  rw [List.drop_eq_getElem_cons h, List.getD_eq_getElem?_getD, List.getElem?_eq_getElem h]
  rfl
def sumGo : List Int → Int → Int × Bool
  | [], a => (a, true)
  | n :: l, a => if n < 0 ∨ n > 1125899906842624 - a then (0, false) else sumGo l (a + n)
def sumAt (l : List Int) : Nat → Int
  | 0 => 0
  | k + 1 => sumAt l k + l.getD k 0
theorem sumGo_app (l : List Int) (x : Int) : ∀ a, sumGo (l ++ [x]) a = if (sumGo l a).2 = true then (if x < 0 ∨ x > 1125899906842624 - (sumGo l a).1 then (0, false) else ((sumGo l a).1 + x, true)) else (0, false) := by
  induction l with
  | nil => intro a; simp [sumGo]
  | cons n l ih =>
    intro a
    simp only [List.cons_append, sumGo]
    split
    · simp
    · exact ih _
theorem sumGo_rng (l : List Int) : ∀ a, 0 ≤ a → a ≤ 1125899906842624 → 0 ≤ (sumGo l a).1 ∧ (sumGo l a).1 ≤ 1125899906842624 := by
  induction l with
  | nil => intro a h1 h2; exact ⟨h1, h2⟩
  | cons n l ih =>
    intro a h1 h2
    simp only [sumGo]
    split
    · exact ⟨by decide, by decide⟩
    · exact ih _ (by omega) (by omega)
theorem rowsOf_ints (l : List Int) : rowsOf l.length 1 (fun i _ => XC.i .i64 (l.getD i 0)) = l.map fun n => [XC.i .i64 n] := by
  apply List.ext_getElem
  · simp [rowsOf]
  · intro i h1 h2
    have hi : i < l.length := by simpa using h2
    simp [rowsOf, List.getD, hi]
theorem tupSt (a : Int) (b : Bool) : stX (.t [.c (.i .i64 a), .c (.b b)]) := by
  intro x hx
  simp only [List.mem_cons, List.not_mem_nil, or_false] at hx
  rcases hx with rfl | rfl <;> trivial
theorem map_getD (rs : List Rp) {j : Nat} (h : j < rs.length) : (rs.map oneI).getD j 0 = oneI (rs.getD j default) := by
  simp [List.getD, h]
theorem slow_facts (rs : List Rp) : (rs.length = 0 ∧ slowAt rs rs.length = (0, false)) ∨ (0 < rs.length ∧ (slowAt rs rs.length).2 = true ∧ (slowAt rs rs.length).1 < (rs.map oneI).length ∧ ∀ j, j < (rs.map oneI).length → 0 ≤ (rs.map oneI).getD j 0 ∧ (rs.map oneI).getD j 0 ≤ (rs.map oneI).getD (slowAt rs rs.length).1 0) := by
  rcases slowAt_ok rs rs.length with h | ⟨h1, h2, h3, h4⟩
  · exact .inl h
  · refine .inr ⟨h1, h2, by simpa using h3, fun j hj => ?_⟩
    have hj : j < rs.length := by simpa using hj
    rw [map_getD rs hj, map_getD rs h3]
    exact ⟨one_pos _, h4 j hj⟩
abbrev shRp : List Sh := [.int .i64, .int .i64, .int .i64, .int .i64, .int .i64, .int .i64, .int .i64, .int .i64, .int .i64, .int .i64, .int .i64, .sl 6 shR, .int .i64, .int .i64]
theorem fit_rp {f : Nat → XC} (h : fitF shRp f 0) : ∃ r : Rp, ∀ j, j < 14 → entC (f j) (nthC (encRp r) j) := by
  obtain ⟨⟨n0, e0⟩, h⟩ := fitF_int h
  obtain ⟨⟨n1, e1⟩, h⟩ := fitF_int h
  obtain ⟨⟨n2, e2⟩, h⟩ := fitF_int h
  obtain ⟨⟨n3, e3⟩, h⟩ := fitF_int h
  obtain ⟨⟨n4, e4⟩, h⟩ := fitF_int h
  obtain ⟨⟨n5, e5⟩, h⟩ := fitF_int h
  obtain ⟨⟨n6, e6⟩, h⟩ := fitF_int h
  obtain ⟨⟨n7, e7⟩, h⟩ := fitF_int h
  obtain ⟨⟨n8, e8⟩, h⟩ := fitF_int h
  obtain ⟨⟨n9, e9⟩, h⟩ := fitF_int h
  obtain ⟨⟨n10, e10⟩, h⟩ := fitF_int h
  obtain ⟨⟨n, g, e11, hg⟩, h⟩ := fitF_sl h
  obtain ⟨⟨n12, e12⟩, h⟩ := fitF_int h
  obtain ⟨⟨n13, e13⟩, h⟩ := fitF_int h
  obtain ⟨l, hl, hrow⟩ := rows_ex (enc := encR) default (z := 6) fun i hi => fit_rw (hg i hi)
  refine ⟨⟨n0, n1, n2, n3, n4, n5, n6, n7, n8, n9, n10, l, n12, n13⟩, fun j hj => ?_⟩
  match j, hj with
  | 0, _ => exact entC_of_eq e0
  | 1, _ => exact entC_of_eq e1
  | 2, _ => exact entC_of_eq e2
  | 3, _ => exact entC_of_eq e3
  | 4, _ => exact entC_of_eq e4
  | 5, _ => exact entC_of_eq e5
  | 6, _ => exact entC_of_eq e6
  | 7, _ => exact entC_of_eq e7
  | 8, _ => exact entC_of_eq e8
  | 9, _ => exact entC_of_eq e9
  | 10, _ => exact entC_of_eq e10
  | 11, _ => rw [e11]; exact hrow
  | 12, _ => exact entC_of_eq e12
  | 13, _ => exact entC_of_eq e13
end Go.Proofs.Ytehbalkhboedeaa
