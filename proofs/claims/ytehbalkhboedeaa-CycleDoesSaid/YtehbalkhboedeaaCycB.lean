/- Rings by rows of ways: plain laws. -/
import Derived.Test.YtehbalkhboedeaaCyc7
namespace Go.Proofs.Ytehbalkhboedeaa
open Go Go.Eng Go.RowKit
set_option maxRecDepth 100000
set_option linter.unusedVariables false
set_option linter.unusedSimpArgs false
def lastI (r : List Int) : Int := r.getLastD 0
def extR (l : List Eg) (r : List Int) : List (List Int) := ((fromL l (lastI r)).filter fun y => !decide (y ∈ r)).map fun y => r ++ [y]
def rowsF (l : List Eg) : Nat → List (List Int) → List (List Int)
  | 0, R => R
  | k + 1, R => rowsF l k (R.flatMap (extR l))
def rowsL (l : List Eg) (a : Int) (k : Nat) : List (List Int) := rowsF l k [[a]]
theorem rowsF_flat (l : List Eg) : ∀ (k : Nat) (R : List (List Int)), rowsF l k R = R.flatMap fun r => rowsF l k [r]
  | 0, R => by
    show R = R.flatMap fun r => [r]
    induction R with
    | nil => rfl
    | cons r R ih => rw [List.flatMap_cons, ← ih]; rfl
  | k + 1, R => by
    rw [rowsF, rowsF_flat l k, List.flatMap_assoc]
    congr 1
    funext r
    show _ = rowsF l k ([r].flatMap (extR l))
    rw [rowsF_flat l k ([r].flatMap (extR l))]
    simp
theorem rowsF_succ (l : List Eg) : ∀ (k : Nat) (R : List (List Int)), rowsF l (k + 1) R = (rowsF l k R).flatMap (extR l)
  | 0, R => rfl
  | k + 1, R => by rw [rowsF, rowsF_succ l k, rowsF]
theorem rowsL_succ (l : List Eg) (a : Int) (k : Nat) : rowsL l a (k + 1) = (rowsL l a k).flatMap (extR l) := rowsF_succ l k _
/-- A way from a, each once. -/
structure Way (l : List Eg) (a : Int) (k : Nat) (r : List Int) : Prop where
  len : r.length = k + 1
  nd : r.Nodup
  st : St l k a (lastI r)
  hd : r.head? = some a
theorem lastI_snoc (r : List Int) (y : Int) : lastI (r ++ [y]) = y := by simp [lastI, List.getLastD_eq_getLast?]
theorem way_ext {l : List Eg} {a : Int} {k : Nat} {r s : List Int} (h : Way l a k r) (hs : s ∈ extR l r) : Way l a (k + 1) s := by
  obtain ⟨y, hy, rfl⟩ := List.mem_map.1 hs
  obtain ⟨h1, h2⟩ := List.mem_filter.1 hy
  have h2 : y ∉ r := by simpa using h2
  refine ⟨by simp [h.len], List.nodup_append.2 ⟨h.nd, by simp, by simp; exact fun z hz e => h2 (e ▸ hz)⟩, ?_, ?_⟩
  · rw [lastI_snoc]
    exact h.st.trans (n := 1) ⟨y, (from_mem l _ _).1 h1, rfl⟩
  · have := h.hd
    rcases r with _ | ⟨z, r⟩
    · simp at this
    · simpa using this
theorem rows_way {l : List Eg} {a : Int} : ∀ k, ∀ r ∈ rowsL l a k, Way l a k r
  | 0, r, hr => by
    have : r = [a] := by simpa [rowsL, rowsF] using hr
    subst this
    exact ⟨rfl, by simp, rfl, rfl⟩
  | k + 1, r, hr => by
    rw [rowsL_succ] at hr
    obtain ⟨s, hs, hr⟩ := List.mem_flatMap.1 hr
    exact way_ext (rows_way k s hs) hr
/-- The way leads back at once. -/
def closes (l : List Eg) (a : Int) (r : List Int) : Bool := decide (a ∈ fromL l (lastI r))
theorem no_close {l : List Eg} {a : Int} {L k : Nat} (hD : Ds l a L a) (hk : k + 1 < L) : ∀ r ∈ rowsL l a k, closes l a r = false := by
  intro r hr
  have h := rows_way k r hr
  unfold closes
  rw [decide_eq_false_iff_not, from_mem]
  intro e
  exact hD.2.2 (k + 1) (by omega) hk (h.st.trans (n := 1) ⟨a, e, rfl⟩)
theorem find_hd {α : Type} {p q : α → Bool} : ∀ {m : List α}, (∀ x ∈ m, p x = q x) → m.find? p = m.find? q
  | [], _ => rfl
  | a :: m, h => by rw [List.find?_cons, List.find?_cons, h a (by simp), find_hd fun x hx => h x (by simp [hx])]
theorem find_flat {α β : Type} {f : α → List β} {p : α → Bool} {q : β → Bool} : ∀ {m : List α}, (∀ x ∈ m, p x = false → (f x).find? q = none) → (∀ x, m.find? p = some x → ((f x).find? q).isSome = true) →
    (m.flatMap f).find? q = (m.find? p).bind fun x => (f x).find? q
  | [], _, _ => rfl
  | a :: m, h1, h2 => by
    rw [List.flatMap_cons, List.find?_append, List.find?_cons]
    cases hp : p a with
    | true =>
      have := h2 a (by rw [List.find?_cons, hp])
      cases hq : (f a).find? q with
      | some y => simp [hq]
      | none => rw [hq] at this; cases this
    | false =>
      rw [h1 a (by simp) hp]
      rw [find_flat (m := m) (fun x hx => h1 x (by simp [hx])) (fun x hx => h2 x (by rw [List.find?_cons, hp]; exact hx))]
      simp
theorem rows_best {l : List Eg} {a : Int} {L : Nat} (hD : Ds l a L a) : ∀ k, k < L → (rowsL l a k).find? (fun r => decide (dN l a (lastI r) = L - k)) = some (gP l a L k)
  | 0, _ => by
    show [[a]].find? _ = some [a]
    have : dN l a (lastI [a]) = L - 0 := dN_eq hD
    rw [List.find?_cons, decide_eq_true this]
  | k + 1, hk => by
    have ih := rows_best hD k (by omega)
    obtain ⟨x, hi, hlen⟩ := gP_inv hD k (by omega)
    obtain ⟨y, hy⟩ := hi.next_ex hD (by omega)
    rw [hlen] at hy
    obtain ⟨h3, h4, h5⟩ := nxtF_spec (by omega) hy
    have hlast : lastI (gP l a L k) = x := by rw [lastI, List.getLastD_eq_getLast?, hi.ne]; rfl
    have hnext : gP l a L k ++ [y] = gP l a L (k + 1) := gP_step rfl hi.ne hy
    -- among what comes behind the best way the best one is the least that leads on
    have hbest : (extR l (gP l a L k)).find? (fun r => decide (dN l a (lastI r) = L - (k + 1))) = some (gP l a L (k + 1)) := by
      unfold extR
      rw [List.find?_map, List.find?_filter, hlast]
      have : (fromL l x).find? (fun z => decide ((!decide (z ∈ gP l a L k)) = true ∧ ((fun r => decide (dN l a (lastI r) = L - (k + 1))) ∘ fun y => gP l a L k ++ [y]) z = true)) = some y := by
        rw [← hy]
        unfold nxtF
        refine find_hd fun z hz => ?_
        simp only [Function.comp_apply, lastI_snoc]
        rw [Bool.eq_iff_iff]
        simp only [Bool.and_eq_true, Bool.not_eq_true', decide_eq_false_iff_not, decide_eq_true_eq]
        constructor
        · rintro ⟨g1, g2⟩
          refine ⟨fun e => g1 ?_, g2⟩
          subst e
          have := hi.hd
          rcases hg : gP l z L k with _ | ⟨w, m⟩
          · rw [hg] at this; simp at this
          · rw [hg] at this
            have : w = z := by simpa using this
            rw [this]; simp
        · rintro ⟨g1, g2⟩
          refine ⟨fun g3 => ?_, g2⟩
          obtain ⟨i, hi2, e⟩ := List.mem_iff_getElem.1 g3
          have d1 := hi.fst i hi2
          rw [e] at d1
          have d2 := dN_eq d1
          rw [hlen] at hi2
          omega
      rw [this, ← hnext]; rfl
    rw [rowsL_succ, find_flat (p := fun r => decide (dN l a (lastI r) = L - k)), ih]
    · exact hbest
    · intro r hr hp
      have hw := rows_way k r hr
      refine List.find?_eq_none.2 fun s hs => ?_
      obtain ⟨z, hz, rfl⟩ := List.mem_map.1 hs
      have hz := (from_mem l _ _).1 (List.mem_filter.1 hz).1
      rw [lastI_snoc]
      intro h6
      have hdz : Ds l a (L - (k + 1)) z := dN_of (by omega) (of_decide_eq_true h6)
      have hrc : Rc l (lastI r) a := .head hz (ds_rc hdz)
      have hdr := dN_ds hrc
      have h7 := ds_step hdr hdz hz
      have h8 : L ≤ k + dN l a (lastI r) := ds_le hD (by have := hdr.1; omega) (hw.st.trans hdr.2.1)
      have : ¬ dN l a (lastI r) = L - k := of_decide_eq_false hp
      omega
    · intro r hr
      rw [ih] at hr
      obtain rfl : gP l a L k = r := by simpa using hr
      rw [hbest]; rfl
theorem rows_close {l : List Eg} {a : Int} {L : Nat} (hD : Ds l a L a) : (rowsL l a (L - 1)).find? (closes l a) = some (gP l a L (L - 1)) := by
  have hL := hD.1
  rw [← rows_best hD (L - 1) (by omega)]
  refine find_hd fun r hr => ?_
  unfold closes
  rw [decide_eq_decide, from_mem, show L - (L - 1) = 1 by omega]
  constructor
  · intro e
    exact dN_eq ⟨by omega, ⟨a, e, rfl⟩, fun j h1 h2 => by omega⟩
  · intro e
    exact ds_one (dN_of (by omega) e)
/-! ### how many there are -/
theorem pow_le : ∀ d : Nat, d * 2 ^ d ≤ 3 ^ d
  | 0 => by simp
  | 1 => by simp
  | 2 => by simp
  | d + 3 => by
    have ih := pow_le (d + 2)
    have p2 : 2 ^ (d + 3) = 2 ^ (d + 2) * 2 := Nat.pow_succ _ _
    have p3 : 3 ^ (d + 3) = 3 ^ (d + 2) * 3 := Nat.pow_succ _ _
    rw [p2, p3, show d + 3 = d + 2 + 1 by omega]
    rw [show d + 2 + 1 = d + 2 + 1 from rfl]
    have h1 : (d + 2 + 1) * (2 ^ (d + 2) * 2) = (2 * (d + 3)) * 2 ^ (d + 2) := by
      rw [Nat.mul_comm (2 ^ (d + 2)) 2, ← Nat.mul_assoc]; congr 1; omega
    have h2 : (2 * (d + 3)) * 2 ^ (d + 2) ≤ (3 * (d + 2)) * 2 ^ (d + 2) := Nat.mul_le_mul_right _ (by omega)
    have h3 : (3 * (d + 2)) * 2 ^ (d + 2) = 3 * ((d + 2) * 2 ^ (d + 2)) := Nat.mul_assoc ..
    have h4 : 3 * ((d + 2) * 2 ^ (d + 2)) ≤ 3 * 3 ^ (d + 2) := Nat.mul_le_mul_left _ ih
    omega
/-- Edges that begin at none of these. -/
def freeN (l : List Eg) (r : List Int) : Nat := (l.filter fun e => !decide (e.fr ∈ r)).length
theorem free_snoc {l : List Eg} {r : List Int} {x : Int} (h : x ∉ r) : freeN l r = freeN l (r ++ [x]) + (l.filter fun e => e.fr == x).length := by
  unfold freeN
  induction l with
  | nil => rfl
  | cons e l ih =>
    simp only [List.filter_cons]
    by_cases h1 : e.fr = x
    · have h2 : e.fr ∉ r := h1 ▸ h
      simp [h1, h, ih]; omega
    · by_cases h2 : e.fr ∈ r
      · simp [h1, h2, ih]
      · simp [h1, h2, ih]; omega
theorem from_deg (l : List Eg) (x : Int) : (fromL l x).length ≤ (l.filter fun e => e.fr == x).length := by
  have h : ∀ y ∈ fromL l x, y ∈ (l.filter fun e => e.fr == x).map (·.to) := fun y hy => by
    refine List.mem_map.2 ⟨⟨x, y⟩, List.mem_filter.2 ⟨(from_mem l x y).1 hy, by simp⟩, rfl⟩
  have := nodup_le (ris_nodup (from_ris l x)) h
  simpa using this
theorem sum_le {f : List Int → List (List Int)} {B : Nat} : ∀ (R : List (List Int)), (∀ r ∈ R, (f r).length * B ≤ 0 ∨ True) → True := fun _ _ => trivial
theorem flat_len {f : List Int → List (List Int)} {c B : Nat} : ∀ {R : List (List Int)}, (∀ r ∈ R, (f r).length * c ≤ B) → (R.flatMap f).length * c ≤ R.length * B
  | [], _ => by simp
  | r :: R, h => by
    have h1 := h r (by simp)
    have h2 := flat_len (R := R) fun s hs => h s (by simp [hs])
    rw [List.flatMap_cons, List.length_append, Nat.add_mul, List.length_cons, Nat.add_mul, Nat.one_mul]
    omega
theorem ext_bound (l : List Eg) : ∀ (k : Nat) (r : List Int), r.Nodup → r ≠ [] → (rowsF l k [r]).length * 2 ^ freeN l r.dropLast ≤ 3 ^ freeN l r.dropLast
  | 0, r, _, _ => by
    show 1 * _ ≤ _
    rw [Nat.one_mul]
    exact Nat.pow_le_pow_left (by omega) _
  | k + 1, r, hnd, hne => by
    have hr : r = r.dropLast ++ [lastI r] := by
      rw [lastI, List.getLastD_eq_getLast?, List.getLast?_eq_some_getLast hne]
      exact (List.dropLast_concat_getLast hne).symm
    have hx : lastI r ∉ r.dropLast := by
      intro h
      rw [hr] at hnd
      exact (List.nodup_append.1 hnd).2.2 _ h _ (by simp) rfl
    have hfree := free_snoc (l := l) hx
    rw [← hr] at hfree
    have hdeg := from_deg l (lastI r)
    generalize hd : (l.filter fun e => e.fr == lastI r).length = d at *
    have e1 : rowsF l (k + 1) [r] = (extR l r).flatMap fun s => rowsF l k [s] := by
      rw [rowsF, rowsF_flat]; simp
    rw [e1, hfree]
    have hB : ∀ s ∈ extR l r, (rowsF l k [s]).length * 2 ^ freeN l r ≤ 3 ^ freeN l r := fun s hs => by
      obtain ⟨y, hy, rfl⟩ := List.mem_map.1 hs
      have hyr : y ∉ r := by simpa using (List.mem_filter.1 hy).2
      have := ext_bound l k (r ++ [y]) (List.nodup_append.2 ⟨hnd, by simp, by simp; exact fun z hz e => hyr (e ▸ hz)⟩) (by simp)
      rwa [List.dropLast_concat] at this
    have h1 := flat_len hB
    have hlen : (extR l r).length ≤ d := by
      unfold extR
      rw [List.length_map]
      exact Nat.le_trans (List.length_filter_le _ _) hdeg
    have h2 : (extR l r).length * 3 ^ freeN l r ≤ d * 3 ^ freeN l r := Nat.mul_le_mul_right _ hlen
    rw [Nat.pow_add, Nat.pow_add, ← Nat.mul_assoc]
    refine Nat.le_trans (Nat.mul_le_mul_right _ (Nat.le_trans h1 h2)) ?_
    rw [Nat.mul_comm d, Nat.mul_assoc]
    exact Nat.mul_le_mul_left _ (pow_le d)
theorem rows_bound {l : List Eg} (hl : l.length ≤ 14) (a : Int) (k : Nat) : (rowsL l a k).length ≤ 291 := by
  have h := ext_bound l k [a] (by simp) (by simp)
  have hf : freeN l [a].dropLast ≤ 14 := Nat.le_trans (List.length_filter_le _ _) hl
  show (rowsF l k [[a]]).length ≤ 291
  generalize (rowsF l k [[a]]).length = n at *
  generalize freeN l [a].dropLast = m at *
  rcases Nat.lt_or_ge 291 n with h1 | h1
  · exfalso
    have h2 : 292 * 2 ^ m ≤ 3 ^ m := Nat.le_trans (Nat.mul_le_mul_right _ h1) h
    have : m = 0 ∨ m = 1 ∨ m = 2 ∨ m = 3 ∨ m = 4 ∨ m = 5 ∨ m = 6 ∨ m = 7 ∨ m = 8 ∨ m = 9 ∨ m = 10 ∨ m = 11 ∨ m = 12 ∨ m = 13 ∨ m = 14 := by omega
    rcases this with rfl | rfl | rfl | rfl | rfl | rfl | rfl | rfl | rfl | rfl | rfl | rfl | rfl | rfl | rfl <;> simp at h2
  · exact h1
end Go.Proofs.Ytehbalkhboedeaa
