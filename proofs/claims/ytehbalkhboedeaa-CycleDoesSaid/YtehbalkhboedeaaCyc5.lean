/- Ways of so many steps, and the ring that is told: plain laws. -/
import Derived.Test.YtehbalkhboedeaaCyc4
namespace Go.Proofs.Ytehbalkhboedeaa
open Go Go.Eng Go.RowKit
set_option maxRecDepth 100000
set_option linter.unusedVariables false
set_option linter.unusedSimpArgs false
/-- A way of so many steps. -/
def St (l : List Eg) : Nat → Int → Int → Prop
  | 0, x, y => x = y
  | n + 1, x, y => ∃ z, (⟨x, z⟩ : Eg) ∈ l ∧ St l n z y
theorem St.trans {l : List Eg} : ∀ {m n : Nat} {x y z : Int}, St l m x y → St l n y z → St l (m + n) x z
  | 0, n, x, y, z, h, k => by
    have h : x = y := h
    subst h
    rw [Nat.zero_add]; exact k
  | m + 1, n, x, y, z, ⟨w, h1, h2⟩, k => by
    rw [show m + 1 + n = (m + n) + 1 by omega]
    exact ⟨w, h1, h2.trans k⟩
theorem St.rc {l : List Eg} : ∀ {n : Nat} {x y : Int}, St l (n + 1) x y → Rc l x y
  | 0, x, y, ⟨z, h1, h2⟩ => by
    have h2 : z = y := h2
    subst h2; exact .one h1
  | n + 1, x, y, ⟨z, h1, h2⟩ => .head h1 (St.rc h2)
theorem Rc.st {l : List Eg} {x y : Int} (h : Rc l x y) : ∃ n, St l (n + 1) x y := by
  induction h with
  | one h => exact ⟨0, _, h, rfl⟩
  | more _ h ih =>
    obtain ⟨n, hn⟩ := ih
    exact ⟨n + 1, hn.trans (n := 1) ⟨_, h, rfl⟩⟩
/-- The fewest steps from x to a, by one at least. -/
def Ds (l : List Eg) (a : Int) (n : Nat) (x : Int) : Prop := 1 ≤ n ∧ St l n x a ∧ ∀ j, 1 ≤ j → j < n → ¬ St l j x a
theorem ds_ex {l : List Eg} {a x : Int} (h : Rc l x a) : ∃ n, Ds l a n x := by
  obtain ⟨n, hn⟩ := h.st
  have key : ∀ m, St l (m + 1) x a → ∃ n, Ds l a n x := by
    intro m
    induction m using Nat.strongRecOn with
    | _ m ih =>
      intro hm
      by_cases hj : ∃ j, j < m ∧ St l (j + 1) x a
      · obtain ⟨j, h1, h2⟩ := hj; exact ih j h1 h2
      · exact ⟨m + 1, by omega, hm, fun j h1 h2 h3 => hj ⟨j - 1, by omega, by rwa [show j - 1 + 1 = j by omega]⟩⟩
  exact key n hn
theorem ds_uniq {l : List Eg} {a x : Int} {m n : Nat} (h : Ds l a m x) (k : Ds l a n x) : m = n := by
  rcases Nat.lt_trichotomy m n with h1 | h1 | h1
  · exact absurd h.2.1 (k.2.2 m h.1 h1)
  · exact h1
  · exact absurd k.2.1 (h.2.2 n k.1 h1)
theorem ds_le {l : List Eg} {a x : Int} {m n : Nat} (h : Ds l a m x) (h1 : 1 ≤ n) (k : St l n x a) : m ≤ n := by
  rcases Nat.lt_or_ge n m with h2 | h2
  · exact absurd k (h.2.2 n h1 h2)
  · exact h2
theorem ds_rc {l : List Eg} {a x : Int} {n : Nat} (h : Ds l a n x) : Rc l x a := by
  obtain ⟨h1, h2, _⟩ := h
  obtain ⟨m, rfl⟩ : ∃ m, n = m + 1 := ⟨n - 1, by omega⟩
  exact St.rc h2
/-- One step on. -/
theorem ds_next {l : List Eg} {a x : Int} {n : Nat} (hn : 1 ≤ n) (h : Ds l a (n + 1) x) : ∃ y, (⟨x, y⟩ : Eg) ∈ l ∧ Ds l a n y := by
  obtain ⟨_, ⟨y, h1, h2⟩, h3⟩ := h
  exact ⟨y, h1, hn, h2, fun j hj1 hj2 hs => h3 (j + 1) (by omega) (by omega) ⟨y, h1, hs⟩⟩
theorem ds_one {l : List Eg} {a x : Int} (h : Ds l a 1 x) : (⟨x, a⟩ : Eg) ∈ l := by
  obtain ⟨_, ⟨y, h1, h2⟩, _⟩ := h
  have h2 : y = a := h2
  rwa [h2] at h1
theorem ds_step {l : List Eg} {a x y : Int} {m n : Nat} (hx : Ds l a m x) (hy : Ds l a n y) (h : (⟨x, y⟩ : Eg) ∈ l) : m ≤ n + 1 := ds_le hx (by omega) ⟨y, h, hy.2.1⟩
open Classical in
noncomputable def dN (l : List Eg) (a x : Int) : Nat := if h : ∃ n, Ds l a n x then h.choose else 0
theorem dN_ds {l : List Eg} {a x : Int} (h : Rc l x a) : Ds l a (dN l a x) x := by
  have := ds_ex h
  unfold dN
  rw [dif_pos this]
  exact this.choose_spec
theorem dN_eq {l : List Eg} {a x : Int} {n : Nat} (h : Ds l a n x) : dN l a x = n := ds_uniq (dN_ds (ds_rc h)) h
theorem dN_of {l : List Eg} {a x : Int} {n : Nat} (hn : 1 ≤ n) (h : dN l a x = n) : Ds l a n x := by
  by_cases hx : ∃ n, Ds l a n x
  · obtain ⟨m, hm⟩ := hx
    rw [dN_eq hm] at h; subst h; exact hm
  · unfold dN at h; rw [dif_neg hx] at h; omega
/-! ### the ring, by the least that leads on -/
/-- Who comes behind x, where k have been told. -/
noncomputable def nxtF (l : List Eg) (a : Int) (L k : Nat) (x : Int) : Option Int := (fromL l x).find? fun y => decide (y ≠ a) && decide (dN l a y = L - k)
noncomputable def gP (l : List Eg) (a : Int) (L : Nat) : Nat → List Int
  | 0 => [a]
  | k + 1 => match nxtF l a L (k + 1) ((gP l a L k).getLastD 0) with
    | some y => gP l a L k ++ [y]
    | none => gP l a L k
/-- What is known of it after k steps. -/
structure GInv (l : List Eg) (a : Int) (L : Nat) (p : List Int) (x : Int) : Prop where
  ne : p.getLast? = some x
  hd : p.head? = some a
  len : p.length ≤ L
  ds : Ds l a (L - (p.length - 1)) x
  fst : ∀ i, (h : i < p.length) → Ds l a (L - i) p[i]
  edge : ∀ i, (h : i + 1 < p.length) → (⟨p[i], p[i + 1]⟩ : Eg) ∈ l
theorem GInv.start {l : List Eg} {a : Int} {L : Nat} (h : Ds l a L a) : GInv l a L [a] a :=
  ⟨rfl, rfl, h.1, by simpa using h, fun i hi => by
    obtain rfl : i = 0 := by simpa using hi
    simpa using h, fun i hi => by simp at hi⟩
theorem GInv.pos {l : List Eg} {a : Int} {L : Nat} {p : List Int} {x : Int} (h : GInv l a L p x) : 0 < p.length := by
  rcases p with _ | ⟨y, p⟩
  · have := h.hd; simp at this
  · simp
theorem GInv.next_ex {l : List Eg} {a : Int} {L : Nat} {p : List Int} {x : Int} (h : GInv l a L p x) (ha : Ds l a L a) (hk : p.length < L) : ∃ y, nxtF l a L p.length x = some y := by
  have hp := h.pos
  have h1 : Ds l a ((L - p.length) + 1) x := by
    have := h.ds
    rwa [show L - (p.length - 1) = (L - p.length) + 1 by omega] at this
  obtain ⟨y, hy, hd⟩ := ds_next (by omega) h1
  cases hf : nxtF l a L p.length x with
  | some z => exact ⟨z, rfl⟩
  | none =>
    exfalso
    have := List.find?_eq_none.1 hf y ((from_mem l x y).2 hy)
    have hya : y ≠ a := fun e => by
      subst e
      have := ds_uniq hd ha; omega
    rw [dN_eq hd] at this
    simp [hya] at this
theorem nxtF_spec {l : List Eg} {a : Int} {L k : Nat} {x y : Int} (hk : k < L) (h : nxtF l a L k x = some y) : (⟨x, y⟩ : Eg) ∈ l ∧ y ≠ a ∧ Ds l a (L - k) y := by
  have h1 := List.mem_of_find?_eq_some h
  have h2 := List.find?_some h
  simp only [Bool.and_eq_true, decide_eq_true_eq] at h2
  exact ⟨(from_mem l x y).1 h1, h2.1, dN_of (by omega) h2.2⟩
theorem GInv.next {l : List Eg} {a : Int} {L : Nat} {p : List Int} {x y : Int} (h : GInv l a L p x) (hk : p.length < L) (hy : (⟨x, y⟩ : Eg) ∈ l) (hd : Ds l a (L - p.length) y) : GInv l a L (p ++ [y]) y := by
  have hp := h.pos
  have hlast : p[p.length - 1]'(by omega) = x := by
    have := h.ne
    rw [List.getLast?_eq_getElem?, List.getElem?_eq_getElem (by omega)] at this
    simpa using this
  refine ⟨by simp, ?_, by simp; omega, by simpa using hd, fun i hi => ?_, fun i hi => ?_⟩
  · have := h.hd
    rcases p with _ | ⟨z, p⟩
    · simp at this
    · simpa using this
  · by_cases e : i < p.length
    · rw [List.getElem_append_left e]; exact h.fst i e
    · have : i = p.length := by simp at hi; omega
      subst this
      simpa using hd
  · have hi : i + 1 < p.length + 1 := by simpa using hi
    by_cases e : i + 1 < p.length
    · rw [List.getElem_append_left e, List.getElem_append_left (by omega)]; exact h.edge i e
    · have e2 : i = p.length - 1 := by omega
      subst e2
      rw [List.getElem_append_left (by omega), List.getElem_append_right (by omega), hlast]
      simpa using hy
theorem gP_inv {l : List Eg} {a : Int} {L : Nat} (ha : Ds l a L a) : ∀ k, k < L → ∃ x, GInv l a L (gP l a L k) x ∧ (gP l a L k).length = k + 1
  | 0, _ => ⟨a, GInv.start ha, rfl⟩
  | k + 1, hk => by
    obtain ⟨x, h, hlen⟩ := gP_inv ha k (by omega)
    obtain ⟨y, hy⟩ := h.next_ex ha (by omega)
    rw [hlen] at hy
    have hx : (gP l a L k).getLastD 0 = x := by rw [List.getLastD_eq_getLast?, h.ne]; rfl
    have e : gP l a L (k + 1) = gP l a L k ++ [y] := by rw [gP, hx, hy]
    obtain ⟨h1, h2, h3⟩ := nxtF_spec (by omega) hy
    rw [e]
    refine ⟨y, h.next (by omega) h1 (by rw [hlen]; exact h3), by simp [hlen]⟩
noncomputable def findL (l : List Eg) : List Int := match onL l with
  | [] => []
  | a :: _ => gP l a (dN l a a) (dN l a a - 1)
/-- What the ring is. -/
structure Ring (l : List Eg) (p : List Int) (a : Int) : Prop where
  hd : p.head? = some a
  edge : ∀ i, (h : i + 1 < p.length) → (⟨p[i], p[i + 1]⟩ : Eg) ∈ l
  back : ∀ x, p.getLast? = some x → (⟨x, a⟩ : Eg) ∈ l
  once : p.Nodup
theorem find_ring {l : List Eg} {a : Int} {r : List Int} (h : onL l = a :: r) : Ring l (findL l) a := by
  have hon : Rc l a a := (on_mem l a).1 (by rw [h]; simp)
  have ha := dN_ds hon
  have hL := ha.1
  obtain ⟨x, hi, hlen⟩ := gP_inv ha (dN l a a - 1) (by omega)
  have e : findL l = gP l a (dN l a a) (dN l a a - 1) := by rw [findL, h]
  rw [e]
  refine ⟨hi.hd, hi.edge, fun y hy => ?_, ?_⟩
  · rw [hi.ne] at hy
    obtain rfl : x = y := by simpa using hy
    have := hi.ds
    rw [hlen, show dN l a a - (dN l a a - 1 + 1 - 1) = 1 by omega] at this
    exact ds_one this
  · refine List.pairwise_iff_getElem.2 fun i j h1 h2 hij e2 => ?_
    have d1 := hi.fst i h1
    have d2 := hi.fst j h2
    rw [e2] at d1
    have := ds_uniq d1 d2
    omega
theorem Ring.reach {l : List Eg} {p : List Int} {a : Int} (h : Ring l p a) (hne : p ≠ []) : ∀ i, (hi : i < p.length) → Rc l p[i] p[i] := by
  have hp : 0 < p.length := List.length_pos_iff.2 hne
  have h0 : p[0] = a := by
    have := h.hd
    rw [List.head?_eq_getElem?, List.getElem?_eq_getElem hp] at this
    simpa using this
  have hup : ∀ i, (hi : i < p.length) → ∀ j, (hj : j < p.length) → i < j → Rc l p[i] p[j] := fun i hi j => by
    induction j with
    | zero => intro _ h; omega
    | succ j ih =>
      intro hj hij
      by_cases e : i = j
      · subst e; exact .one (h.edge i hj)
      · exact .more (ih (by omega) (by omega)) (h.edge j hj)
  have hlast : p.getLast? = some p[p.length - 1] := by rw [List.getLast?_eq_getElem?, List.getElem?_eq_getElem (by omega)]
  have hback := h.back _ hlast
  have hend : ∀ i, (hi : i < p.length) → Rc l p[i] a := fun i hi => by
    by_cases e : i = p.length - 1
    · subst e; exact .one hback
    · exact .more (hup i hi (p.length - 1) (by omega) (by omega)) hback
  intro i hi
  by_cases e : i = 0
  · subst e
    have := hend 0 hi
    rwa [← h0] at this
  · refine (hend i hi).trans ?_
    rw [← h0]
    exact hup 0 hp i hi (by omega)
theorem find_on {l : List Eg} {x : Int} (h : x ∈ findL l) : x ∈ onL l := by
  cases ho : onL l with
  | nil => rw [findL, ho] at h; simp at h
  | cons a r =>
    have hr := find_ring ho
    obtain ⟨i, hi, rfl⟩ := List.mem_iff_getElem.1 h
    rw [← ho]
    exact (on_mem l _).2 (hr.reach (List.ne_nil_of_length_pos (by omega)) i hi)
end Go.Proofs.Ytehbalkhboedeaa
