/- Who is reached from whom, by edges: plain laws. -/
import Derived.Test.YtehbalkhboedeaaCyc1
namespace Go.Proofs.Ytehbalkhboedeaa
open Go Go.Eng Go.RowKit
set_option maxRecDepth 100000
set_option linter.unusedVariables false
set_option linter.unusedSimpArgs false
def fromL (l : List Eg) (a : Int) : List Int := ((unqE l).filter fun e => e.fr == a).map fun e => e.to
theorem from_mem (l : List Eg) (a y : Int) : y ∈ fromL l a ↔ (⟨a, y⟩ : Eg) ∈ l := by
  simp only [fromL, List.mem_map, List.mem_filter, unq_mem, beq_iff_eq]
  constructor
  · rintro ⟨e, ⟨h1, h2⟩, h3⟩
    have : e = ⟨a, y⟩ := Eg.eq_iff.2 ⟨h2, h3⟩
    rwa [this] at h1
  · intro h; exact ⟨_, ⟨h, rfl⟩, rfl⟩
theorem from_ris (l : List Eg) (a : Int) : Ris (fromL l a) := by
  refine List.pairwise_map.2 (((unq_once l).sublist List.filter_sublist).imp_of_mem fun {x y} hx hy h => ?_)
  have h1 : x.fr = a := by simpa using (List.mem_filter.1 hx).2
  have h2 : y.fr = a := by simpa using (List.mem_filter.1 hy).2
  simp [ltE] at h; omega
theorem nodes_mem (l : List Eg) (x : Int) : x ∈ nodesL l ↔ ∃ e ∈ l, x = e.fr ∨ x = e.to := by rw [nodesL, unqI_mem, ends_mem]
theorem nodes_ris (l : List Eg) : Ris (nodesL l) := unqI_ris _
/-- Reached by one step at least. -/
inductive Rc (l : List Eg) (a : Int) : Int → Prop where
  | one {b : Int} : (⟨a, b⟩ : Eg) ∈ l → Rc l a b
  | more {b c : Int} : Rc l a b → (⟨b, c⟩ : Eg) ∈ l → Rc l a c
theorem Rc.trans {l : List Eg} {a b c : Int} (h : Rc l a b) (k : Rc l b c) : Rc l a c := by
  induction k with
  | one k => exact .more h k
  | more _ k ih => exact .more ih k
theorem Rc.head {l : List Eg} {a b c : Int} (h : (⟨a, b⟩ : Eg) ∈ l) (k : Rc l b c) : Rc l a c := (Rc.one h).trans k
theorem Rc.to_node {l : List Eg} {a x : Int} (h : Rc l a x) : x ∈ nodesL l := by
  cases h with
  | one h => exact (nodes_mem l x).2 ⟨_, h, .inr rfl⟩
  | more _ h => exact (nodes_mem l x).2 ⟨_, h, .inr rfl⟩
theorem Rc.fr_node {l : List Eg} {a x : Int} (h : Rc l a x) : a ∈ nodesL l := by
  induction h with
  | one h => exact (nodes_mem l a).2 ⟨_, h, .inl rfl⟩
  | more _ _ ih => exact ih
open Classical in
noncomputable def reachL (l : List Eg) (a : Int) : List Int := (nodesL l).filter fun x => decide (Rc l a x)
theorem reach_mem (l : List Eg) (a x : Int) : x ∈ reachL l a ↔ Rc l a x := by
  simp only [reachL, List.mem_filter, decide_eq_true_eq]
  exact ⟨fun h => h.2, fun h => ⟨h.to_node, h⟩⟩
theorem reach_ris (l : List Eg) (a : Int) : Ris (reachL l a) := (nodes_ris l).sublist List.filter_sublist
theorem reach_len (l : List Eg) (a : Int) : (reachL l a).length ≤ 2 * l.length := Nat.le_trans (List.length_filter_le _ _) (nodes_len l)
theorem reach_of {l : List Eg} {a : Int} {dom : List Int} (hn : dom.Nodup) (h : ∀ x, x ∈ dom ↔ Rc l a x) : sortL dom = reachL l a :=
  ris_ext (ris_of_nodup hn) (reach_ris l a) fun x => by rw [sortL_mem, h, reach_mem]
open Classical in
noncomputable def onL (l : List Eg) : List Int := (nodesL l).filter fun x => decide (x ∈ reachL l x)
theorem on_mem (l : List Eg) (x : Int) : x ∈ onL l ↔ Rc l x x := by
  simp only [onL, List.mem_filter, decide_eq_true_eq, reach_mem]
  exact ⟨fun h => h.2, fun h => ⟨h.to_node, h⟩⟩
theorem on_ris (l : List Eg) : Ris (onL l) := (nodes_ris l).sublist List.filter_sublist
theorem on_len (l : List Eg) : (onL l).length ≤ 2 * l.length := Nat.le_trans (List.length_filter_le _ _) (nodes_len l)
/-! ### how many -/
theorem nodup_le : ∀ {s t : List Int}, s.Nodup → (∀ x ∈ s, x ∈ t) → s.length ≤ t.length
  | [], t, _, _ => Nat.zero_le _
  | a :: s, t, hn, h => by
    have ha := h a (by simp)
    have h1 := List.nodup_cons.1 hn
    have h2 := nodup_le (s := s) (t := t.erase a) h1.2 fun x hx => (List.mem_erase_of_ne (show x ≠ a from fun e => h1.1 (by rw [← e]; exact hx))).2 (h x (by simp [hx]))
    rw [List.length_erase_of_mem ha] at h2
    have : 0 < t.length := List.length_pos_of_mem ha
    simp only [List.length_cons]; omega
theorem nodup_lt {s t : List Int} {y : Int} (hn : s.Nodup) (h : ∀ x ∈ s, x ∈ t) (h1 : y ∈ t) (h2 : y ∉ s) : s.length < t.length := by
  have := nodup_le (s := y :: s) (t := t) (List.nodup_cons.2 ⟨h2, hn⟩) (fun x hx => by
    rcases List.mem_cons.1 hx with rfl | hx
    · exact h1
    · exact h x hx)
  simp only [List.length_cons] at this
  omega
theorem from_len (l : List Eg) (a : Int) : (fromL l a).length ≤ l.length := by
  have h : ∀ x ∈ fromL l a, x ∈ l.map (·.to) := fun x hx => List.mem_map.2 ⟨_, (from_mem l a x).1 hx, rfl⟩
  have := nodup_le (ris_nodup (from_ris l a)) h
  simpa using this
/-! ### the reference's way: as often as there are edges, one step more -/
def moreL (l : List Eg) (out : List Int) : List Int := unqI (out ++ out.flatMap (fromL l))
def rIt (l : List Eg) (a : Int) : Nat → List Int
  | 0 => fromL l a
  | k + 1 => moreL l (rIt l a k)
theorem rIt_ris (l : List Eg) (a : Int) : ∀ k, Ris (rIt l a k)
  | 0 => from_ris l a
  | k + 1 => unqI_ris _
theorem rIt_succ (l : List Eg) (a : Int) (k : Nat) (x : Int) : x ∈ rIt l a (k + 1) ↔ x ∈ rIt l a k ∨ ∃ y ∈ rIt l a k, (⟨y, x⟩ : Eg) ∈ l := by
  rw [rIt, moreL, unqI_mem, List.mem_append, List.mem_flatMap]
  simp only [from_mem]
theorem rIt_rc (l : List Eg) (a : Int) : ∀ k x, x ∈ rIt l a k → Rc l a x
  | 0, x, h => .one ((from_mem l a x).1 h)
  | k + 1, x, h => by
    rcases (rIt_succ l a k x).1 h with h | ⟨y, h, e⟩
    · exact rIt_rc l a k x h
    · exact .more (rIt_rc l a k y h) e
theorem rIt_mono (l : List Eg) (a : Int) {x : Int} {j k : Nat} (hjk : j ≤ k) (h : x ∈ rIt l a j) : x ∈ rIt l a k := by
  induction k with
  | zero => obtain rfl : j = 0 := by omega
            exact h
  | succ k ih =>
    by_cases e : j = k + 1
    · rw [← e]; exact h
    · exact (rIt_succ l a k x).2 (.inl (ih (by omega)))
theorem rIt_len (l : List Eg) (a : Int) (k : Nat) : (rIt l a k).length ≤ l.length := by
  have h : ∀ x ∈ rIt l a k, x ∈ l.map (·.to) := fun x hx => by
    have := rIt_rc l a k x hx
    cases this with
    | one h => exact List.mem_map.2 ⟨_, h, rfl⟩
    | more _ h => exact List.mem_map.2 ⟨_, h, rfl⟩
  have := nodup_le (ris_nodup (rIt_ris l a k)) h
  simpa using this
theorem rIt_grows (l : List Eg) (a : Int) : ∀ k, (∃ j, j ≤ k ∧ ∀ x, x ∈ rIt l a (j + 1) → x ∈ rIt l a j) ∨ k + 1 ≤ (rIt l a k).length
  | 0 => by
    rcases Nat.eq_zero_or_pos (rIt l a 0).length with h | h
    · refine .inl ⟨0, Nat.le_refl _, fun x hx => ?_⟩
      have h0 : rIt l a 0 = [] := List.length_eq_zero_iff.1 h
      rcases (rIt_succ l a 0 x).1 hx with h1 | ⟨y, h1, _⟩
      · exact h1
      · rw [h0] at h1; simp at h1
    · exact .inr h
  | k + 1 => by
    rcases rIt_grows l a k with ⟨j, hj, h⟩ | h
    · exact .inl ⟨j, by omega, h⟩
    · by_cases hs : ∀ x, x ∈ rIt l a (k + 1) → x ∈ rIt l a k
      · exact .inl ⟨k, by omega, hs⟩
      · obtain ⟨x, hx⟩ := Classical.not_forall.1 hs
        obtain ⟨h1, h2⟩ := Classical.not_imp.1 hx
        have := nodup_lt (ris_nodup (rIt_ris l a k)) (fun y hy => rIt_mono l a (Nat.le_add_right k 1) hy) h1 h2
        exact .inr (by omega)
theorem rIt_all (l : List Eg) (a : Int) : rIt l a l.length = reachL l a := by
  refine ris_ext (rIt_ris l a _) (reach_ris l a) fun x => ⟨fun h => (reach_mem l a x).2 (rIt_rc l a _ x h), fun h0 => ?_⟩
  have h := (reach_mem l a x).1 h0
  clear h0
  rcases rIt_grows l a l.length with ⟨j, hj, hs⟩ | h2
  · refine rIt_mono l a hj ?_
    induction h with
    | one h => exact rIt_mono l a (Nat.zero_le j) ((from_mem l a _).2 h)
    | more _ e ih => exact hs _ ((rIt_succ l a j _).2 (.inr ⟨_, ih, e⟩))
  · have := rIt_len l a l.length; omega
/-! ### the order -/
def pickO (l : List Eg) (left : List Int) : Option Int := left.find? fun x => (fromL l x).all fun y => decide (y ∉ left)
def ordG (l : List Eg) : Nat → List Int → List Int → List Int × Bool
  | 0, left, out => (out, true)
  | n + 1, left, out => match pickO l left with
    | some x => ordG l n (left.erase x) (out ++ [x])
    | none => ([], false)
def ordL (l : List Eg) : List Int × Bool := ordG l (nodesL l).length (nodesL l) []
theorem pick_some {l : List Eg} {left : List Int} {x : Int} (h : pickO l left = some x) : x ∈ left ∧ ∀ y, (⟨x, y⟩ : Eg) ∈ l → y ∉ left := by
  refine ⟨List.mem_of_find?_eq_some h, fun y hy => ?_⟩
  have := List.find?_some h
  have := List.all_eq_true.1 this y ((from_mem l x y).2 hy)
  simpa using this
theorem pick_none {l : List Eg} {left : List Int} (h : pickO l left = none) : ∀ x ∈ left, ∃ y ∈ left, (⟨x, y⟩ : Eg) ∈ l := by
  intro x hx
  have := List.find?_eq_none.1 h x hx
  simp only [List.all_eq_true, Classical.not_forall] at this
  obtain ⟨y, hy, h2⟩ := this
  exact ⟨y, by simpa using h2, (from_mem l x y).1 hy⟩
/-- Where each has somebody to go on to, somebody is on a ring. -/
theorem ring_of_sinkless {l : List Eg} {left : List Int} (hne : left ≠ []) (hsucc : ∀ x ∈ left, ∃ y ∈ left, (⟨x, y⟩ : Eg) ∈ l) : ∃ x, Rc l x x := by
  -- a way of any length, all of whose earlier ones reach the later ones
  have key : ∀ n, (∃ x, Rc l x x) ∨ ∃ p : List Int, p.length = n + 1 ∧ (∀ x ∈ p, x ∈ left) ∧ p.Pairwise (fun a b => Rc l b a ∧ a ≠ b) := by
    intro n
    induction n with
    | zero =>
      match left, hne with
      | a :: r, _ => exact .inr ⟨[a], rfl, by simp, List.pairwise_singleton _ _⟩
    | succ n ih =>
      rcases ih with h | ⟨p, hp, hin, hpw⟩
      · exact .inl h
      · match p, hp with
        | a :: r, hp =>
          obtain ⟨y, hy, hay⟩ := hsucc a (hin a (by simp))
          have hreach : ∀ b ∈ a :: r, Rc l b y := fun b hb => by
            rcases List.mem_cons.1 hb with rfl | hb
            · exact .one hay
            · exact .more ((List.pairwise_cons.1 hpw).1 b hb).1 hay
          by_cases hyp : y ∈ a :: r
          · exact .inl ⟨y, hreach y hyp⟩
          · refine .inr ⟨y :: a :: r, by simp only [List.length_cons] at hp ⊢; omega, fun x hx => ?_, List.pairwise_cons.2 ⟨fun b hb => ⟨hreach b hb, fun e => hyp (e ▸ hb)⟩, hpw⟩⟩
            rcases List.mem_cons.1 hx with rfl | hx
            · exact hy
            · exact hin x hx
  rcases key left.length with h | ⟨p, hp, hin, hpw⟩
  · exact h
  · have hnd : p.Nodup := hpw.imp fun h => h.2
    have := nodup_le hnd hin
    omega
end Go.Proofs.Ytehbalkhboedeaa
