/- Rising lists of numbers, and the library's Compact of numbers. -/
import Derived.Test.YtehbalkhboedeaaDelay4
import Derived.Test.YtehbalkhboedeaaEngGr
import Derived.Test.YtehbalkhboedeaaEngGn
import Derived.Test.YtehbalkhboedeaaEngGp
namespace Go.Proofs.Ytehbalkhboedeaa
open Go Go.Eng Go.RowKit
set_option maxRecDepth 100000
set_option maxHeartbeats 4000000
set_option linter.unusedVariables false
set_option linter.unusedSimpArgs false
abbrev Ris (l : List Int) : Prop := l.Pairwise (· < ·)
theorem ris_ext : ∀ {a b : List Int}, Ris a → Ris b → (∀ x, x ∈ a ↔ x ∈ b) → a = b
  | [], [], _, _, _ => rfl
  | [], y :: b, _, _, h => absurd ((h y).2 (by simp)) (by simp)
  | x :: a, [], _, _, h => absurd ((h x).1 (by simp)) (by simp)
  | x :: a, y :: b, ha, hb, h => by
    have ha' := List.pairwise_cons.1 ha
    have hb' := List.pairwise_cons.1 hb
    have e : x = y := by
      rcases List.mem_cons.1 ((h x).1 (by simp)) with e | h1
      · exact e
      · rcases List.mem_cons.1 ((h y).2 (by simp)) with e | h2
        · exact e.symm
        · have h3 := hb'.1 x h1
          have h4 := ha'.1 y h2
          omega
    subst e
    rw [ris_ext ha'.2 hb'.2 fun z => ?_]
    constructor
    · intro hz
      rcases List.mem_cons.1 ((h z).1 (by simp [hz])) with e | h1
      · have := ha'.1 z hz; omega
      · exact h1
    · intro hz
      rcases List.mem_cons.1 ((h z).2 (by simp [hz])) with e | h1
      · have := hb'.1 z hz; omega
      · exact h1
theorem ris_nodup {l : List Int} (h : Ris l) : l.Nodup := h.imp fun h => by omega
theorem ris_of_nodup {l : List Int} (h : l.Nodup) : Ris (sortL l) := by
  have h1 : (sortL l).Nodup := (sort_perm l).nodup_iff.2 h
  have h2 := List.pairwise_and_iff.2 ⟨h1, sort_sorted l⟩
  exact h2.imp fun ⟨a, b⟩ => by omega
theorem sortL_mem (l : List Int) (x : Int) : x ∈ sortL l ↔ x ∈ l := (sort_perm l).mem_iff
def compIAt (l : List Int) : Nat → List Int
  | 0 => []
  | k + 1 => if 1 ≤ k ∧ l.getD k 0 = l.getD (k - 1) 0 then compIAt l k else compIAt l k ++ [l.getD k 0]
def compI (l : List Int) : List Int := compIAt l l.length
theorem take_snocI {l : List Int} {k : Nat} (h : k < l.length) : l.take (k + 1) = l.take k ++ [l.getD k 0] := by
  rw [List.take_add_one, List.getD_eq_getElem?_getD, List.getElem?_eq_getElem h]; rfl
theorem compI_ris (l : List Int) (hs : l.Pairwise (· ≤ ·)) : ∀ k, k ≤ l.length → Ris (compIAt l k) ∧ ∀ x, x ∈ compIAt l k ↔ x ∈ l.take k
  | 0, _ => by simp [compIAt, Ris]
  | k + 1, hk => by
    obtain ⟨h1, h2⟩ := compI_ris l hs k (by omega)
    have hsp : ∀ i j, i < j → j < l.length → l.getD i 0 ≤ l.getD j 0 := fun i j hij hj => pw_get hs (by omega) hj
    have htk : l.take (k + 1) = l.take k ++ [l.getD k 0] := take_snocI (by omega)
    rw [compIAt]
    by_cases hc : 1 ≤ k ∧ l.getD k 0 = l.getD (k - 1) 0
    · rw [if_pos hc]
      refine ⟨h1, fun x => ?_⟩
      rw [h2, htk, List.mem_append, List.mem_singleton]
      refine ⟨.inl, fun h => h.elim id fun e => ?_⟩
      rw [e, hc.2, List.getD_eq_getElem?_getD, List.getElem?_eq_getElem (show k - 1 < l.length by omega)]
      exact List.mem_take_iff_getElem.2 ⟨k - 1, by omega, rfl⟩
    · rw [if_neg hc]
      refine ⟨List.pairwise_append.2 ⟨h1, List.pairwise_singleton _ _, fun x hx y hy => ?_⟩, fun x => ?_⟩
      · rw [List.mem_singleton] at hy
        subst hy
        obtain ⟨j, hj, e⟩ := List.mem_take_iff_getElem.1 ((h2 x).1 hx)
        have hjk : j < k := by omega
        have hxj : x = l.getD j 0 := by rw [List.getD_eq_getElem?_getD, List.getElem?_eq_getElem (show j < l.length by omega)]; exact e.symm
        have h3 := hsp (k - 1) k (by omega) (by omega)
        have h4 : l.getD j 0 ≤ l.getD (k - 1) 0 := pw_get hs (by omega) (by omega)
        have h5 : ¬ l.getD k 0 = l.getD (k - 1) 0 := fun e2 => hc ⟨by omega, e2⟩
        omega
      · rw [List.mem_append, h2, htk, List.mem_append]
def unqI (l : List Int) : List Int := compI (sortL l)
theorem unqI_ris (l : List Int) : Ris (unqI l) := (compI_ris _ (sort_sorted l) _ (Nat.le_refl _)).1
theorem unqI_mem (l : List Int) (x : Int) : x ∈ unqI l ↔ x ∈ l := by
  rw [unqI, compI, (compI_ris _ (sort_sorted l) _ (Nat.le_refl _)).2, List.take_length, sortL_mem]
theorem compIAt_len (l : List Int) : ∀ k, (compIAt l k).length ≤ k
  | 0 => Nat.le_refl _
  | k + 1 => by
    have := compIAt_len l k
    rw [compIAt]
    split
    · omega
    · simp only [List.length_append, List.length_cons, List.length_nil]; omega
theorem unqI_len (l : List Int) : (unqI l).length ≤ l.length := by
  have := compIAt_len (sortL l) (sortL l).length
  have e := sort_len0 l
  show (compIAt (sortL l) (sortL l).length).length ≤ l.length
  omega
theorem unqI_of_ris {l : List Int} (h : Ris l) : unqI l = l := ris_ext (unqI_ris l) h fun x => unqI_mem l x
def InsR (x : Int) (out : List Int) (i : Nat) : Prop := i ≤ out.length ∧ ∀ j, j < i → out.getD j 0 < x
theorem insR_once {x : Int} {out : List Int} {i : Nat} (hi : InsR x out i) (hs : Ris out) (h1 : i < out.length → ¬ out.getD i 0 < x) (h2 : i < out.length → out.getD i 0 ≠ x) : Ris (out.take i ++ x :: out.drop i) := by
  have hg : ∀ j (h : j < out.length), out[j] = out.getD j 0 := fun j h => by rw [List.getD_eq_getElem?_getD, List.getElem?_eq_getElem h]; rfl
  have hlo : ∀ y ∈ out.take i, y < x := fun y hy => by
    obtain ⟨j, hj, e⟩ := List.mem_take_iff_getElem.1 hy
    rw [← e, hg]; exact hi.2 j (by omega)
  have hhi : ∀ y ∈ out.drop i, x < y := fun y hy => by
    obtain ⟨j, hj, e⟩ := List.mem_drop_iff_getElem.1 hy
    have hil : i < out.length := by omega
    have h3 : x < out.getD i 0 := by have := h1 hil; have := h2 hil; omega
    by_cases hj0 : j = 0
    · subst hj0; rw [← e, hg]; simpa using h3
    · have := List.pairwise_iff_getElem.1 hs i (i + j) hil (by omega) (by omega)
      rw [hg] at this
      rw [← e]
      omega
  refine List.pairwise_append.2 ⟨hs.sublist (List.take_sublist ..), List.pairwise_cons.2 ⟨hhi, hs.sublist (List.drop_sublist ..)⟩, fun a ha b hb => ?_⟩
  rcases List.mem_cons.1 hb with rfl | hb
  · exact hlo a ha
  · have := hlo a ha; have := hhi b hb; omega
theorem insR_mem (x : Int) (out : List Int) (i : Nat) (z : Int) : z ∈ out.take i ++ x :: out.drop i ↔ z ∈ out ∨ z = x := by
  conv => rhs; rw [← List.take_append_drop i out]
  simp only [List.mem_append, List.mem_cons]
  constructor
  · rintro (h | h | h)
    · exact .inl (.inl h)
    · exact .inr h
    · exact .inl (.inr h)
  · rintro ((h | h) | h)
    · exact .inl h
    · exact .inr (.inr h)
    · exact .inr (.inl h)
/-- The reference's numbers in order, each once. -/
theorem numbers_fn (l : List Int) (hl : l.length ≤ 1000000) : Eng.Fn Try.prog 61 [.c (intsX l)] (Tells (.c (intsX (unqI l)))) := by
  refine Eng.Fn.ofZ tab_ok Try.func61 (by kernel_rfl) (by kernel_rfl) trivial (fun w0 => ?_)
  conv => whnf
  refine loopl tab_ok (fun (i : Nat × List Int) => i.1 ≤ l.length ∧ i.2.length ≤ i.1 ∧ Ris i.2 ∧ ∀ x, x ∈ i.2 ↔ x ∈ l.take i.1) (fun i => [(3, .c (intsX i.2)), (7, .c (intsX l)), (8, .c (.i .i64 l.length)), (9, .c (.i .i64 i.1))]) (fun i => []) (fun i => l.length - i.1) (0, []) _ rfl ⟨by omega, by simp, List.Pairwise.nil, by simp⟩ ?_ (fun i hi => ?_)
  · refine ⟨?_, ?_, rfl⟩ <;> repeat' (first | exact trivial | exact entV_refl _ | exact nil_ints | rfl | apply And.intro)
  · obtain ⟨k, out⟩ := i
    obtain ⟨hk, hol, hs, hp⟩ := hi
    dsimp only at hk hol hs hp
    conv => whnf
    refine And.intro (fun h1 => ?_) (fun h1 => ?_)
    · have h1 : k < l.length := by simp at h1; omega
      have htk : l.take (k + 1) = l.take k ++ [l.getD k 0] := take_snocI h1
      conv => whnf
      refine ⟨by omega, ?_⟩
      conv => whnf
      generalize hb : l.getD (Int.toNat (k : Int)) 0 = x
      have hb : l.getD k 0 = x := hb
      rw [hb] at htk
      refine loopi tab_ok (fun i => InsR x out i) (fun i => [(3, .c (intsX out)), (5, .c (.i .i64 x)), (6, .c (.i .i64 i)), (7, .c (intsX l)), (8, .c (.i .i64 l.length)), (9, .c (.i .i64 k))]) (fun i => []) (fun i => out.length - i) 0 _ rfl ⟨Nat.zero_le _, fun j h => by omega⟩ ?_ (fun i hi => ?_)
      · refine ⟨?_, ?_, rfl⟩ <;> repeat' (first | exact trivial | exact entV_refl _ | rfl | apply And.intro)
      · have hio := hi.1
        conv => whnf
        refine And.intro (fun h3 => ?_) (fun h3 => ?_)
        · have h3 : i < out.length := by simp at h3; omega
          conv => whnf
          refine ⟨by omega, ?_⟩
          conv => whnf
          refine And.intro (fun h4 => ?_) (fun h4 => ?_)
          · have h4 : out.getD i 0 < x := of_decide_eq_true h4
            conv => whnf
            refine ⟨i + 1, ⟨by omega, fun j hj => ?_⟩, by omega, rfl, ?_⟩
            · by_cases e : j = i
              · rw [e]; exact h4
              · exact hi.2 j (by omega)
            refine ⟨?_, ?_, rfl⟩ <;> repeat' (first | exact trivial | exact entV_refl _ | exact wrap_succ (by omega) | rfl | apply And.intro)
          · have h4 : ¬ out.getD i 0 < x := of_decide_eq_false h4
            conv => whnf
            refine And.intro (fun g1 => absurd h3 (by simp at g1; omega)) (fun g1 => ?_)
            conv => whnf
            refine ⟨by omega, ?_⟩
            conv => whnf
            refine And.intro (fun g2 => ?_) (fun g2 => ?_)
            · have g2 : ¬ out.getD i 0 = x := by simpa using g2
              conv => whnf
              refine drawx_plan tab_ok [] (.take 0 (.take 1 (.take 2 (.take 3 (.take 4 (.take 6 (.take 7 (.take 8 (.one 5 (.one 9 (.one 10 (.take 11 .done)))))))))))) (by kernel_rfl) (by kernel_rfl) (by kernel_rfl) ?_
              conv => whnf
              refine ⟨by omega, ?_⟩
              conv => whnf
              refine ⟨by omega, ?_⟩
              conv => whnf
              rw [rowsOf_drop]
              refine ⟨by simp only [List.length_map, List.length_drop, List.length_cons, List.length_nil]; omega, ?_⟩
              conv => whnf
              rw [rowsOf_take out i hio]
              refine And.intro (fun h => absurd h (by simp)) (fun _ => ⟨by simp only [List.length_map, List.length_drop, List.length_cons, List.length_nil, List.length_append, List.length_take]; omega, ?_⟩)
              conv => whnf
              refine labx_gh (.frz 1) ?_
              conv => whnf
              refine labx_go ⟨(k + 1, out.take i ++ x :: out.drop i), ⟨by dsimp only; omega, by simp only [List.length_append, List.length_cons, List.length_take, List.length_drop]; omega, insR_once hi hs (fun _ => h4) (fun _ => g2), fun z => ?_⟩, by dsimp only; omega, rfl, ?_⟩
              · dsimp only
                rw [insR_mem, hp, htk, List.mem_append, List.mem_singleton]
              refine ⟨?_, ?_, rfl⟩ <;> repeat' (first | exact trivial | exact entV_refl _ | exact wrap_succ (by omega) | exact ints_ent (by simp) | rfl | apply And.intro)
            · have g2 : out.getD i 0 = x := by simpa using g2
              conv => whnf
              refine labx_go ⟨(k + 1, out), ⟨by dsimp only; omega, by dsimp only; omega, hs, fun z => ?_⟩, by dsimp only; omega, rfl, ?_⟩
              · dsimp only
                rw [htk, List.mem_append, List.mem_singleton, ← hp]
                refine ⟨.inl, fun h => h.elim id fun e => ?_⟩
                rw [e, ← g2, List.getD_eq_getElem?_getD, List.getElem?_eq_getElem h3]
                exact List.getElem_mem h3
              refine ⟨?_, ?_, rfl⟩ <;> repeat' (first | exact trivial | exact entV_refl _ | exact wrap_succ (by omega) | rfl | apply And.intro)
        · have h3 : i = out.length := by simp at h3; omega
          conv => whnf
          refine And.intro (fun g1 => ?_) (fun g1 => absurd h3 (by simp at g1; omega))
          conv => whnf
          refine drawx_plan tab_ok [] (.take 0 (.take 1 (.take 2 (.take 3 (.take 4 (.take 6 (.take 7 (.take 8 (.one 5 (.one 9 (.one 10 (.take 11 .done)))))))))))) (by kernel_rfl) (by kernel_rfl) (by kernel_rfl) ?_
          conv => whnf
          refine ⟨by omega, ?_⟩
          conv => whnf
          refine ⟨by omega, ?_⟩
          conv => whnf
          rw [rowsOf_drop]
          refine ⟨by simp only [List.length_map, List.length_drop, List.length_cons, List.length_nil]; omega, ?_⟩
          conv => whnf
          rw [rowsOf_take out i hio]
          refine And.intro (fun h => absurd h (by simp)) (fun _ => ⟨by simp only [List.length_map, List.length_drop, List.length_cons, List.length_nil, List.length_append, List.length_take]; omega, ?_⟩)
          conv => whnf
          refine labx_gh (.frz 1) ?_
          conv => whnf
          refine labx_go ⟨(k + 1, out.take i ++ x :: out.drop i), ⟨by dsimp only; omega, by simp only [List.length_append, List.length_cons, List.length_take, List.length_drop]; omega, insR_once hi hs (fun h => by omega) (fun h => by omega), fun z => ?_⟩, by dsimp only; omega, rfl, ?_⟩
          · dsimp only
            rw [insR_mem, hp, htk, List.mem_append, List.mem_singleton]
          refine ⟨?_, ?_, rfl⟩ <;> repeat' (first | exact trivial | exact entV_refl _ | exact wrap_succ (by omega) | exact ints_ent (by simp) | rfl | apply And.intro)
    · have h1 : k = l.length := by simp at h1; omega
      subst h1
      conv => whnf
      have e : out = unqI l := ris_ext hs (unqI_ris l) fun x => by rw [hp, unqI_mem, List.take_length]
      subst e
      exact entV_refl (.c (intsX (unqI l)))
/-- Whether a number is in a list. -/
theorem has_fn (l : List Int) (x : Int) (hl : l.length ≤ 1000000) : Eng.Fn Try.prog 27 [.c (intsX l), .c (.i .i64 x)] (Tells (.c (.b (decide (x ∈ l))))) := by
  refine Eng.Fn.of tab_ok Try.func27 (by kernel_rfl) (by kernel_rfl) (fun w0 => ?_)
  conv => whnf
  refine loopi tab_ok (fun k => k ≤ l.length ∧ ∀ j, j < k → l.getD j 0 ≠ x) (fun k => [(1, .c (.i .i64 x)), (7, .c (intsX l)), (8, .c (.i .i64 l.length)), (9, .c (.i .i64 k))]) (fun k => []) (fun k => l.length - k) 0 _ rfl ⟨Nat.zero_le _, fun j h => by omega⟩ ?_ (fun k hk => ?_)
  · refine ⟨?_, ?_, rfl⟩ <;> repeat' (first | exact trivial | exact entV_refl _ | rfl | apply And.intro)
  · obtain ⟨hk, hall⟩ := hk
    conv => whnf
    refine And.intro (fun h2 => ?_) (fun h2 => ?_)
    · have h2 : k < l.length := by simp at h2; omega
      conv => whnf
      refine ⟨by omega, ?_⟩
      conv => whnf
      refine And.intro (fun h3 => ?_) (fun h3 => ?_)
      · have h3 : l.getD k 0 = x := by simpa using h3
        conv => whnf
        have : x ∈ l := by rw [← h3, List.getD_eq_getElem?_getD, List.getElem?_eq_getElem h2]; exact List.getElem_mem h2
        simp [this]
      · have h3 : ¬ l.getD k 0 = x := by simpa using h3
        conv => whnf
        refine ⟨k + 1, ⟨by omega, fun j hj => ?_⟩, by omega, rfl, ?_⟩
        · by_cases e : j = k
          · rw [e]; exact h3
          · exact hall j (by omega)
        refine ⟨?_, ?_, rfl⟩ <;> repeat' (first | exact trivial | exact entV_refl _ | exact wrap_succ (by omega) | rfl | apply And.intro)
    · have h2 : k = l.length := by simp at h2; omega
      subst h2
      conv => whnf
      have : x ∉ l := fun hx => by
        obtain ⟨j, hj, e⟩ := List.mem_iff_getElem.1 hx
        refine hall j hj ?_
        rw [List.getD_eq_getElem?_getD, List.getElem?_eq_getElem hj]; exact e
      simp [this]
end Go.Proofs.Ytehbalkhboedeaa
