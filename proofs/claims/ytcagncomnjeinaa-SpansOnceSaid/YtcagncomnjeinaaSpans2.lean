/- Spans: who has which lock at a moment; no transaction has one lock twice. -/
import Derived.Test.YtcagncomnjeinaaSpans
import Derived.Test.YtcagncomnjeinaaEngZ
namespace Go.Proofs.Ytcagncomnjeinaa
open Go Go.Eng Go.RowKit
set_option maxRecDepth 100000
set_option maxHeartbeats 4000000
set_option linter.unusedVariables false
set_option linter.unusedSimpArgs false
def spAtL (l : List Sp) (i : Int) : List Sp := l.filter (spAtB · i)
theorem spAtL_fn (l : List Sp) (i : Int) (hl : l.length ≤ 1000000) : Eng.Fn Try.prog 25 [.c (spansX l), .c (.i .i64 i)] (Tells (.c (spansX (spAtL l i)))) := by
  refine Eng.Fn.ofZ tab_ok Try.func25 (by kernel_rfl) (by kernel_rfl) trivial (fun w0 => ?_)
  conv => whnf
  refine loopx_nil 5 36 9 rfl ?_
  conv => whnf
  refine loopi tab_ok (fun k => k ≤ l.length) (fun k => [(0, .c (spansX l)), (1, .c (.i .i64 i)), (5, .c (.ow 0)), (8, .c (spansX l)), (9, .c (.i .i64 l.length)), (10, .c (.i .i64 k))])
    (fun k => [.row 36 9 ((spAtL (l.take k) i).map encS)]) (fun k => l.length - k) 0 23 rfl (Nat.zero_le _) ?_ (fun k hk => ?_)
  · refine ⟨?_, ?_, rfl⟩ <;> repeat' (first | exact trivial | exact entV_refl _ | apply And.intro)
    all_goals rfl
  · conv => whnf
    refine And.intro (fun h1 => ?_) (fun h1 => ?_)
    · conv => whnf
      simp only [decide_eq_true_eq] at h1
      have h2 : k < l.length := by omega
      have hf : (spAtL (l.take k) i).length ≤ k := Nat.le_trans (List.length_filter_le _ _) (by simp; omega)
      have hs : spAtL (l.take (k + 1)) i = spAtL (l.take k) i ++ (if spAtB (l.getD k default) i then [l.getD k default] else []) := by
        rw [spAtL, take_succ_snoc default _ _ h2, List.filter_append]
        simp [spAtL, List.filter_cons]
      refine ⟨by omega, ?_⟩
      conv => whnf
      generalize he : l.getD (Int.toNat (k : Int)) default = e
      have he : l.getD k default = e := he
      rw [he] at hs
      refine callx_tells (spAt_fn e i) rfl trivial ?_
      conv => whnf
      refine And.intro (fun h3 => ?_) (fun h3 => ?_)
      · conv => whnf
        refine ⟨by simp only [List.length_map, List.length_cons, List.length_nil]; omega, ?_⟩
        conv => whnf
        rw [if_pos h3] at hs
        refine ⟨k + 1, by omega, by omega, rfl, ?_⟩
        rw [hs]
        refine ⟨?_, ?_, rfl⟩ <;> repeat' (first | exact trivial | exact entV_refl _ | apply And.intro)
        all_goals try first
          | rfl
          | exact wrap_succ (by omega)
        rw [List.map_append]
        refine entLL_append (entLL_refl _) ?_
        repeat' (first | exact trivial | exact ⟨rfl, rfl⟩ | exact entC_refl _ | apply And.intro)
      · conv => whnf
        rw [if_neg (by rw [h3]; decide), List.append_nil] at hs
        refine ⟨k + 1, by omega, by omega, rfl, ?_⟩
        rw [hs]
        refine ⟨?_, ?_, rfl⟩ <;> repeat' (first | exact trivial | exact entV_refl _ | exact entLL_refl _ | apply And.intro)
        all_goals first
          | rfl
          | exact wrap_succ (by omega)
    · conv => whnf
      simp only [decide_eq_false_iff_not] at h1
      have e : k = l.length := by omega
      subst e
      rw [List.take_length]
      exact row_ent rfl
/-! The plain law. -/
theorem gset {α : Type} (d : α) (l : List α) (i j : Nat) (v : α) (hi : i < l.length) : (l.set i v).getD j d = if j = i then v else l.getD j d := by
  rw [List.getD_eq_getElem?_getD, List.getElem?_set]
  by_cases h : i = j
  · subst h; simp [hi]
  · rw [if_neg h, if_neg (fun h' => h h'.symm), List.getD_eq_getElem?_getD]
theorem gsnoc {α : Type} (d : α) (l : List α) (j : Nat) (v : α) (hj : j < (l ++ [v]).length) : (l ++ [v]).getD j d = if j < l.length then l.getD j d else v := by
  rw [List.getD_eq_getElem?_getD]
  by_cases h : j < l.length
  · rw [if_pos h, List.getElem?_append_left h, List.getD_eq_getElem?_getD]
  · rw [if_neg h]
    simp at hj
    have : j = l.length := by omega
    subst this; simp
def SpanOk (l : List Ev) (k : Nat) (s : Sp) : Prop :=
  ∃ f : Nat, s.fr = f ∧ f < k ∧ (s.to = -1 ∨ (s.fr < s.to ∧ s.to < k)) ∧ (l.getD f default).tx = s.tx ∧ (l.getD f default).p = s.p ∧ (l.getD f default).mode = s.mode
abbrev kyS (s : Sp) : List Int := kyOf s.tx s.p
structure SI (l : List Ev) (k : Nat) (out : List Sp) (D : List Int → Prop) (idx : List Int → Nat) : Prop where
  ok : ∀ j, j < out.length → SpanOk l k (out.getD j default)
  op : ∀ q, D q → idx q < out.length ∧ kyS (out.getD (idx q) default) = q ∧ (out.getD (idx q) default).to = -1
  on : ∀ j, j < out.length → (out.getD j default).to = -1 → D (kyS (out.getD j default)) ∧ idx (kyS (out.getD j default)) = j
  pr : ∀ i j, i < j → j < out.length → kyS (out.getD i default) = kyS (out.getD j default) → (out.getD i default).to ≠ -1 ∧ (out.getD i default).to ≤ (out.getD j default).fr
theorem SpanOk.mono {l : List Ev} {k : Nat} {s : Sp} (h : SpanOk l k s) : SpanOk l (k + 1) s := by
  obtain ⟨f, h1, h2, h3, h4⟩ := h
  exact ⟨f, h1, by omega, h3.imp_right (fun h => ⟨h.1, by omega⟩), h4⟩
theorem SI.mono {l : List Ev} {k : Nat} {out : List Sp} {D : List Int → Prop} {idx : List Int → Nat} (h : SI l k out D idx) : SI l (k + 1) out D idx :=
  ⟨fun j hj => (h.ok j hj).mono, h.op, h.on, h.pr⟩
theorem SI.close {l : List Ev} {k : Nat} {out : List Sp} {D : List Int → Prop} {idx : List Int → Nat} (h : SI l k out D idx) {q : List Int} (hq : D q) : SI l (k + 1) (spClose out (idx q) k) (fun p => D p ∧ p ≠ q) idx := by
  obtain ⟨h1, h2, h3⟩ := h.op q hq
  have hg : ∀ j, (spClose out (idx q) k).getD j default = if j = idx q then { out.getD (idx q) default with to := (k : Int) } else out.getD j default := fun j => gset default out _ j _ h1
  have hky : ∀ j, kyS ((spClose out (idx q) k).getD j default) = kyS (out.getD j default) := fun j => by
    rw [hg]; split
    · rename_i e; rw [e]
    · rfl
  have hfr : ∀ j, ((spClose out (idx q) k).getD j default).fr = (out.getD j default).fr := fun j => by
    rw [hg]; split
    · rename_i e; rw [e]
    · rfl
  refine ⟨fun j hj => ?_, fun p hp => ?_, fun j hj hto => ?_, fun i j hij hj e => ?_⟩
  · rw [spClose_len] at hj
    rw [hg]; split
    · obtain ⟨f, g1, g2, g3, g4, g5, g6⟩ := h.ok _ h1
      exact ⟨f, g1, by omega, .inr ⟨by show (out.getD (idx q) default).fr < (k : Int); omega, by show (k : Int) < ((k + 1 : Nat) : Int); omega⟩, g4, g5, g6⟩
    · exact (h.ok j hj).mono
  · obtain ⟨g1, g2, g3⟩ := h.op p hp.1
    have : idx p ≠ idx q := fun e => hp.2 (by rw [← g2, ← h2, e])
    refine ⟨by rw [spClose_len]; exact g1, by rw [hky]; exact g2, ?_⟩
    rw [hg, if_neg this]; exact g3
  · rw [spClose_len] at hj
    rw [hky]
    rw [hg] at hto
    split at hto
    · have : (k : Int) = -1 := hto
      omega
    · rename_i hne
      obtain ⟨g1, g2⟩ := h.on j hj hto
      refine ⟨⟨g1, fun e => hne ?_⟩, g2⟩
      rw [← g2, e]
  · rw [spClose_len] at hj
    rw [hky, hky] at e
    rw [hfr]
    obtain ⟨g1, g2⟩ := h.pr i j hij hj e
    have : i ≠ idx q := fun e => g1 (by rw [e]; exact h3)
    rw [hg, if_neg this]; exact ⟨g1, g2⟩
theorem SI.push {l : List Ev} {k : Nat} {out : List Sp} {D : List Int → Prop} {idx : List Int → Nat} (h : SI l (k + 1) out D idx) (hq : ¬ D (kyOf (l.getD k default).tx (l.getD k default).p)) :
    SI l (k + 1) (out ++ [⟨(l.getD k default).tx, (l.getD k default).p, (l.getD k default).mode, k, -1⟩]) (fun p => D p ∨ p = kyOf (l.getD k default).tx (l.getD k default).p) (fun p => if p = kyOf (l.getD k default).tx (l.getD k default).p then out.length else idx p) := by
  generalize hs : (⟨(l.getD k default).tx, (l.getD k default).p, (l.getD k default).mode, (k : Int), -1⟩ : Sp) = s
  have hks : kyS s = kyOf (l.getD k default).tx (l.getD k default).p := by rw [← hs]
  have hsf : s.fr = k := by rw [← hs]
  have hst : s.to = -1 := by rw [← hs]
  have hok : SpanOk l (k + 1) s := by rw [← hs]; exact ⟨k, rfl, by omega, .inl rfl, rfl, rfl, rfl⟩
  rw [← hks] at hq ⊢
  clear hs
  have hlen : (out ++ [s]).length = out.length + 1 := by simp
  have hlt : ∀ j, j < out.length → (out ++ [s]).getD j default = out.getD j default := fun j hj => by rw [gsnoc _ _ _ _ (by omega), if_pos hj]
  have hn : (out ++ [s]).getD out.length default = s := by rw [gsnoc _ _ _ _ (by omega), if_neg (by omega)]
  refine ⟨fun j hj => ?_, fun p hp => ?_, fun j hj hto => ?_, fun i j hij hj e => ?_⟩
  · by_cases h1 : j < out.length
    · rw [hlt j h1]; exact h.ok j h1
    · rw [show j = out.length by omega, hn]; exact hok
  · by_cases h1 : p = kyS s
    · rw [if_pos h1, hn]; exact ⟨by omega, h1.symm, hst⟩
    · rw [if_neg h1]
      rcases hp with hp | hp
      · obtain ⟨g1, g2, g3⟩ := h.op p hp
        rw [hlt _ g1]; exact ⟨by omega, g2, g3⟩
      · exact absurd hp h1
  · by_cases h1 : j < out.length
    · rw [hlt j h1] at hto ⊢
      obtain ⟨g1, g2⟩ := h.on j h1 hto
      refine ⟨.inl g1, ?_⟩
      rw [if_neg (fun e => hq (by rw [← e]; exact g1))]; exact g2
    · rw [show j = out.length by omega, hn]
      exact ⟨.inr rfl, by rw [if_pos rfl]⟩
  · have hi : i < out.length := by omega
    rw [hlt i hi] at e ⊢
    by_cases h1 : j < out.length
    · rw [hlt j h1] at e ⊢; exact h.pr i j hij h1 e
    · rw [show j = out.length by omega, hn] at e ⊢
      have hne : (out.getD i default).to ≠ -1 := fun h2 => hq (by
        have := (h.on i hi h2).1
        rw [e] at this; exact this)
      refine ⟨hne, ?_⟩
      obtain ⟨f, g1, g2, g3, _⟩ := h.ok i hi
      rcases g3 with g3 | g3
      · exact absurd g3 hne
      · rw [hsf]; omega
theorem SI.congr {l : List Ev} {k : Nat} {out : List Sp} {D D' : List Int → Prop} {idx : List Int → Nat} (h : SI l k out D idx) (hd : ∀ q, D q ↔ D' q) : SI l k out D' idx :=
  ⟨h.ok, fun q hq => h.op q ((hd q).2 hq), fun j hj hto => ⟨(hd _).1 (h.on j hj hto).1, (h.on j hj hto).2⟩, h.pr⟩
theorem spSt_si (l : List Ev) : ∀ k, SI l k (spSt l k).out (· ∈ (spSt l k).dom) (spSt l k).idx
  | 0 => ⟨fun j hj => by simp [spSt] at hj, fun q hq => by simp [spSt] at hq, fun j hj => by simp [spSt] at hj, fun i j _ hj => by simp [spSt] at hj⟩
  | k + 1 => by
    have h := spSt_si l k
    have hin := spSt_in l k
    show SI l (k + 1) (spStep (spSt l k) k (l.getD k default)).out (· ∈ (spStep (spSt l k) k (l.getD k default)).dom) (spStep (spSt l k) k (l.getD k default)).idx
    generalize spSt l k = s at h hin
    unfold spStep
    split
    · exact h.mono
    split
    · by_cases h3 : kyOf (l.getD k default).tx (l.getD k default).p ∈ s.dom
      · rw [if_pos h3]
        have h6 := (h.close h3).push (fun h4 => h4.2 rfl)
        rw [spClose_len] at h6
        refine h6.congr (fun q => ?_)
        show _ ↔ q ∈ insD s.dom _
        rw [insD, if_pos h3]
        constructor
        · rintro (h4 | h4)
          · exact h4.1
          · rw [h4]; exact h3
        · intro h4
          by_cases h5 : q = kyOf (l.getD k default).tx (l.getD k default).p
          · exact .inr h5
          · exact .inl ⟨h4, h5⟩
      · rw [if_neg h3]
        refine (h.mono.push h3).congr (fun q => ?_)
        show _ ↔ q ∈ insD s.dom _
        rw [insD, if_neg h3]
        simp
    split
    · rename_i h4
      refine (h.close h4.2).congr (fun q => ?_)
      show _ ↔ q ∈ s.dom.erase _
      rw [hin.1.mem_erase_iff]
      exact and_comm
    · exact h.mono
theorem spOf_ok (l : List Ev) {j : Nat} (hj : j < (spOf l).length) : SpanOk l l.length ((spOf l).getD j default) := (spSt_si l l.length).ok j hj
theorem spAt_pairs (l : List Ev) (i : Int) : (spAtL (spOf l) i).Pairwise fun x y => kyS x ≠ kyS y := by
  have h1 : (spOf l).Pairwise fun x y => kyS x = kyS y → x.to ≠ -1 ∧ x.to ≤ y.fr := by
    rw [List.pairwise_iff_getElem]
    intro a b ha hb hab e
    have h := (spSt_si l l.length).pr a b hab hb
    rw [List.getD_eq_getElem?_getD, List.getD_eq_getElem?_getD] at h
    rw [List.getElem?_eq_getElem (by exact ha), List.getElem?_eq_getElem (by exact hb)] at h
    exact h e
  have h2 : (spAtL (spOf l) i).Pairwise fun x y => kyS x = kyS y → x.to ≠ -1 ∧ x.to ≤ y.fr := h1.filter _
  refine List.Pairwise.imp_of_mem ?_ h2
  intro x y hx hy h e
  have hx := (List.mem_filter.1 hx).2
  have hy := (List.mem_filter.1 hy).2
  obtain ⟨g1, g2⟩ := h e
  simp only [spAtB, Bool.and_eq_true, Bool.or_eq_true, decide_eq_true_eq, beq_iff_eq] at hx hy
  rcases hx.2 with h3 | h3
  · exact g1 h3
  · omega
theorem spAt_two (l : List Ev) (i : Int) {a b : Nat} (hab : b < a) (ha : a < (spAtL (spOf l) i).length) :
    ¬ (((spAtL (spOf l) i).getD a default).tx = ((spAtL (spOf l) i).getD b default).tx ∧ ((spAtL (spOf l) i).getD a default).p = ((spAtL (spOf l) i).getD b default).p) := by
  intro ⟨h1, h2⟩
  have h := List.pairwise_iff_getElem.1 (spAt_pairs l i) b a (by omega) ha hab
  rw [List.getD_eq_getElem?_getD, List.getD_eq_getElem?_getD, List.getElem?_eq_getElem ha, List.getElem?_eq_getElem (show b < (spAtL (spOf l) i).length by omega)] at h1 h2
  simp only [Option.getD_some] at h1 h2
  exact h (by show kyOf _ _ = kyOf _ _; rw [h1, h2])
theorem sp_lit : spOf [⟨2, 1, default, 3, 1, [], 0⟩, ⟨11, 1, default, 0, 0, [], 0⟩] = [⟨1, default, 3, 0, 1⟩] := by rfl
theorem sp_awake : Eng.Fn Try.prog 22 [] (Tells (.c (.b true))) := by
  refine Eng.Fn.of tab_ok Try.func22 (by kernel_rfl) (by kernel_rfl) (fun w0 => ?_)
  conv => whnf
  refine callx_frz 0 rfl ?_
  conv => whnf
  have hl := spOf_fn [⟨2, 1, default, 3, 1, [], 0⟩, ⟨11, 1, default, 0, 0, [], 0⟩] (by decide)
  rw [sp_lit] at hl
  refine callx_says hl ⟨row_ent2 ?_, trivial⟩ rfl trivial ?_
  · repeat' (first | exact trivial | exact ⟨rfl, rfl⟩ | exact entC_refl _ | apply And.intro)
  conv => whnf
  apply And.intro <;> intro h
  · conv => whnf
    refine ⟨⟨by decide, by decide⟩, ?_⟩
    conv => whnf
    rfl
  · exact absurd h (by decide)
theorem once_fn (l : List Ev) (i : Int) (hl : l.length ≤ 9223372036854775807) : Eng.Fn Try.prog 6 [.c (evsX l), .c (.i .i64 i)] (Tells (.c (.b true))) := by
  refine Eng.Fn.of tab_ok Try.func6 (by kernel_rfl) (by kernel_rfl) (fun w0 => ?_)
  conv => whnf
  refine callx_as (.c .bt) sp_awake rfl rfl trivial ?_
  conv => whnf
  have hfew := few_fn l hl
  refine callx_tells hfew rfl trivial ?_
  conv => whnf
  refine And.intro (fun h1 => ?_) (fun h1 => ?_)
  · conv => whnf
  · conv => whnf
    simp only [Bool.not_eq_false', Bool.and_eq_true, decide_eq_true_eq] at h1
    obtain ⟨-, hlen⟩ := h1
    have hol : (spOf l).length ≤ 30 := Nat.le_trans (spSt_len l l.length) hlen
    have hf := spOf_fn l (by omega)
    refine callx_tells hf rfl trivial ?_
    conv => whnf
    have hf := spAtL_fn (spOf l) i (by omega)
    refine callx_tells hf rfl trivial ?_
    conv => whnf
    have hpair := fun a b => @spAt_two l i a b
    have hal : (spAtL (spOf l) i).length ≤ 30 := Nat.le_trans (List.length_filter_le _ _) hol
    have hok := fun j => @spOf_ok l j
    generalize hA : spAtL (spOf l) i = A at hpair hal
    generalize hO : spOf l = O at hok hol
    refine loopi tab_ok (fun k => k ≤ A.length) (fun k => [(0, .c (evsX l)), (5, .c (spansX O)), (6, .c (spansX A)), (23, .c (spansX A)), (24, .c (.i .i64 A.length)), (25, .c (.i .i64 k))])
      (fun k => []) (fun k => A.length - k) 0 121 rfl (Nat.zero_le _) ?_ (fun k hk => ?_)
    · refine ⟨?_, ?_, rfl⟩ <;> repeat' (first | exact trivial | exact entV_refl _ | apply And.intro)
      all_goals rfl
    · conv => whnf
      refine And.intro (fun h1 => ?_) (fun h1 => ?_)
      · conv => whnf
        simp only [decide_eq_true_eq] at h1
        have h2 : k < A.length := by omega
        refine ⟨by omega, ?_⟩
        conv => whnf
        generalize hx : A.getD (Int.toNat (k : Int)) default = x
        have hx : A.getD k default = x := hx
        refine ⟨by omega, ?_⟩
        conv => whnf
        refine loopi tab_ok (fun j => j ≤ k) (fun j => [(0, .c (evsX l)), (5, .c (spansX O)), (6, .c (spansX A)), (8, .c (.p 0 0)), (23, .c (spansX A)), (24, .c (.i .i64 A.length)), (25, .c (.i .i64 k)), (32, .c (.rs k 9 (fun i j => nthC (encS (A.getD i default)) j))), (33, .c (.i .i64 k)), (34, .c (.i .i64 j))])
          (fun j => [.cells 36 (encS x)]) (fun j => k - j) 0 121 rfl (Nat.zero_le _) ?_ (fun j hj => ?_)
        · refine ⟨?_, ?_, rfl⟩ <;> repeat' (first | exact trivial | exact entV_refl _ | exact entL_refl _ | apply And.intro)
          all_goals rfl
        · conv => whnf
          refine And.intro (fun h3 => ?_) (fun h3 => ?_)
          · conv => whnf
            simp only [decide_eq_true_eq] at h3
            have h4 : j < k := by omega
            refine ⟨by omega, ?_⟩
            conv => whnf
            generalize hy : A.getD (Int.toNat (j : Int)) default = y
            have hy : A.getD j default = y := hy
            have hne := hpair k j h4 h2
            rw [hx, hy] at hne
            refine And.intro (fun h5 => ?_) (fun h5 => ?_)
            · conv => whnf
              refine And.intro (fun h6 => ?_) (fun h6 => ?_)
              · exfalso
                simp only [Bool.and_eq_true, beq_iff_eq] at h5 h6
                exact hne ⟨h5, Pth.eq_iff.2 ⟨h6.1, h6.2.1, h6.2.2.1, h6.2.2.2.1, h6.2.2.2.2⟩⟩
              · conv => whnf
                refine ⟨j + 1, by omega, by omega, rfl, ?_⟩
                refine ⟨?_, ?_, rfl⟩ <;> repeat' (first | exact trivial | exact entV_refl _ | exact entL_refl _ | exact entLL_refl _ | apply And.intro)
                all_goals first
                  | rfl
                  | exact wrap_succ (by omega)
            · conv => whnf
              refine ⟨j + 1, by omega, by omega, rfl, ?_⟩
              refine ⟨?_, ?_, rfl⟩ <;> repeat' (first | exact trivial | exact entV_refl _ | exact entL_refl _ | exact entLL_refl _ | apply And.intro)
              all_goals first
                | rfl
                | exact wrap_succ (by omega)
          · conv => whnf
            refine ⟨k + 1, by omega, by omega, rfl, ?_⟩
            refine ⟨?_, ?_, rfl⟩ <;> repeat' (first | exact trivial | exact entV_refl _ | exact entLL_refl _ | apply And.intro)
            all_goals first
              | rfl
              | exact wrap_succ (by omega)
      · conv => whnf
        refine loopi tab_ok (fun k => k ≤ O.length) (fun k => [(0, .c (evsX l)), (52, .c (spansX O)), (53, .c (.i .i64 O.length)), (54, .c (.i .i64 k))])
          (fun k => []) (fun k => O.length - k) 0 121 rfl (Nat.zero_le _) ?_ (fun k hk => ?_)
        · refine ⟨?_, ?_, rfl⟩ <;> repeat' (first | exact trivial | exact entV_refl _ | apply And.intro)
          all_goals rfl
        · conv => whnf
          refine And.intro (fun h1 => ?_) (fun h1 => ?_)
          · conv => whnf
            simp only [decide_eq_true_eq] at h1
            have h2 : k < O.length := by omega
            obtain ⟨f, g1, g2, g3, g4, g5, g6⟩ := hok k h2
            refine ⟨by omega, ?_⟩
            conv => whnf
            generalize he : O.getD (Int.toNat (k : Int)) default = e
            have he : O.getD k default = e := he
            rw [he] at g1 g3 g4 g5 g6
            refine drawx_quiet tab_ok (by kernel_rfl) (by kernel_rfl) ?_
            conv => whnf
            refine And.intro (fun h5 => ?_) (fun h5 => ?_)
            · exfalso; simp only [decide_eq_true_eq] at h5; omega
            conv => whnf
            refine And.intro (fun h6 => ?_) (fun h6 => ?_)
            · exfalso; simp only [decide_eq_true_eq] at h6; omega
            conv => whnf
            have hidx : Int.toNat e.fr = f := by omega
            repeat' (first
              | (refine ⟨k + 1, by omega, by omega, rfl, ?_⟩
                 refine ⟨?_, ?_, rfl⟩ <;> repeat' (first | exact trivial | exact entV_refl _ | exact entLL_refl _ | apply And.intro)
                 all_goals first
                   | rfl
                   | exact wrap_succ (by omega))
              | (refine ⟨by omega, ?_⟩; conv => whnf)
              | (apply And.intro <;> intro h <;> (try simp only [hidx, decide_eq_true_eq, decide_eq_false_iff_not, bne_iff_ne, bne_eq_false_iff_eq, ge_iff_le, Int.not_le, Int.not_lt] at h) <;> first | (exfalso; omega) | (exfalso; rw [g5] at h; simp at h; done) | (conv => whnf)))
          · conv => whnf
theorem once_row (n : Nat) (z : Nat → Nat → XC) (i : Int) (hn : n ≤ maxLen) (hz : ∀ i, i < n → fitF shEv (z i) 0) (_ : (Lit.int .i64 i).wf = true) : Eng.Fn Try.prog 6 [.c (.rs n 11 z), .c (.i .i64 i)] (Tells (.c (.b true))) := by
  obtain ⟨l, hl, he⟩ := fit_evs hz
  exact (once_fn l i (by rw [hl]; simp [maxLen] at hn; omega)).ask ⟨he, entV_refl _, trivial⟩
end Go.Proofs.Ytcagncomnjeinaa
