/- Numbers of edges: who stands in them, to whom one has edges; the library's search. -/
import Derived.Test.YtehbalkhboedeaaRis
import Derived.Test.YtehbalkhboedeaaDepsB
namespace Go.Proofs.Ytehbalkhboedeaa
open Go Go.Eng Go.RowKit
set_option maxRecDepth 100000
set_option maxHeartbeats 4000000
set_option linter.unusedVariables false
set_option linter.unusedSimpArgs false
abbrev encI : Int → List XC := fun n => [.i .i64 n]
theorem eqI (x y : Int) : (x == y) = decide (x = y) := rfl
theorem elI (l : List Int) {k : Nat} (h : k < l.length) : (l.map encI)[k]? = some (encI (l.getD k 0)) := by
  rw [List.getElem?_map, List.getD_eq_getElem?_getD, List.getElem?_eq_getElem h]; rfl
theorem compactI_fn (l : List Int) (hl : l.length ≤ 1000000) : FnM Try.prog 64 [.c (.ow 0)] [rowI 3 l] [] (.c (.ow 0)) [rowI 3 (compI l)] := by
  refine FnM.of tab_ok Try.func64 (by kernel_rfl) (by kernel_rfl) (fun vs => ?_)
  conv => whnf
  have hlm : (l.map encI).length = l.length := List.length_map ..
  refine And.intro (fun h1 => ?_) (fun h1 => ?_)
  · have h1 : l.length < 2 := by simp at h1; omega
    have e : compI l = l := by
      rcases l with _ | ⟨a, _ | ⟨b, r⟩⟩
      · rfl
      · rfl
      · simp at h1; omega
    conv => whnf
    rw [e]
    refine mt_done (v := .c (.ow 0)) (hs' := [rowI 3 l]) (fx := []) (x := .c (.ow 0)) (h := [rowI 3 l, .held vs []]) (ys := []) [0] 1 rfl rfl rfl rfl rfl (entV_refl _) trivial ?_
    repeat' (first | exact trivial | exact entLL_refl _ | rfl | apply And.intro)
    all_goals trace_state
  · have h1 : 2 ≤ l.length := by simp at h1; omega
    conv => whnf
    refine loopi tab_ok (fun k => 1 ≤ k ∧ k ≤ l.length ∧ compIAt l k = l.take k) (fun k => [(0, .c (.ow 0)), (3, .c (.i .i64 k))]) (fun k => [rowI 3 l, .held vs []]) (fun k => l.length - k) 1 61 rfl ⟨by omega, by omega, ?_⟩ ?_ (fun k hk => ?_)
    · rw [take_snocI (by omega)]; rfl
    · refine ⟨?_, ?_, rfl⟩ <;> repeat' (first | exact trivial | exact entV_refl _ | exact entLL_refl _ | exact ⟨rfl, rfl⟩ | rfl | apply And.intro)
      all_goals trace_state
    · obtain ⟨hk1, hk, hc⟩ := hk
      conv => whnf
      refine And.intro (fun h2 => ?_) (fun h2 => ?_)
      · have h2 : k < l.length := by simp at h2; omega
        have hw : IntKind.i64.wrap ((k : Int) - 1) = ((k - 1 : Nat) : Int) := by rw [wrap_ok (by omega) (by omega)]; omega
        conv => whnf
        refine drawx_plan tab_ok [] (.take 0 (.take 1 (.take 2 (.take 3 (.take 4 (.take 5 (.take 6 (.take 7 (.take 8 (.take 9 .done)))))))))) (by kernel_rfl) (by kernel_rfl) (by kernel_rfl) ?_
        conv => whnf
        rw [hlm]
        refine ⟨by omega, ?_⟩
        conv => whnf
        refine ⟨_, elI l (by omega), ?_⟩
        conv => whnf
        rw [hw, hlm]
        refine ⟨by omega, ?_⟩
        conv => whnf
        refine ⟨_, elI l (by omega), ?_⟩
        conv => whnf
        rw [eqI]
        rw [Int.toNat_natCast, Int.toNat_natCast]
        refine And.intro (fun h3 => ?_) (fun h3 => ?_)
        · have h3 : l.getD k 0 = l.getD (k - 1) 0 := of_decide_eq_true h3
          have hck : compIAt l (k + 1) = l.take k := by
            show (if 1 ≤ k ∧ l.getD k 0 = l.getD (k - 1) 0 then compIAt l k else compIAt l k ++ [l.getD k 0]) = _
            rw [if_pos ⟨hk1, h3⟩, hc]
          conv => whnf
          refine opx_cut tab_ok k l.length rfl rfl rfl rfl rfl rfl (.inr ⟨_, rfl⟩) (.inl ⟨rfl, hlm.symm⟩) ⟨by omega, by rw [hlm]; omega⟩ ?_
          conv => whnf
          refine loopi tab_ok (fun (i : Nat × Nat × List Int) => 1 ≤ i.1 ∧ k + i.1 ≤ l.length ∧ i.2.2.length = l.length ∧ k ≤ i.2.1 ∧ i.2.1 + 1 ≤ k + i.1 ∧ i.2.2.take i.2.1 = compIAt l (k + i.1) ∧ ∀ j, k + i.1 ≤ j + 1 → i.2.2.getD j 0 = l.getD j 0)
            (fun i => [(0, .c (.ow 0)), (3, .c (.i .i64 i.2.1)), (4, .c (.sw 0 k (l.length - k) 1)), (5, .c (.i .i64 i.1))]) (fun i => [rowI 3 i.2.2, .held vs []]) (fun i => l.length - (k + i.1)) (1, k, l) 61 rfl ⟨Nat.le_refl _, h2, rfl, Nat.le_refl _, Nat.le_refl _, hck.symm, fun _ _ => rfl⟩ ?_ (fun i hi => ?_)
          · refine ⟨?_, ?_, rfl⟩ <;> repeat' (first | exact trivial | exact entV_refl _ | exact entLL_refl _ | exact ⟨rfl, rfl⟩ | rfl | apply And.intro)
            all_goals trace_state
          · obtain ⟨k2, kk, arr⟩ := i
            obtain ⟨i1, i2, i3, i4, i5, i6, i7⟩ := hi
            dsimp only at i1 i2 i3 i4 i5 i6 i7
            have ham : (arr.map encI).length = l.length := by rw [List.length_map, i3]
            conv => whnf
            refine And.intro (fun h4 => ?_) (fun h4 => ?_)
            · have h4 : k2 < l.length - k := by simp at h4; omega
              have hw2 : IntKind.i64.wrap ((k2 : Int) - 1) = ((k2 - 1 : Nat) : Int) := by rw [wrap_ok (by omega) (by omega)]; omega
              have hcs : compIAt l (k + k2 + 1) = if 1 ≤ k + k2 ∧ l.getD (k + k2) 0 = l.getD (k + k2 - 1) 0 then compIAt l (k + k2) else compIAt l (k + k2) ++ [l.getD (k + k2) 0] := rfl
              conv => whnf
              refine drawx_plan tab_ok [] (.take 0 (.take 1 (.take 2 (.take 3 (.take 4 (.take 5 (.take 6 (.take 7 (.take 8 (.take 9 .done)))))))))) (by kernel_rfl) (by kernel_rfl) (by kernel_rfl) ?_
              conv => whnf
              refine ⟨by omega, ?_⟩
              conv => whnf
              refine ⟨_, elI arr (k := k + k2) (by omega), ?_⟩
              conv => whnf
              rw [hw2]
              refine ⟨by omega, ?_⟩
              conv => whnf
              refine ⟨_, elI arr (k := k + (k2 - 1)) (by omega), ?_⟩
              conv => whnf
              rw [i7 (k + k2) (by omega), i7 (k + (k2 - 1)) (by omega), show k + (k2 - 1) = k + k2 - 1 by omega]
              refine And.intro (fun h5 => ?_) (fun h5 => ?_)
              · have h5 : ¬ l.getD (k + k2) 0 = l.getD (k + k2 - 1) 0 := by simpa using h5
                rw [if_neg (fun h => h5 h.2)] at hcs
                conv => whnf
                refine ⟨by omega, ?_⟩
                conv => whnf
                refine ⟨_, elI arr (k := k + k2) (by omega), ?_⟩
                conv => whnf
                rw [ham]
                refine ⟨by dsimp only; omega, ?_⟩
                conv => whnf
                refine ⟨_, elI arr (k := kk) (by omega), ?_⟩
                conv => whnf
                rw [i7 (k + k2) (by omega)]
                refine ⟨(k2 + 1, kk + 1, arr.set kk (l.getD (k + k2) 0)), ⟨by dsimp only; omega, by dsimp only; omega, by dsimp only; rw [List.length_set, i3], by dsimp only; omega, by dsimp only; omega, ?_, fun j hj => ?_⟩, by dsimp only; omega, rfl, ?_⟩
                · dsimp only
                  rw [show k + (k2 + 1) = k + k2 + 1 by omega, hcs, ← i6, take_snocI (by rw [List.length_set]; omega), List.take_set_of_le (Nat.le_refl _)]
                  congr 2
                  rw [List.getD_eq_getElem?_getD, List.getElem?_set_self (by omega)]; rfl
                · dsimp only at hj ⊢
                  rw [List.getD_eq_getElem?_getD, List.getElem?_set_ne (by omega), ← List.getD_eq_getElem?_getD]
                  exact i7 j (by omega)
                refine ⟨?_, ?_, rfl⟩ <;> repeat' (first | exact trivial | exact entV_refl _ | exact entLL_refl _ | exact wrap_succ (k := kk) (by omega) | exact wrap_succ (k := k2) (by omega) | exact entLL_of_eq (by rw [List.map_set]; rfl) | rfl | apply And.intro)
                all_goals trace_state
              · have h5 : l.getD (k + k2) 0 = l.getD (k + k2 - 1) 0 := by simpa using h5
                rw [if_pos ⟨by omega, h5⟩] at hcs
                conv => whnf
                refine ⟨(k2 + 1, kk, arr), ⟨by dsimp only; omega, by dsimp only; omega, i3, i4, by dsimp only; omega, ?_, fun j hj => i7 j (by dsimp only at hj; omega)⟩, by dsimp only; omega, rfl, ?_⟩
                · dsimp only
                  rw [show k + (k2 + 1) = k + k2 + 1 by omega, hcs]; exact i6
                refine ⟨?_, ?_, rfl⟩ <;> repeat' (first | exact trivial | exact entV_refl _ | exact entLL_refl _ | exact wrap_succ (by omega) | rfl | apply And.intro)
            · have h4 : k + k2 = l.length := by simp at h4; omega
              rw [h4] at i6
              conv => whnf
              refine opx_cut tab_ok kk l.length rfl rfl rfl rfl rfl rfl (.inr ⟨_, rfl⟩) (.inl ⟨rfl, ham.symm⟩) ⟨by omega, by rw [ham]; omega⟩ ?_
              conv => whnf
              refine opx_clear tab_ok rfl rfl rfl rfl rfl rfl rfl (by rw [ham]; omega) ?_
              conv => whnf
              refine opx_cut tab_ok 0 kk rfl rfl rfl rfl rfl rfl (.inl ⟨rfl, rfl⟩) (.inr ⟨_, rfl⟩) ⟨by omega, by simp [i3]; omega⟩ ?_
              conv => whnf
              have hkl : kk ≤ l.length := by omega
              have hfin : ((arr.map encI).take kk ++ List.replicate (l.length - kk) [XC.il .i64 0]).take kk = (compI l).map encI := by
                rw [List.take_append_of_le_length (by rw [List.length_take, ham]; omega), List.take_take, Nat.min_self, ← List.map_take, i6]
                rfl
              refine mt_cut (v := .c (.ow 0)) (hs' := [rowI 3 (compI l)]) (fx := []) (h := [.row 3 1 ((arr.map encI).take kk ++ List.replicate (l.length - kk) [XC.il .i64 0]), .held vs []]) 0 kk 1 rfl (by simp [i3]; omega) ?_
              rw [hfin]
              conv => whnf
              refine mt_done (v := .c (.ow 0)) (hs' := [rowI 3 (compI l)]) (fx := []) (x := .c (.ow 0)) (h := [rowI 3 (compI l), .held vs []]) (ys := []) [0] 1 rfl rfl rfl rfl rfl (entV_refl _) trivial ?_
              repeat' (first | exact trivial | exact entLL_refl _ | rfl | apply And.intro)
        · have h3 : ¬ l.getD k 0 = l.getD (k - 1) 0 := of_decide_eq_false h3
          conv => whnf
          refine ⟨k + 1, ⟨by omega, by omega, ?_⟩, by omega, rfl, ?_⟩
          · show (if 1 ≤ k ∧ l.getD k 0 = l.getD (k - 1) 0 then compIAt l k else compIAt l k ++ [l.getD k 0]) = _
            rw [if_neg (fun h => h3 h.2), hc, take_snocI h2]
          refine ⟨?_, ?_, rfl⟩ <;> repeat' (first | exact trivial | exact entV_refl _ | exact entLL_refl _ | exact wrap_succ (by omega) | rfl | apply And.intro)
      · have h2 : k = l.length := by simp at h2; omega
        subst h2
        conv => whnf
        rw [show compI l = l from hc.trans (List.take_length ..)]
        refine mt_done (v := .c (.ow 0)) (hs' := [rowI 3 l]) (fx := []) (x := .c (.ow 0)) (h := [rowI 3 l, .held vs []]) (ys := []) [0] 1 rfl rfl rfl rfl rfl (entV_refl _) trivial ?_
        repeat' (first | exact trivial | exact entLL_refl _ | rfl | apply And.intro)
        all_goals trace_state

/-- Who stands in edges. -/
def endsL (l : List Eg) : List Int := l.flatMap fun e => [e.fr, e.to]
theorem ends_mem (l : List Eg) (x : Int) : x ∈ endsL l ↔ ∃ e ∈ l, x = e.fr ∨ x = e.to := by simp [endsL]
theorem ends_len (l : List Eg) : (endsL l).length = 2 * l.length := by
  induction l with
  | nil => rfl
  | cons e l ih => simp only [endsL, List.flatMap_cons, List.length_append, List.length_cons, List.length_nil] at ih ⊢; omega
theorem ends_snoc (l : List Eg) (e : Eg) : endsL (l ++ [e]) = endsL l ++ [e.fr, e.to] := by simp [endsL]
def nodesL (l : List Eg) : List Int := unqI (endsL l)
theorem nodes_len (l : List Eg) : (nodesL l).length ≤ 2 * l.length := by
  have := unqI_len (endsL l)
  rw [ends_len] at this
  exact this
theorem nodes_fn (l : List Eg) (hl : l.length ≤ 100000) : Eng.Fn Try.prog 39 [.c (egsX l)] (Tells (.c (intsX (nodesL l)))) := by
  refine Eng.Fn.ofZ tab_ok Try.func39 (by kernel_rfl) (by kernel_rfl) trivial (fun w0 => ?_)
  conv => whnf
  refine loopx_nil 3 3 1 rfl ?_
  conv => whnf
  refine loopi tab_ok (fun k => k ≤ l.length) (fun k => [(3, .c (.ow 0)), (6, .c (egsX l)), (7, .c (.i .i64 l.length)), (8, .c (.i .i64 k))]) (fun k => [rowI 3 (endsL (l.take k))]) (fun k => l.length - k) 0 _ rfl (Nat.zero_le _) ?_ (fun k hk => ?_)
  · refine ⟨?_, ?_, rfl⟩ <;> repeat' (first | exact trivial | exact entV_refl _ | exact entLL_refl _ | exact ⟨rfl, rfl⟩ | rfl | apply And.intro)
  · conv => whnf
    have hel := ends_len (l.take k)
    have htl : (l.take k).length = k := by rw [List.length_take]; omega
    refine And.intro (fun h1 => ?_) (fun h1 => ?_)
    · have h1 : k < l.length := by simp at h1; omega
      have htk : l.take (k + 1) = l.take k ++ [l.getD k default] := take_snocE default h1
      conv => whnf
      refine ⟨by omega, ?_⟩
      conv => whnf
      rw [Int.toNat_natCast]
      generalize l.getD k default = d at *
      refine ⟨by simp only [List.length_map, List.length_cons, List.length_nil]; omega, ?_⟩
      conv => whnf
      refine ⟨k + 1, by omega, by omega, rfl, ?_⟩
      rw [htk, ends_snoc]
      refine ⟨?_, ?_, rfl⟩ <;> repeat' (first | exact trivial | exact entV_refl _ | exact wrap_succ (by omega) | exact entLL_of_eq (by rw [List.map_append]; rfl) | rfl | apply And.intro)
    · have h1 : k = l.length := by simp at h1; omega
      subst h1
      rw [List.take_length] at hel ⊢
      conv => whnf
      refine callx_m (sortI_fn (endsL l) (by omega) [.ow 0]) [0] (by kernel_rfl) ⟨entV_refl _, trivial⟩ ?_ ?_
      · repeat' (first | exact trivial | exact ⟨rfl, rfl⟩ | exact entLL_refl _ | apply And.intro)
      conv => whnf
      refine callx_m (compactI_fn (sortL (endsL l)) (by rw [sort_len0]; omega)) [0] (by kernel_rfl) ⟨entV_refl _, trivial⟩ ?_ ?_
      · repeat' (first | exact trivial | exact ⟨rfl, rfl⟩ | exact entLL_refl _ | apply And.intro)
      conv => whnf
      exact ints_ent2 (entLL_refl _)
/-- The library's search. -/
def idxI (l : List Int) (x : Int) : Int := match l.findIdx? (fun y => y == x) with | some k => (k : Int) | none => -1
theorem idxI_in {l : List Int} {x : Int} {k : Nat} (hk : k < l.length) (h : x = l.getD k 0) (hall : ∀ j, j < k → l.getD j 0 ≠ x) : idxI l x = k := by
  have : l.findIdx? (fun y => y == x) = some k := by
    refine List.findIdx?_eq_some_iff_getElem.2 ⟨hk, ?_, fun j hj => ?_⟩
    · rw [h, List.getD_eq_getElem?_getD, List.getElem?_eq_getElem hk]; simp
    · have := hall j hj
      rw [List.getD_eq_getElem?_getD, List.getElem?_eq_getElem (by omega)] at this
      simpa using this
  rw [idxI, this]
theorem idxI_out {l : List Int} {x : Int} (hall : ∀ j, j < l.length → l.getD j 0 ≠ x) : idxI l x = -1 := by
  have : l.findIdx? (fun y => y == x) = none := by
    refine List.findIdx?_eq_none_iff.2 fun y hy => ?_
    obtain ⟨j, hj, e⟩ := List.mem_iff_getElem.1 hy
    have := hall j hj
    rw [List.getD_eq_getElem?_getD, List.getElem?_eq_getElem hj] at this
    rw [← e]
    simpa using this
  rw [idxI, this]
theorem idxI_ge (l : List Int) (x : Int) : decide (idxI l x ≥ 0) = decide (x ∈ l) := by
  unfold idxI
  cases h : l.findIdx? (fun y => y == x) with
  | none =>
    have h2 := List.findIdx?_eq_none_iff.1 h
    have : x ∉ l := fun hx => by have := h2 x hx; simp at this
    simp [this]
  | some k =>
    obtain ⟨hk, h2, _⟩ := List.findIdx?_eq_some_iff_getElem.1 h
    have h2 : l[k] = x := by simpa using h2
    have : x ∈ l := h2 ▸ List.getElem_mem hk
    simp [this]
theorem index_fn (l : List Int) (x : Int) (hl : l.length ≤ 1000000) : Eng.Fn Try.prog 71 [.c (intsX l), .c (.i .i64 x)] (Tells (.c (.i .i64 (idxI l x)))) := by
  refine Eng.Fn.of tab_ok Try.func71 (by kernel_rfl) (by kernel_rfl) (fun w0 => ?_)
  conv => whnf
  refine loopi tab_ok (fun k => k ≤ l.length ∧ ∀ j, j < k → l.getD j 0 ≠ x) (fun k => [(0, .c (intsX l)), (1, .c (.i .i64 x)), (7, .c (.i .i64 l.length)), (8, .c (.i .i64 k))]) (fun k => []) (fun k => l.length - k) 0 _ rfl ⟨Nat.zero_le _, fun j h => by omega⟩ ?_ (fun k hk => ?_)
  · refine ⟨?_, ?_, rfl⟩ <;> repeat' (first | exact trivial | exact entV_refl _ | rfl | apply And.intro)
  · obtain ⟨hk, hall⟩ := hk
    conv => whnf
    refine And.intro (fun h2 => ?_) (fun h2 => ?_)
    · have h2 : k < l.length := by simp at h2; omega
      conv => whnf
      refine ⟨by omega, ?_⟩
      conv => whnf
      refine And.intro (fun h3 => ?_) (fun h3 => ?_)
      · have h3 : x = l.getD k 0 := by simpa using h3
        conv => whnf
        exact ⟨rfl, (idxI_in h2 h3 hall).symm⟩
      · have h3 : ¬ x = l.getD k 0 := by simpa using h3
        have h3 : ¬ l.getD k 0 = x := fun e => h3 e.symm
        conv => whnf
        refine ⟨k + 1, ⟨by omega, fun j hj => ?_⟩, by omega, rfl, ?_⟩
        · by_cases e : j = k
          · rw [e]; exact h3
          · exact hall j (by omega)
        refine ⟨?_, ?_, rfl⟩ <;> repeat' (first | exact trivial | exact entV_refl _ | exact wrap_succ (by omega) | rfl | apply And.intro)
    · have h2 : k = l.length := by simp at h2; omega
      subst h2
      conv => whnf
      exact ⟨rfl, (idxI_out hall).symm⟩
theorem contains_fn (l : List Int) (x : Int) (hl : l.length ≤ 1000000) : Eng.Fn Try.prog 50 [.c (intsX l), .c (.i .i64 x)] (Tells (.c (.b (decide (x ∈ l))))) := by
  refine Eng.Fn.of tab_ok Try.func50 (by kernel_rfl) (by kernel_rfl) (fun w0 => ?_)
  conv => whnf
  refine callx_tells (index_fn l x hl) rfl trivial ?_
  conv => whnf
  exact idxI_ge l x
end Go.Proofs.Ytehbalkhboedeaa
