/- The order: the program's way. -/
import Derived.Test.YtehbalkhboedeaaCyc7
import Derived.Test.YtehbalkhboedeaaDelI
namespace Go.Eng
open Go Go.RowKit
/-- A nil slice in slot j is an own row from here on. -/
theorem labx_nil {K : KS} {ts : List XV} {h : List It} (j e z : Nat) (hg : get ts j = .c (.v (.slice none 0 0))) (hh : lenK h fun n => setK ts j (.c (.ow n)) fun ts => snocH h (.row e z []) fun h => LabX K ts h) : LabX K ts h := by
  rw [lenK_eq, setK_eq, snocH_eq] at hh
  unfold LabX at hh ⊢
  exact fun w0 F a w hc => hh w0 F a w (cfg_nil j e z hg hc)
end Go.Eng
namespace Go.Proofs.Ytehbalkhboedeaa
open Go Go.Eng Go.RowKit
set_option maxRecDepth 100000
set_option maxHeartbeats 8000000
set_option linter.unusedVariables false
set_option linter.unusedSimpArgs false
def anyIn (m left : List Int) : Bool := m.any fun y => decide (y ∈ left)
theorem anyIn_of {m left : List Int} {k : Nat} (hk : k < m.length) (h : m.getD k 0 ∈ left) : anyIn m left = true :=
  List.any_eq_true.2 ⟨_, List.getElem_mem hk, by
    have : m[k] = m.getD k 0 := by rw [List.getD_eq_getElem?_getD, List.getElem?_eq_getElem hk]; rfl
    rw [this]; simpa using h⟩
theorem anyIn_no {m left : List Int} (h : ∀ k, k < m.length → m.getD k 0 ∉ left) : anyIn m left = false := by
  rw [anyIn, List.any_eq_false]
  intro y hy
  obtain ⟨k, hk, rfl⟩ := List.mem_iff_getElem.1 hy
  have := h k hk
  rw [List.getD_eq_getElem?_getD, List.getElem?_eq_getElem hk] at this
  simpa using this
theorem containsFunc_m (m left : List Int) (hm : m.length ≤ 1000000) (hl : left.length ≤ 1000000) : FnM Try.prog 55 [.c (intsX m), .c (.fn 56 1 (nthC [.p 0 0]))] [.cells 57 [intsX left]] [.p 0 0] (.c (.b (anyIn m left))) [.cells 57 [intsX left]] := by
  refine FnM.of tab_ok Try.func55 (by kernel_rfl) (by kernel_rfl) (fun vs => ?_)
  conv => whnf
  refine callx_inline tab_ok Try.func72 (by kernel_rfl) (by kernel_rfl) (fun us => ?_)
  conv => whnf
  refine loopi tab_ok (fun k => k ≤ m.length ∧ ∀ j, j < k → m.getD j 0 ∉ left) (fun k => [(0, .c (intsX m)), (1, .c (.fn 56 1 (nthC [.p 0 0]))), (7, .c (.i .i64 m.length)), (8, .c (.i .i64 k))])
    (fun k => [.cells 57 [intsX left], .held vs [.c (.p 0 0)], .held us (frame 9 [])]) (fun k => m.length - k) 0 _ rfl ⟨Nat.zero_le _, fun j h => by omega⟩ ?_ (fun k hk => ?_)
  · refine ⟨?_, ?_, rfl⟩ <;> repeat' (first | exact trivial | exact entV_refl _ | exact entL_refl _ | exact ⟨rfl, rfl⟩ | exact ⟨rfl, trivial⟩ | rfl | apply And.intro)
  · obtain ⟨hk, hall⟩ := hk
    conv => whnf
    refine And.intro (fun h2 => ?_) (fun h2 => ?_)
    · have h2 : k < m.length := by simp at h2; omega
      conv => whnf
      refine ⟨by omega, ?_⟩
      conv => whnf
      rw [Int.toNat_natCast]
      refine callx_inline tab_ok Try.func56 (by kernel_rfl) (by kernel_rfl) (fun qs => ?_)
      conv => whnf
      refine callx_tells (contains_fn left (m.getD k 0) hl) rfl trivial ?_
      conv => whnf
      refine ⟨rfl, ?_⟩
      conv => whnf
      refine And.intro (fun h3 => ?_) (fun h3 => ?_)
      · have h3 : m.getD k 0 ∈ left := of_decide_eq_true h3
        conv => whnf
        refine ⟨rfl, ?_⟩
        conv => whnf
        refine mt_done (v := .c (.b (anyIn m left))) (hs' := [.cells 57 [intsX left]]) (fx := [.p 0 0]) (ys := [.c (.p 0 0)]) [0] 1 rfl rfl rfl rfl rfl ?_ ⟨entV_refl _, trivial⟩ ⟨⟨rfl, entL_refl _⟩, trivial⟩
        show _ = _
        rw [anyIn_of h2 h3]
        simp
      · have h3 : m.getD k 0 ∉ left := of_decide_eq_false h3
        conv => whnf
        refine ⟨k + 1, ⟨by omega, fun j hj => ?_⟩, by omega, rfl, ?_⟩
        · by_cases e : j = k
          · rw [e]; exact h3
          · exact hall j (by omega)
        refine ⟨?_, ?_, rfl⟩ <;> repeat' (first | exact trivial | exact entV_refl _ | exact entL_refl _ | exact ⟨rfl, rfl⟩ | exact ⟨rfl, trivial⟩ | exact wrap_succ (by omega) | rfl | apply And.intro)
    · have h2 : k = m.length := by simp at h2; omega
      subst h2
      conv => whnf
      refine ⟨rfl, ?_⟩
      conv => whnf
      refine mt_done (v := .c (.b (anyIn m left))) (hs' := [.cells 57 [intsX left]]) (fx := [.p 0 0]) (ys := [.c (.p 0 0)]) [0] 1 rfl rfl rfl rfl rfl ?_ ⟨entV_refl _, trivial⟩ ⟨⟨rfl, entL_refl _⟩, trivial⟩
      show _ = _
      rw [anyIn_no hall]
theorem erase_at {l : List Int} (h : l.Nodup) : ∀ {i : Nat}, i < l.length → l.erase (l.getD i 0) = l.take i ++ l.drop (i + 1) := by
  induction l with
  | nil => intro i hi; simp at hi
  | cons a l ih =>
    intro i hi
    have h' := List.nodup_cons.1 h
    cases i with
    | zero => simp
    | succ i =>
      have hi : i < l.length := by simpa using hi
      have hne : ¬ a = l.getD i 0 := fun e => h'.1 (by rw [e, List.getD_eq_getElem?_getD, List.getElem?_eq_getElem hi]; exact List.getElem_mem hi)
      rw [List.getD_cons_succ, List.erase_cons, if_neg (by simpa using hne), ih h'.2 hi]; rfl
theorem pickO_at {l : List Eg} {left : List Int} {i : Nat} (hi : i < left.length) (h1 : anyIn (fromL l (left.getD i 0)) left = false) (hall : ∀ j, j < i → anyIn (fromL l (left.getD j 0)) left = true) : pickO l left = some (left.getD i 0) := by
  have hg : ∀ j (h : j < left.length), left[j] = left.getD j 0 := fun j h => by rw [List.getD_eq_getElem?_getD, List.getElem?_eq_getElem h]; rfl
  have hb : ∀ x, ((fromL l x).all fun y => decide (y ∉ left)) = !anyIn (fromL l x) left := fun x => by
    rw [anyIn, List.not_any_eq_all_not]; simp
  refine List.find?_eq_some_iff_getElem.2 ⟨by rw [hb, h1]; rfl, i, hi, hg i hi, fun j hj => ?_⟩
  rw [hg j (by omega), hb, hall j hj]; rfl
theorem pickO_none {l : List Eg} {left : List Int} (hall : ∀ j, j < left.length → anyIn (fromL l (left.getD j 0)) left = true) : pickO l left = none := by
  refine List.find?_eq_none.2 fun x hx => ?_
  obtain ⟨j, hj, rfl⟩ := List.mem_iff_getElem.1 hx
  have := hall j hj
  rw [List.getD_eq_getElem?_getD, List.getElem?_eq_getElem hj] at this
  have hb : ((fromL l left[j]).all fun y => decide (y ∉ left)) = !anyIn (fromL l left[j]) left := by
    rw [anyIn, List.not_any_eq_all_not]; simp
  rw [hb, show anyIn (fromL l left[j]) left = true from this]; decide
theorem order_fn (l : List Eg) (hl : l.length ≤ 1000) : Eng.Fn Try.prog 32 [.c (egsX l)] (Tells (.t [.c (intsX (ordL l).1), .c (.b (ordL l).2)])) := by
  refine Eng.Fn.ofZJ tab_ok [200000] Try.func32 (by kernel_rfl) (by kernel_rfl) ?_ (fun w0 => ?_)
  · intro x hx
    simp only [List.mem_cons, List.not_mem_nil, or_false] at hx
    rcases hx with rfl | rfl <;> trivial
  conv => whnf
  have hnl := nodes_len l
  refine scopel tab_ok 0 rfl (fun (i : List Int × List Int) => ordG l i.1.length i.1 i.2 = ordL l ∧ i.1.length + i.2.length = (nodesL l).length ∧ i.1.Nodup)
    (fun i => [(0, .c (egsX l)), (4, .c (.p 0 0)), (5, .c (.ow 1))]) (fun i => [.cells 57 [intsX i.1], rowI 3 i.2]) (fun i => i.1.length) 38 ?_ (fun i hi => ?_)
  · conv => whnf
    refine callx_tells (nodes_fn l (by omega)) rfl trivial ?_
    conv => whnf
    refine labx_nil 5 3 1 rfl ?_
    conv => whnf
    refine labx_go ⟨(nodesL l, []), ⟨rfl, rfl, ris_nodup (nodes_ris l)⟩, rfl, ?_⟩
    refine ⟨?_, ?_, rfl⟩ <;> repeat' (first | exact trivial | exact entV_refl _ | exact entL_refl _ | exact entLL_refl _ | exact ⟨rfl, rfl⟩ | rfl | apply And.intro)
  · obtain ⟨left, out⟩ := i
    obtain ⟨hord, hsum, hnd⟩ := hi
    have hord : ordG l left.length left out = ordL l := hord
    have hsum : left.length + out.length = (nodesL l).length := hsum
    have hnd : left.Nodup := hnd
    conv => whnf
    refine And.intro (fun h1 => ?_) (fun h1 => ?_)
    · have h1 : left = [] := by simpa using h1
      subst h1
      conv => whnf
      rw [← hord]
      exact ⟨ints_ent2 (entLL_refl _), rfl, trivial⟩
    · have h1 : left ≠ [] := by simpa using h1
      conv => whnf
      refine loopi tab_ok (fun j => j ≤ left.length ∧ ∀ i, i < j → anyIn (fromL l (left.getD i 0)) left = true)
        (fun j => [(0, .c (egsX l)), (4, .c (.p 0 0)), (5, .c (.ow 1)), (14, .c (intsX left)), (15, .c (.i .i64 left.length)), (16, .c (.i .i64 j))]) (fun j => [.cells 57 [intsX left], rowI 3 out]) (fun j => left.length - j) 0 _ rfl ⟨Nat.zero_le _, fun i h => by omega⟩ ?_ (fun j hj => ?_)
      · refine ⟨?_, ?_, rfl⟩ <;> repeat' (first | exact trivial | exact entV_refl _ | exact entL_refl _ | exact entLL_refl _ | exact ⟨rfl, rfl⟩ | rfl | apply And.intro)
      · obtain ⟨hj, hall⟩ := hj
        conv => whnf
        refine And.intro (fun h2 => ?_) (fun h2 => ?_)
        · have h2 : j < left.length := by simp at h2; omega
          conv => whnf
          refine ⟨by omega, ?_⟩
          conv => whnf
          rw [Int.toNat_natCast]
          generalize hx : left.getD j 0 = x
          have hfl := from_len l x
          refine callx_tells (from_fn l x (by omega)) rfl trivial ?_
          conv => whnf
          refine callx_m (containsFunc_m (fromL l x) left (by omega) (by omega)) [0] (by kernel_rfl) ⟨entV_refl _, ent_fn1 rfl, trivial⟩ ⟨⟨rfl, entL_refl _⟩, trivial⟩ ?_
          conv => whnf
          refine And.intro (fun h3 => ?_) (fun h3 => ?_)
          · have h3 : anyIn (fromL l x) left = false := by simpa using h3
            have hp := pickO_at h2 (by rw [hx]; exact h3) hall
            rw [hx] at hp
            conv => whnf
            refine ⟨by simp only [List.length_map, List.length_cons, List.length_nil]; omega, ?_⟩
            conv => whnf
            refine callx_m (cloneF_fn left (by omega) []) [] (by kernel_rfl) ⟨entV_refl _, trivial⟩ trivial ?_
            conv => whnf
            rw [wrap_succ (k := j) (by omega)]
            refine callx_m (delI_fn left j (j + 1) (by omega) (by omega)) [3] (by kernel_rfl) ⟨entV_refl _, entV_refl _, entV_refl _, trivial⟩ ⟨⟨⟨rfl, rfl⟩, entLL_refl _⟩, trivial⟩ ?_
            conv => whnf
            refine gotox_gh (.frz 3) ?_
            conv => whnf
            obtain ⟨n, hn⟩ : ∃ n, left.length = n + 1 := ⟨left.length - 1, by omega⟩
            have hl2 : (left.take j ++ left.drop (j + 1)).length = n := by simp; omega
            rw [hn, ordG, hp] at hord
            have hord : ordG l n (left.erase x) (out ++ [x]) = ordL l := hord
            rw [← hx, erase_at hnd h2, hx] at hord
            refine gotox_go ⟨(left.take j ++ left.drop (j + 1), out ++ [x]), ⟨by dsimp only; rw [hl2]; exact hord, by dsimp only; rw [hl2]; simp; omega, ?_⟩, by dsimp only; omega, rfl, ?_⟩
            · dsimp only
              rw [← erase_at hnd h2]
              exact hnd.erase _
            refine ⟨?_, ?_, rfl⟩ <;> repeat' (first | exact trivial | exact entV_refl _ | exact ⟨rfl, rfl⟩ | exact ints_ent2 (entLL_refl _) | apply And.intro)
            all_goals first | rfl | exact entLL_of_eq (by rw [List.map_append]; rfl)
          · have h3 : anyIn (fromL l x) left = true := by simpa using h3
            conv => whnf
            refine ⟨j + 1, ⟨by omega, fun i hi => ?_⟩, by omega, rfl, ?_⟩
            · by_cases e : i = j
              · rw [e, hx]; exact h3
              · exact hall i (by omega)
            refine ⟨?_, ?_, rfl⟩ <;> repeat' (first | exact trivial | exact entV_refl _ | exact entL_refl _ | exact entLL_refl _ | exact ⟨rfl, rfl⟩ | exact wrap_succ (by omega) | rfl | apply And.intro)
        · have h2 : j = left.length := by simp at h2; omega
          subst h2
          conv => whnf
          obtain ⟨n, hn⟩ : ∃ n, left.length = n + 1 := ⟨left.length - 1, by have := List.length_pos_iff.2 h1; omega⟩
          rw [hn, ordG, pickO_none hall] at hord
          rw [← hord]
          exact ⟨nil_ints, rfl, trivial⟩
end Go.Proofs.Ytehbalkhboedeaa
