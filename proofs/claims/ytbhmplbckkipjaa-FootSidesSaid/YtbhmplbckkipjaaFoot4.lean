/- What the transactions of a client touch. -/
import Derived.Test.YtbhmplbckkipjaaFoot3
import Derived.Test.YtbhmplbckkipjaaEngGg
namespace Go.Proofs.Ytbhmplbckkipjaa
open Go Go.Eng Go.RowKit
set_option maxRecDepth 100000
set_option maxHeartbeats 4000000
set_option linter.unusedVariables false
set_option linter.unusedSimpArgs false
structure TxS where
  inn : Bool
  out : List (List Ft)
  now : List Ft
def endT (s : TxS) : TxS := ⟨false, if s.inn = true then s.out ++ [s.now] else s.out, []⟩
def stepT (s : TxS) (o : Opr) : TxS :=
  if ¬ OkP o then s
  else if o.k = 1 then { s with inn := true }
  else if (footO o).2 = true ∧ s.inn = true then { s with now := s.now ++ [(footO o).1] }
  else if (footO o).2 = false then endT s else s
def runT (l : List Opr) (k : Nat) : TxS := (l.take k).foldl stepT ⟨false, [], []⟩
def txsL (l : List Opr) : List (List Ft) := (endT (runT l l.length)).out
abbrev oprsX (l : List Opr) : XC := rowX encO default 7 l
abbrev feetX (l : List Ft) : XC := rowX encF default 6 l
def encFs (l : List Ft) : List XC := [feetX l]
abbrev feetsX (l : List (List Ft)) : XC := rowX encFs [] 1 l
theorem endT_len (s : TxS) : (endT s).out.length ≤ s.out.length + 1 := by
  unfold endT; dsimp only; split <;> simp
theorem stepT_len (s : TxS) (o : Opr) : (stepT s o).out.length ≤ s.out.length + 1 ∧ (stepT s o).now.length ≤ s.now.length + 1 := by
  unfold stepT
  have := endT_len s
  split
  · exact ⟨by omega, by omega⟩
  · split
    · exact ⟨by dsimp only; omega, by dsimp only; omega⟩
    · split
      · exact ⟨by dsimp only; omega, by dsimp only; simp⟩
      · split
        · exact ⟨this, by simp [endT]⟩
        · exact ⟨by omega, by omega⟩
theorem runT_succ (l : List Opr) (k : Nat) (hk : k < l.length) : runT l (k + 1) = stepT (runT l k) (l.getD k default) := foldl_take_succ _ _ _ _ _ hk
theorem runT_len (l : List Opr) : ∀ k, k ≤ l.length → (runT l k).out.length ≤ k ∧ (runT l k).now.length ≤ k
  | 0, _ => ⟨by simp [runT], by simp [runT]⟩
  | k + 1, h => by
    have h1 := runT_len l k (by omega)
    have h2 := stepT_len (runT l k) (l.getD k default)
    rw [runT_succ l k (by omega)]
    omega
theorem footO_st (a : Ft) (b : Bool) : stX (.t [.a (encF a), .c (.b b)]) := by
  intro x hx
  simp only [List.mem_cons, List.not_mem_nil, or_false] at hx
  rcases hx with rfl | rfl
  · exact fun y hy => allSt_iff (l := encF a) rfl y hy
  · trivial
theorem rowX_ent {α : Type} (enc : α → List XC) (d : α) (z : Nat) (l : List α) {xs : List (List XC)} (h : entLL xs (l.map enc)) : entC (rsOf xs z) (rowX enc d z l) := by
  have hl := entLL_len h
  rw [List.length_map] at hl
  refine ⟨hl, rfl, fun i hi j hj => ?_⟩
  have h1 := nthC_ent (nthL_ent h i (by rw [hl]; simpa using hi)) j
  rw [nthL_map _ d l i hi] at h1
  exact h1
theorem feets_now (s : List Ft) : entL [.rs (s.map encF).length 6 (cell2 (s.map encF))] (encFs s) := ⟨rowX_ent encF default 6 s (entLL_refl _), trivial⟩
theorem txs_fn (l : List Opr) (hl : l.length ≤ 10000) : Eng.Fn Try.prog 20 [.c (oprsX l)] (Tells (.c (feetsX (txsL l)))) := by
  refine Eng.Fn.ofZJ tab_ok [100016] Try.func20 (by kernel_rfl) (by kernel_rfl) trivial (fun w0 => ?_)
  conv => whnf
  refine loopx_gh (.nil 0 0 3 46 1 false) ?_
  conv => whnf
  refine loopx_gh (.nil 1 0 4 39 6 false) ?_
  conv => whnf
  refine loopi tab_ok (fun k => k ≤ l.length) (fun k => [(3, .c (.p 0 0)), (4, .c (.p 1 0)), (5, .c (.p 2 0)), (6, .c (.fn 78 3 (nthC [.p 2 0, .p 0 0, .p 1 0]))), (12, .c (oprsX l)), (13, .c (.i .i64 l.length)), (14, .c (.i .i64 k))])
    (fun k => [.cells 43 [.ow 3], .cells 46 [.ow 4], .cells 4 [.b (runT l k).inn], .row 46 1 ((runT l k).out.map encFs), .row 39 6 ((runT l k).now.map encF)]) (fun k => l.length - k) 0 49 rfl (Nat.zero_le _) ?_ (fun k hk => ?_)
  · refine ⟨?_, ?_, rfl⟩ <;> repeat' (first | exact trivial | exact entV_refl _ | exact entL_refl _ | apply And.intro)
    all_goals rfl
  · have hrl := runT_len l k hk
    conv => whnf
    refine And.intro (fun h1 => ?_) (fun h1 => ?_)
    · conv => whnf
      simp only [decide_eq_true_eq] at h1
      have h2 : k < l.length := by omega
      have hs := runT_succ l k h2
      refine ⟨by omega, ?_⟩
      conv => whnf
      generalize hb : l.getD (Int.toNat (k : Int)) default = o
      have hb : l.getD k default = o := hb
      rw [hb] at hs
      refine callx_tells (footOf_fn o) rfl (footO_st _ _) ?_
      conv => whnf
      refine callx_tells (check_fn o) rfl trivial ?_
      conv => whnf
      refine And.intro (fun h3 => ?_) (fun h3 => ?_)
      · have hok : ¬ OkP o := fun h => by simp [okI, h] at h3
        rw [stepT, if_pos hok] at hs
        conv => whnf
        refine regx_go tab_ok ?_
        conv => whnf
        refine ⟨k + 1, by omega, by omega, rfl, ?_⟩
        rw [hs]
        refine ⟨?_, ?_, rfl⟩ <;> repeat' (first | exact trivial | exact entV_refl _ | exact entL_refl _ | exact entLL_refl _ | exact wrap_succ (by omega) | rfl | apply And.intro)
      · have hok : OkP o := by
          by_cases h : OkP o
          · exact h
          · simp [okI, h] at h3
        rw [stepT, if_neg (fun h => h hok)] at hs
        conv => whnf
        refine And.intro (fun h4 => ?_) (fun h4 => ?_)
        · have h4 : o.k = 1 := by simpa using h4
          rw [if_pos h4] at hs
          conv => whnf
          refine regx_go tab_ok ?_
          conv => whnf
          refine ⟨k + 1, by omega, by omega, rfl, ?_⟩
          rw [hs]
          refine ⟨?_, ?_, rfl⟩ <;> repeat' (first | exact trivial | exact entV_refl _ | exact entL_refl _ | exact entLL_refl _ | exact wrap_succ (by omega) | rfl | apply And.intro)
        · have h4 : ¬ o.k = 1 := by simpa using h4
          rw [if_neg h4] at hs
          conv => whnf
          generalize hf : footO o = fo at hs
          obtain ⟨f, is⟩ := fo
          refine And.intro (fun h5 => ?_) (fun h5 => ?_)
          · obtain rfl : is = true := h5
            conv => whnf
            refine And.intro (fun h6 => ?_) (fun h6 => ?_)
            · rw [if_pos ⟨rfl, h6⟩] at hs
              conv => whnf
              refine ⟨by simp only [List.length_map, List.length_cons, List.length_nil]; omega, ?_⟩
              conv => whnf
              refine regx_go tab_ok ?_
              conv => whnf
              refine ⟨k + 1, by omega, by omega, rfl, ?_⟩
              rw [hs]
              refine ⟨?_, ?_, rfl⟩ <;> repeat' (first | exact trivial | exact entV_refl _ | exact entL_refl _ | exact entLL_refl _ | exact wrap_succ (by omega) | rfl | apply And.intro)
              all_goals (rw [List.map_append]; exact entLL_refl _)
            · rw [if_neg (fun h => by rw [h.2] at h6; simp at h6), if_neg (by simp)] at hs
              conv => whnf
              refine And.intro (fun h7 => by simp at h7) (fun _ => ?_)
              conv => whnf
              refine regx_go tab_ok ?_
              conv => whnf
              refine ⟨k + 1, by omega, by omega, rfl, ?_⟩
              rw [hs]
              refine ⟨?_, ?_, rfl⟩ <;> repeat' (first | exact trivial | exact entV_refl _ | exact entL_refl _ | exact entLL_refl _ | exact wrap_succ (by omega) | rfl | apply And.intro)
          · obtain rfl : is = false := h5
            rw [if_neg (fun h => by simp at h), if_pos rfl, endT] at hs
            conv => whnf
            refine And.intro (fun _ => ?_) (fun h7 => by simp at h7)
            conv => whnf
            refine callx_inline tab_ok Try.func78 (by kernel_rfl) (by kernel_rfl) (fun vs => ?_)
            conv => whnf
            refine And.intro (fun h6 => ?_) (fun h6 => ?_)
            · rw [if_pos h6] at hs
              conv => whnf
              refine ⟨by simp only [List.length_map, List.length_cons, List.length_nil]; omega, ?_⟩
              conv => whnf
              refine ⟨rfl, ?_⟩
              conv => whnf
              refine regx_gh (.nil 1 0 4 39 6 false) ?_
              conv => whnf
              refine regx_go tab_ok ?_
              conv => whnf
              refine ⟨k + 1, by omega, by omega, rfl, ?_⟩
              rw [hs]
              refine ⟨?_, ?_, rfl⟩ <;> repeat' (first | exact trivial | exact entV_refl _ | exact entL_refl _ | exact entLL_refl _ | exact wrap_succ (by omega) | rfl | apply And.intro)
              all_goals (rw [List.map_append]; exact entLL_append (entLL_refl _) ⟨feets_now _, trivial⟩)
            · rw [if_neg (by simp [h6])] at hs
              conv => whnf
              refine ⟨rfl, ?_⟩
              conv => whnf
              refine regx_gh (.drop 4) ?_
              conv => whnf
              refine regx_gh (.nil 1 0 4 39 6 false) ?_
              conv => whnf
              refine regx_go tab_ok ?_
              conv => whnf
              refine ⟨k + 1, by omega, by omega, rfl, ?_⟩
              rw [hs]
              refine ⟨?_, ?_, rfl⟩ <;> repeat' (first | exact trivial | exact entV_refl _ | exact entL_refl _ | exact entLL_refl _ | exact wrap_succ (by omega) | rfl | apply And.intro)
    · conv => whnf
      have h1 : k = l.length := by simp at h1; omega
      subst h1
      refine callx_inline tab_ok Try.func78 (by kernel_rfl) (by kernel_rfl) (fun vs => ?_)
      conv => whnf
      refine And.intro (fun h6 => ?_) (fun h6 => ?_)
      · conv => whnf
        refine ⟨by simp only [List.length_map, List.length_cons, List.length_nil]; omega, ?_⟩
        conv => whnf
        refine ⟨rfl, ?_⟩
        conv => whnf
        refine rowX_ent encFs [] 1 (txsL l) ?_
        rw [txsL, endT, if_pos h6, List.map_append]
        exact entLL_append (entLL_refl _) ⟨feets_now _, trivial⟩
      · conv => whnf
        refine ⟨rfl, ?_⟩
        conv => whnf
        refine rowX_ent encFs [] 1 (txsL l) ?_
        rw [txsL, endT, if_neg (by simp [h6])]
        exact entLL_refl _
end Go.Proofs.Ytbhmplbckkipjaa
