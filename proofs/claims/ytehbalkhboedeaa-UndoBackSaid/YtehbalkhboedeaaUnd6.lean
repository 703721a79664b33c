/- The reference's log: the last of one is taken back. -/
import Derived.Test.YtehbalkhboedeaaUnd4
namespace Go.Proofs.Ytehbalkhboedeaa
open Go Go.Eng Go.RowKit
set_option maxRecDepth 100000
set_option maxHeartbeats 8000000
set_option linter.unusedVariables false
set_option linter.unusedSimpArgs false
def lastIx (l : Lg) (k : Int) : Nat → Option Nat
  | 0 => none
  | m + 1 => if (l.getD m default).1 = k then some m else lastIx l k m
def backL (l : Lg) (k : Int) : Lg := match lastIx l k l.length with
  | none => l
  | some m => l.take m ++ l.drop (m + 1)
def backR (l : Lg) (k : Int) : Rw := match lastIx l k l.length with
  | none => ⟨0, 0, 0, 0, 0, 0⟩
  | some m => (l.getD m default).2
theorem rowsN_take (l : Lg) (i : Nat) (h : i ≤ l.length) : rowsOf (i : Int).toNat 7 (fun i j => nthC (encN (l.getD i default)) j) = (l.take i).map encN := by
  apply List.ext_getElem
  · simp [rowsOf]; omega
  · intro j h1 h2
    have hi : j < l.length := by simp [rowsOf] at h1; omega
    simp [rowsOf, List.getD, hi, encN, encU, nthC, List.range_succ]
theorem rowsN_drop (l : Lg) (i : Nat) (h : i ≤ l.length) : rowsOf (l.length - (i : Int).toNat) 7 (fun j => (fun i j => nthC (encN (l.getD i default)) j) ((i : Int).toNat + j)) = (l.drop i).map encN := by
  apply List.ext_getElem
  · simp [rowsOf]
  · intro j h1 h2
    have hi : i + j < l.length := by simp [rowsOf] at h1; omega
    simp [rowsOf, List.getD, hi, encN, encU, nthC, List.range_succ]
theorem ts_ent {l m' : Lg} {m : Nat} (h : (rowsOf (l.length - ((m + 1 : Nat) : Int).toNat) 7 fun i => (fun i j => nthC (encN (l.getD i default)) j) (((m + 1 : Nat) : Int).toNat + i)).length = 0) (hb : m' = l.take m ++ l.drop (m + 1)) (hm : m + 1 ≤ l.length) :
    entC (.ts (m : Int).toNat 7 fun i j => nthC (encN (l.getD i default)) j) (lgX m') := by
  have h1 : l.length ≤ m + 1 := by simp [rowsOf] at h; omega
  have h2 : m' = l.take m := by rw [hb, List.drop_of_length_le h1, List.append_nil]
  subst h2
  have hlen : (l.take m).length = m := by rw [List.length_take]; omega
  refine ⟨by rw [hlen, Int.toNat_natCast], rfl, fun i hi j hj => ?_⟩
  have hi : i < m := by rw [hlen] at hi; exact hi
  show entC (nthC (encN (l.getD i default)) j) (nthC (encN ((l.take m).getD i default)) j)
  rw [show (l.take m).getD i default = l.getD i default by rw [List.getD_eq_getElem?_getD, List.getD_eq_getElem?_getD, List.getElem?_take, if_pos hi]]
  exact entC_refl _
theorem rback_fn (l : Lg) (k : Int) (hl : l.length ≤ 1000) :
    FnM Try.prog 12 [.c (.p 0 0), .c (.i .i64 k)] [refI l] [.p 0 0] (.t [.a (encU (backR l k)), .c (.b (lastIx l k l.length).isSome)]) [refI (backL l k)] := by
  refine FnM.of tab_ok Try.func12 (by kernel_rfl) (by kernel_rfl) (fun vs => ?_)
  conv => whnf
  refine loopi_h tab_ok (fun m => m ≤ l.length ∧ lastIx l k l.length = lastIx l k m) (fun m => [(0, .c (.p 0 0)), (1, .c (.i .i64 k)), (4, .c (.p 2 0)), (5, .c .bf), (6, .c (.i .i64 ((m : Int) - 1)))]) (fun m => []) (fun m => m) l.length 50 rfl ⟨Nat.le_refl _, rfl⟩ ?_ (fun m hm => ?_)
  · conv => whnf
    refine ⟨?_, ?_, rfl⟩ <;> repeat' (first | exact trivial | exact entV_refl _ | exact entTs_refl _ | exact entL_refl _ | exact ⟨rfl, rfl⟩ | rfl | exact wrap_ok (by omega) (by omega) | apply And.intro)
  · obtain ⟨hm, hix⟩ := hm
    conv => whnf
    refine And.intro (fun h1 => ?_) (fun h1 => ?_)
    · have h1 : 1 ≤ m := by simp at h1; omega
      obtain ⟨m, rfl⟩ : ∃ q, m = q + 1 := ⟨m - 1, by omega⟩
      have hm : m + 1 ≤ l.length := hm
      have e1 : (((m + 1 : Nat) : Int) - 1) = (m : Int) := by omega
      rw [lastIx] at hix
      rw [e1]
      conv => whnf
      refine ⟨by omega, ?_⟩
      conv => whnf
      rw [Int.toNat_natCast]
      have hgr : backR l k = match lastIx l k l.length with | none => ⟨0, 0, 0, 0, 0, 0⟩ | some m => (l.getD m default).2 := rfl
      generalize hp : l.getD m default = p at *
      refine And.intro (fun h2 => ?_) (fun h2 => ?_)
      · have h2 : p.1 = k := by simpa using h2
        rw [if_pos h2] at hix
        rw [hix] at hgr
        have hgr : backR l k = p.2 := by rw [hgr, ← hp]
        conv => whnf
        refine drawx_plan tab_ok [0] (.take 0 (.take 1 (.take 2 (.take 3 (.take 5 (.take 6 (.take 8 (.take 9 (.take 10 (.take 12 (.take 13 (.alt 4 (.take 7 (.one 11 (.take 14 (.one 15 (.take 16 (.take 17 (.one 18 .done))))))) (.one 11 (.take 14 (.one 4 (.take 7 (.one 15 (.take 16 (.take 17 (.one 18 .done)))))))))))))))))))) (by kernel_rfl) (by kernel_rfl) (by kernel_rfl) ?_
        conv => whnf
        have hbl : backL l k = l.take m ++ l.drop (m + 1) := by unfold backL; rw [hix]
        rw [hix]
        refine And.intro ?_ ?_
        · conv => whnf
          refine ⟨by omega, ?_⟩
          conv => whnf
          rw [wrap_succ (by omega)]
          refine ⟨by omega, ?_⟩
          conv => whnf
          refine And.intro (fun h3 => ?_) (fun h3 => ⟨?_, ?_⟩)
          · conv => whnf
            rw [hgr]
            exact mt_done_t (l := [.a (encU p.2), .c (.b true)]) (hs' := [refI (backL l k)]) (fx := [.p 0 0]) (x := .t [.a (encU p.2), .c .bt]) (ys := [.c (.p 0 0)]) [0] 1 rfl rfl rfl (by simp) rfl rfl ⟨entL_refl _, rfl, trivial⟩ ⟨entV_refl _, trivial⟩ ⟨⟨rfl, ⟨ts_ent h3 hbl hm, trivial⟩⟩, trivial⟩
          · rw [rowsN_take l m (by omega), rowsN_drop l (m + 1) (by omega)]
            simp only [List.length_map, List.length_take, List.length_drop]; omega
          · conv => whnf
            refine mt_gh (.frz 4) (v := .t [.a (encU (backR l k)), .c (.b true)]) (hs' := [refI (backL l k)]) (fx := [.p 0 0]) (x := .t [.a (encU p.2), .c .bt]) ?_
            conv => whnf
            rw [hgr]
            exact mt_done_t (l := [.a (encU p.2), .c (.b true)]) (hs' := [refI (backL l k)]) (fx := [.p 0 0]) (x := .t [.a (encU p.2), .c .bt]) (ys := [.c (.p 0 0)]) [0] 1 rfl rfl rfl (by simp) rfl rfl ⟨entL_refl _, rfl, trivial⟩ ⟨entV_refl _, trivial⟩ ⟨⟨rfl, ⟨lg_ent2 (entLL_of_eq (by rw [hbl, rowsN_take l m (by omega), rowsN_drop l (m + 1) (by omega), List.map_append])), trivial⟩⟩, trivial⟩
        · conv => whnf
          rw [wrap_succ (by omega)]
          refine ⟨by omega, ?_⟩
          conv => whnf
          refine ⟨by omega, ?_⟩
          conv => whnf
          refine And.intro (fun h3 => ?_) (fun h3 => ⟨?_, ?_⟩)
          · conv => whnf
            rw [hgr]
            exact mt_done_t (l := [.a (encU p.2), .c (.b true)]) (hs' := [refI (backL l k)]) (fx := [.p 0 0]) (x := .t [.a (encU p.2), .c .bt]) (ys := [.c (.p 0 0)]) [0] 1 rfl rfl rfl (by simp) rfl rfl ⟨entL_refl _, rfl, trivial⟩ ⟨entV_refl _, trivial⟩ ⟨⟨rfl, ⟨ts_ent h3 hbl hm, trivial⟩⟩, trivial⟩
          · rw [rowsN_take l m (by omega), rowsN_drop l (m + 1) (by omega)]
            simp only [List.length_map, List.length_take, List.length_drop]; omega
          · conv => whnf
            refine mt_gh (.frz 4) (v := .t [.a (encU (backR l k)), .c (.b true)]) (hs' := [refI (backL l k)]) (fx := [.p 0 0]) (x := .t [.a (encU p.2), .c .bt]) ?_
            conv => whnf
            rw [hgr]
            exact mt_done_t (l := [.a (encU p.2), .c (.b true)]) (hs' := [refI (backL l k)]) (fx := [.p 0 0]) (x := .t [.a (encU p.2), .c .bt]) (ys := [.c (.p 0 0)]) [0] 1 rfl rfl rfl (by simp) rfl rfl ⟨entL_refl _, rfl, trivial⟩ ⟨entV_refl _, trivial⟩ ⟨⟨rfl, ⟨lg_ent2 (entLL_of_eq (by rw [hbl, rowsN_take l m (by omega), rowsN_drop l (m + 1) (by omega), List.map_append])), trivial⟩⟩, trivial⟩
      · have h2 : ¬ p.1 = k := by simpa using h2
        rw [if_neg h2] at hix
        conv => whnf
        refine ⟨m, ⟨by omega, hix⟩, by omega, rfl, ?_⟩
        conv => whnf
        refine ⟨?_, ?_, rfl⟩ <;> repeat' (first | exact trivial | exact entV_refl _ | exact entTs_refl _ | exact entL_refl _ | exact ⟨rfl, rfl⟩ | rfl | exact wrap_ok (by omega) (by omega) | apply And.intro)
    · have h1 : m = 0 := by simp at h1; omega
      subst h1
      have hix : lastIx l k l.length = none := hix
      have e1 : backR l k = ⟨0, 0, 0, 0, 0, 0⟩ := by unfold backR; rw [hix]
      have e2 : backL l k = l := by unfold backL; rw [hix]
      rw [e1, e2, hix]
      conv => whnf
      exact mt_done_t (l := [.a (encU ⟨0, 0, 0, 0, 0, 0⟩), .c (.b false)]) (hs' := [refI l]) (fx := [.p 0 0]) (x := .t [.a [.il .i64 0, .il .i64 0, .il .i64 0, .il .i64 0, .il .i64 0, .il .i64 0], .c .bf]) (ys := [.c (.p 0 0)]) [0] 1 rfl rfl rfl (by simp) rfl rfl ⟨⟨⟨rfl, rfl⟩, ⟨rfl, rfl⟩, ⟨rfl, rfl⟩, ⟨rfl, rfl⟩, ⟨rfl, rfl⟩, ⟨rfl, rfl⟩, trivial⟩, rfl, trivial⟩ ⟨entV_refl _, trivial⟩ ⟨⟨rfl, entL_refl _⟩, trivial⟩
end Go.Proofs.Ytehbalkhboedeaa
