/- The reference's log: all of one goes; a note is put in; the last of one is taken back. -/
import Derived.Test.YtehbalkhboedeaaUnd4
namespace Go.Proofs.Ytehbalkhboedeaa
open Go Go.Eng Go.RowKit
set_option maxRecDepth 100000
set_option maxHeartbeats 8000000
set_option linter.unusedVariables false
set_option linter.unusedSimpArgs false
def dropL (l : Lg) (k : Int) : Lg := l.filter fun p => !(p.1 == k)
theorem dropL_take {l : Lg} {i : Nat} (h : i < l.length) (k : Int) : dropL (l.take (i + 1)) k = dropL (l.take i) k ++ if (l.getD i default).1 = k then [] else [l.getD i default] := by
  rw [take_snocU default h]
  generalize l.getD i default = p
  unfold dropL
  rw [List.filter_append]
  by_cases e : p.1 = k <;> simp [List.filter_cons, e]
theorem dropL_len (l : Lg) (k : Int) : (dropL l k).length ≤ l.length := List.length_filter_le _ _
theorem rdrop_fn (l : Lg) (k : Int) (hl : l.length ≤ 1000) :
    FnM Try.prog 14 [.c (.p 0 0), .c (.i .i64 k)] [refI l] [.p 0 0] (.c (.i .i64 (gOf l k).length)) [refI (dropL l k)] := by
  refine FnM.of tab_ok Try.func14 (by kernel_rfl) (by kernel_rfl) (fun vs => ?_)
  conv => whnf
  refine callx_m (of20_fn l k hl) [0] (by kernel_rfl) ⟨entV_refl _, entV_refl _, trivial⟩ ⟨⟨rfl, entL_refl _⟩, trivial⟩ ?_
  conv => whnf
  refine loopx_nil 6 76 7 rfl ?_
  conv => whnf
  refine loopi_h tab_ok (fun i => i ≤ l.length) (fun i => [(0, .c (.p 0 0)), (1, .c (.i .i64 k)), (5, .c (.i .i64 (gOf l k).length)), (6, .c (.ow 2)), (16, .c (lgX l)), (17, .c (.i .i64 l.length)), (18, .c (.i .i64 i))]) (fun i => [(2, .row 76 7 ((dropL (l.take i) k).map encN))]) (fun i => l.length - i) 0 36 rfl (Nat.zero_le _) ?_ (fun i hi => ?_)
  · conv => whnf
    refine ⟨?_, ?_, rfl⟩ <;> repeat' (first | exact trivial | exact entV_refl _ | exact entTs_refl _ | exact entL_refl _ | exact ⟨rfl, rfl⟩ | rfl | apply And.intro)
  · have hgl := dropL_len (l.take i) k
    have htl := List.length_take_le i l
    conv => whnf
    refine And.intro (fun h1 => ?_) (fun h1 => ?_)
    · have h1 : i < l.length := by simp at h1; omega
      have hstep := dropL_take h1 k
      conv => whnf
      refine ⟨by omega, ?_⟩
      conv => whnf
      rw [Int.toNat_natCast]
      generalize l.getD i default = p at *
      refine And.intro (fun h2 => ?_) (fun h2 => ?_)
      · have h2 : ¬ p.1 = k := by simpa using h2
        conv => whnf
        refine ⟨by simp only [List.length_map, List.length_cons, List.length_nil]; omega, ?_⟩
        conv => whnf
        refine ⟨i + 1, by omega, by omega, rfl, ?_⟩
        rw [hstep, if_neg h2]
        conv => whnf
        refine ⟨?_, ?_, rfl⟩ <;> repeat' (first | exact trivial | exact entV_refl _ | exact entTs_refl _ | exact entL_refl _ | exact ⟨rfl, rfl⟩ | exact wrap_succ (by omega) | apply And.intro)
        all_goals first | rfl | exact entLL_of_eq (by rw [List.map_append]; rfl)
      · have h2 : p.1 = k := by simpa using h2
        conv => whnf
        refine ⟨i + 1, by omega, by omega, rfl, ?_⟩
        rw [hstep, if_pos h2, List.append_nil]
        conv => whnf
        refine ⟨?_, ?_, rfl⟩ <;> repeat' (first | exact trivial | exact entV_refl _ | exact entTs_refl _ | exact entL_refl _ | exact entLL_refl _ | exact ⟨rfl, rfl⟩ | exact wrap_succ (by omega) | rfl | apply And.intro)
    · have h1 : i = l.length := by simp at h1; omega
      subst h1
      rw [List.take_length]
      conv => whnf
      refine mt_gh (.frz 2) (v := .c (.i .i64 (gOf l k).length)) (hs' := [refI (dropL l k)]) (fx := [.p 0 0]) (x := .c (.i .i64 (gOf l k).length)) ?_
      conv => whnf
      refine mt_done (v := .c (.i .i64 (gOf l k).length)) (hs' := [refI (dropL l k)]) (fx := [.p 0 0]) (x := .c (.i .i64 (gOf l k).length)) (ys := [.c (.p 0 0)]) [0] 1 rfl rfl rfl rfl rfl (entV_refl _) ⟨entV_refl _, trivial⟩ ⟨⟨rfl, ?_⟩, trivial⟩
      exact ⟨lg_ent2 (entLL_refl _), trivial⟩
def noteL (l : Lg) (k : Int) (r : Rw) : Lg := if 1 ≤ k then l ++ [(k, r)] else l
theorem rowsN_all (l : Lg) : rowsOf l.length 7 (fun i j => nthC (encN (l.getD i default)) j) = l.map encN := by
  apply List.ext_getElem
  · simp [rowsOf]
  · intro i h1 h2
    have hi : i < l.length := by simpa [rowsOf] using h1
    simp [rowsOf, List.getD, hi, encN, encU, nthC, List.range_succ]
theorem radd_fn (l : Lg) (k : Int) (r : Rw) (hl : l.length ≤ 1000) :
    FnM Try.prog 16 [.c (.p 0 0), .c (.i .i64 k), .a (encP r), .c (.i .i64 r.v)] [refI l] [.p 0 0] (.c (.b (decide (1 ≤ k)))) [refI (noteL l k r)] := by
  refine FnM.of tab_ok Try.func16 (by kernel_rfl) (by kernel_rfl) (fun vs => ?_)
  conv => whnf
  refine And.intro (fun h1 => ?_) (fun h1 => ?_)
  · have h1 : k < 1 := by simpa using h1
    conv => whnf
    have e1 : decide (1 ≤ k) = false := by simp; omega
    rw [e1, noteL, if_neg (by omega)]
    exact mt_done (v := .c (.b false)) (hs' := [refI l]) (fx := [.p 0 0]) (x := .c .bf) (ys := [.c (.p 0 0)]) [0] 1 rfl rfl rfl rfl rfl rfl ⟨entV_refl _, trivial⟩ ⟨⟨rfl, entL_refl _⟩, trivial⟩
  · have h1 : 1 ≤ k := by simp at h1; omega
    have e1 : decide (1 ≤ k) = true := by simp; omega
    rw [e1, noteL, if_pos h1]
    conv => whnf
    refine drawx_plan tab_ok [0] (.take 0 (.take 1 (.take 2 (.take 3 (.take 5 (.take 6 (.take 7 (.take 10 (.take 11 (.take 12 (.take 16 (.take 17 (.take 18 (.take 19 (.take 20 (.alt 4 (.alt 8 (.take 9 (.alt 13 (.take 14 (.take 15 (.one 21 (.one 22 (.take 23 (.take 24 (.one 25 .done))))))) (.one 21 (.one 13 (.take 14 (.take 15 (.one 22 (.take 23 (.take 24 (.one 25 .done)))))))))) (.alt 13 (.take 14 (.alt 8 (.take 9 (.take 15 (.one 21 (.one 22 (.take 23 (.take 24 (.one 25 .done))))))) (.one 21 (.one 8 (.take 9 (.take 15 (.one 22 (.take 23 (.take 24 (.one 25 .done)))))))))) (.one 21 (.alt 8 (.take 9 (.one 13 (.take 14 (.take 15 (.one 22 (.take 23 (.take 24 (.one 25 .done)))))))) (.one 13 (.take 14 (.one 8 (.take 9 (.take 15 (.one 22 (.take 23 (.take 24 (.one 25 .done))))))))))))) (.alt 8 (.take 9 (.alt 4 (.alt 13 (.take 14 (.take 15 (.one 21 (.one 22 (.take 23 (.take 24 (.one 25 .done))))))) (.one 21 (.one 13 (.take 14 (.take 15 (.one 22 (.take 23 (.take 24 (.one 25 .done))))))))) (.alt 13 (.take 14 (.alt 4 (.take 15 (.one 21 (.one 22 (.take 23 (.take 24 (.one 25 .done)))))) (.one 21 (.one 4 (.take 15 (.one 22 (.take 23 (.take 24 (.one 25 .done))))))))) (.one 21 (.alt 4 (.one 13 (.take 14 (.take 15 (.one 22 (.take 23 (.take 24 (.one 25 .done))))))) (.one 13 (.take 14 (.one 4 (.take 15 (.one 22 (.take 23 (.take 24 (.one 25 .done))))))))))))) (.alt 13 (.take 14 (.alt 4 (.alt 8 (.take 9 (.take 15 (.one 21 (.one 22 (.take 23 (.take 24 (.one 25 .done))))))) (.one 21 (.one 8 (.take 9 (.take 15 (.one 22 (.take 23 (.take 24 (.one 25 .done))))))))) (.alt 8 (.take 9 (.alt 4 (.take 15 (.one 21 (.one 22 (.take 23 (.take 24 (.one 25 .done)))))) (.one 21 (.one 4 (.take 15 (.one 22 (.take 23 (.take 24 (.one 25 .done))))))))) (.one 21 (.alt 4 (.one 8 (.take 9 (.take 15 (.one 22 (.take 23 (.take 24 (.one 25 .done))))))) (.one 8 (.take 9 (.one 4 (.take 15 (.one 22 (.take 23 (.take 24 (.one 25 .done))))))))))))) (.one 21 (.alt 4 (.alt 8 (.take 9 (.one 13 (.take 14 (.take 15 (.one 22 (.take 23 (.take 24 (.one 25 .done)))))))) (.one 13 (.take 14 (.one 8 (.take 9 (.take 15 (.one 22 (.take 23 (.take 24 (.one 25 .done)))))))))) (.alt 8 (.take 9 (.alt 4 (.one 13 (.take 14 (.take 15 (.one 22 (.take 23 (.take 24 (.one 25 .done))))))) (.one 13 (.take 14 (.one 4 (.take 15 (.one 22 (.take 23 (.take 24 (.one 25 .done)))))))))) (.one 13 (.take 14 (.alt 4 (.one 8 (.take 9 (.take 15 (.one 22 (.take 23 (.take 24 (.one 25 .done))))))) (.one 8 (.take 9 (.one 4 (.take 15 (.one 22 (.take 23 (.take 24 (.one 25 .done)))))))))))))))))))))))))))))))) (by kernel_rfl) (by kernel_rfl) (by kernel_rfl) ?_
    conv => whnf
    have hb1 : ((l.map encN).length + 1 : Nat) ≤ 1000000000 := by rw [List.length_map]; omega
    repeat' (first
      | (refine ⟨⟨by omega, rfl, by omega⟩, ?_⟩; conv => whnf)
      | (refine And.intro (fun h => absurd h (by simp)) (fun _ => ⟨by rw [show rowsOf (l.length : Int).toNat 7 (fun i j => nthC (encN (l.getD i default)) j) = l.map encN from rowsN_all l]; exact hb1, ?_⟩); conv => whnf)
      | (refine And.intro ?_ ?_ <;> conv => whnf))
    all_goals
      refine mt_gh (.frz 4) (v := .c (.b true)) (hs' := [refI (l ++ [(k, r)])]) (fx := [.p 0 0]) (x := .c .bt) ?_
      conv => whnf
      exact mt_done (v := .c (.b true)) (hs' := [refI (l ++ [(k, r)])]) (fx := [.p 0 0]) (x := .c .bt) (ys := [.c (.p 0 0)]) [0] 1 rfl rfl rfl rfl rfl rfl ⟨entV_refl _, trivial⟩ ⟨⟨rfl, ⟨lg_ent2 (entLL_of_eq (by rw [show rowsOf (l.length : Int).toNat 7 (fun i j => nthC (encN (l.getD i default)) j) = l.map encN from rowsN_all l, List.map_append]; rfl)), trivial⟩⟩, trivial⟩
end Go.Proofs.Ytehbalkhboedeaa
