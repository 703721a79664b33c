/- The reference's log. -/
import Derived.Test.YtehbalkhboedeaaUnd3
namespace Go.Proofs.Ytehbalkhboedeaa
open Go Go.Eng Go.RowKit
set_option maxRecDepth 100000
set_option maxHeartbeats 8000000
set_option linter.unusedVariables false
set_option linter.unusedSimpArgs false
def encN (p : Int × Rw) : List XC := .i .i64 p.1 :: encU p.2
abbrev lgX (l : Lg) : XC := rowX encN default 7 l
abbrev refI (l : Lg) : It := .cells 29 [lgX l]
theorem lg_ent2 {xs : List (List XC)} {l : Lg} (h : entLL xs (l.map encN)) : entC (rsOf xs 7) (lgX l) := by
  have hl := entLL_len h
  rw [List.length_map] at hl
  refine ⟨hl, rfl, fun i hi j hj => ?_⟩
  have h1 := nthC_ent (nthL_ent h i (by rw [hl]; simpa using hi)) j
  rw [nthL_map encN default l i (by simpa using hi)] at h1
  exact h1
theorem gOf_take {l : Lg} {i : Nat} (h : i < l.length) (k : Int) : gOf (l.take (i + 1)) k = gOf (l.take i) k ++ if (l.getD i default).1 = k then [(l.getD i default).2] else [] := by
  rw [take_snocU default h]
  generalize l.getD i default = p
  unfold gOf
  rw [List.filter_append, List.map_append]
  by_cases e : p.1 = k <;> simp [List.filter_cons, e]
theorem of20_fn (l : Lg) (k : Int) (hl : l.length ≤ 1000) :
    FnM Try.prog 18 [.c (.p 0 0), .c (.i .i64 k)] [refI l] [.p 0 0] (.c (usX (gOf l k))) [refI l] := by
  refine FnM.of tab_ok Try.func18 (by kernel_rfl) (by kernel_rfl) (fun vs => ?_)
  conv => whnf
  refine loopx_nil 5 34 6 rfl ?_
  conv => whnf
  refine loopi_h tab_ok (fun i => i ≤ l.length) (fun i => [(5, .c (.ow 2)), (1, .c (.i .i64 k)), (11, .c (lgX l)), (12, .c (.i .i64 l.length)), (13, .c (.i .i64 i))]) (fun i => [(2, rowU (gOf (l.take i) k))]) (fun i => l.length - i) 0 28 rfl (Nat.zero_le _) ?_ (fun i hi => ?_)
  · conv => whnf
    refine ⟨?_, ?_, rfl⟩ <;> repeat' (first | exact trivial | exact entV_refl _ | exact entTs_refl _ | exact entL_refl _ | exact ⟨rfl, rfl⟩ | rfl | apply And.intro)
  · have hgl := gOf_len (l.take i) k
    have htl := List.length_take_le i l
    conv => whnf
    refine And.intro (fun h1 => ?_) (fun h1 => ?_)
    · have h1 : i < l.length := by simp at h1; omega
      have hstep := gOf_take h1 k
      conv => whnf
      refine ⟨by omega, ?_⟩
      conv => whnf
      rw [Int.toNat_natCast]
      generalize l.getD i default = p at *
      refine And.intro (fun h2 => ?_) (fun h2 => ?_)
      · have h2 : p.1 = k := by simpa using h2
        conv => whnf
        refine ⟨by simp only [List.length_map, List.length_cons, List.length_nil]; omega, ?_⟩
        conv => whnf
        refine ⟨i + 1, by omega, by omega, rfl, ?_⟩
        rw [hstep, if_pos h2]
        conv => whnf
        refine ⟨?_, ?_, rfl⟩ <;> repeat' (first | exact trivial | exact entV_refl _ | exact entTs_refl _ | exact entL_refl _ | exact ⟨rfl, rfl⟩ | exact wrap_succ (by omega) | apply And.intro)
        all_goals first | rfl | exact entLL_of_eq (by rw [List.map_append]; rfl)
      · have h2 : ¬ p.1 = k := by simpa using h2
        conv => whnf
        refine ⟨i + 1, by omega, by omega, rfl, ?_⟩
        rw [hstep, if_neg h2, List.append_nil]
        conv => whnf
        refine ⟨?_, ?_, rfl⟩ <;> repeat' (first | exact trivial | exact entV_refl _ | exact entTs_refl _ | exact entL_refl _ | exact entLL_refl _ | exact ⟨rfl, rfl⟩ | exact wrap_succ (by omega) | rfl | apply And.intro)
    · have h1 : i = l.length := by simp at h1; omega
      subst h1
      rw [List.take_length]
      conv => whnf
      refine mt_gh (.frz 2) (v := .c (usX (gOf l k))) (hs' := [refI l]) (fx := [.p 0 0]) (x := .c (.ow 2)) ?_
      conv => whnf
      refine mt_done (v := .c (usX (gOf l k))) (hs' := [refI l]) (fx := [.p 0 0]) (ys := [.c (.p 0 0)]) [0] 1 rfl rfl rfl rfl rfl (us_ent2 (entLL_refl _)) ⟨entV_refl _, trivial⟩ ⟨⟨rfl, entL_refl _⟩, trivial⟩
end Go.Proofs.Ytehbalkhboedeaa
