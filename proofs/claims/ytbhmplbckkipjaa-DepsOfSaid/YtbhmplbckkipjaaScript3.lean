/- Scripts: the document's plan of bytes. -/
import Derived.Test.YtbhmplbckkipjaaScript2
import Derived.Test.YtbhmplbckkipjaaEngGl
import Derived.Test.YtbhmplbckkipjaaOpOf2
namespace Go.Proofs.Ytbhmplbckkipjaa
open Go Go.Eng Go.RowKit
set_option maxRecDepth 100000
set_option maxHeartbeats 4000000
set_option linter.unusedVariables false
set_option linter.unusedSimpArgs false
def hN (l : List Int) (k j : Nat) : Int := if j < k then l.getD j 0 else 0
theorem hN_all {l : List Int} {k : Nat} (h : 8 ≤ k ∨ l.length ≤ k) {j : Nat} (hj : j < 8) : hN l k j = l.getD j 0 := by
  unfold hN
  split
  · rfl
  · rcases h with h | h
    · omega
    · exact (getD_big (by omega)).symm
theorem hN_step {l : List Int} {k : Nat} (hk : k < 8) : ((List.range 8).map fun j => [XC.i .i64 (hN l k j)]).set k [.i .i64 (l.getD k 0)] = (List.range 8).map fun j => [XC.i .i64 (hN l (k + 1) j)] := by
  apply List.ext_getElem
  · simp
  · intro i h1 h2
    rw [List.getElem_set]
    simp only [List.getElem_map, List.getElem_range]
    unfold hN
    split
    · rename_i e; subst e; rw [if_pos (by omega)]
    · rename_i e
      by_cases h3 : i < k
      · rw [if_pos h3, if_pos (by omega)]
      · rw [if_neg h3, if_neg (by omega)]
theorem hN_row {l : List Int} {k : Nat} (h : 8 ≤ k ∨ l.length ≤ k) : ((List.range 8).map fun j => [XC.i .i64 (hN l k j)]) = [[.i .i64 (l.getD 0 0)], [.i .i64 (l.getD 1 0)], [.i .i64 (l.getD 2 0)], [.i .i64 (l.getD 3 0)], [.i .i64 (l.getD 4 0)], [.i .i64 (l.getD 5 0)], [.i .i64 (l.getD 6 0)], [.i .i64 (l.getD 7 0)]] := by
  show [[XC.i .i64 (hN l k 0)], [.i .i64 (hN l k 1)], [.i .i64 (hN l k 2)], [.i .i64 (hN l k 3)], [.i .i64 (hN l k 4)], [.i .i64 (hN l k 5)], [.i .i64 (hN l k 6)], [.i .i64 (hN l k 7)]] = _
  rw [hN_all h, hN_all h, hN_all h, hN_all h, hN_all h, hN_all h, hN_all h, hN_all h] <;> decide
theorem cf_eqs (l : List Int) (hb : ∀ k, Byte (l.getD k 0)) : IntKind.i64.wrap (1 + (l.getD 0 0).tmod 8) = (cfL l).cl ∧ (l.getD 1 0).tmod 4 = (cfL l).po ∧ (l.getD 2 0).tmod 2 = (cfL l).vi ∧ IntKind.i64.wrap (1 + l.getD 3 0) = (cfL l).he ∧ IntKind.i64.wrap (1 + IntKind.i64.wrap (4 * l.getD 4 0)) = (cfL l).re ∧
    IntKind.i64.wrap (1 + (l.getD 5 0).tmod 8) = (cfL l).la ∧ IntKind.i64.wrap (1 + l.getD 6 0) = (cfL l).ti ∧ (l.getD 7 0).tmod 16 = (cfL l).gr := by
  have h0 := hb 0; have h1 := hb 1; have h2 := hb 2; have h3 := hb 3; have h4 := hb 4; have h5 := hb 5; have h6 := hb 6; have h7 := hb 7
  unfold Byte at h0 h1 h2 h3 h4 h5 h6 h7
  unfold cfL cfB
  dsimp only
  rw [Int.tmod_eq_emod_of_nonneg h0.1, Int.tmod_eq_emod_of_nonneg h1.1, Int.tmod_eq_emod_of_nonneg h2.1, Int.tmod_eq_emod_of_nonneg h5.1, Int.tmod_eq_emod_of_nonneg h7.1]
  refine ⟨wrap_ok (by omega) (by omega), rfl, rfl, wrap_ok (by omega) (by omega), ?_, wrap_ok (by omega) (by omega), wrap_ok (by omega) (by omega), rfl⟩
  rw [wrap_ok (n := 4 * l.getD 4 0) (by omega) (by omega)]
  exact wrap_ok (by omega) (by omega)
theorem refTake_fn (l : List Int) (hb : ∀ i, Byte (l.getD i 0)) (hl : l.length ≤ 2000) : Eng.Fn Try.prog 30 [.c (bytesX l)] (Tells (planX (cfL l) (takeS l))) := by
  refine Eng.Fn.ofZJ tab_ok [100019] Try.func30 (by kernel_rfl) (by kernel_rfl) (planX_st _ _) (fun w0 => ?_)
  conv => whnf
  have hcl := cfL_cl l hb
  obtain ⟨e0, e1, e2, e3, e4, e5, e6, e7⟩ := cf_eqs l hb
  have hfin0 : runS (cfL l).cl (l.drop 8).length ⟨List.replicate (cfL l).cl.toNat [], []⟩ (l.drop 8) = takeS l :=
    runS_fuel _ _ _ _ (Nat.le_refl _) _ (by rw [List.length_drop]; omega)
  refine ⟨by omega, ?_⟩
  conv => whnf
  refine loopi tab_ok (fun k => k ≤ 8 ∧ k ≤ l.length) (fun k => [(0, .c (bytesX l)), (2, .c (.p 0 0)), (3, .c (.ow 1)), (4, .c (.i .i64 k))])
    (fun k => [.cells 29 [.il .i64 0, .il .i64 0, .il .i64 0, .il .i64 0, .il .i64 0, .il .i64 0, .il .i64 0, .il .i64 0, .il .i64 0, .v (.slice none 0 0), .v (.slice none 0 0)], .row 3 1 ((List.range 8).map fun j => [.i .i64 (hN l k j)])]) (fun k => 8 - k) 0 _ rfl ⟨by omega, by omega⟩ ?_ (fun k hk => ?_)
  · refine ⟨?_, ?_, rfl⟩ <;> repeat' (first | exact trivial | exact entV_refl _ | exact entC_refl _ | rfl | apply And.intro)
  obtain ⟨hk8, hkl⟩ := hk
  conv => whnf
  have hround : k < 8 → k < l.length → True := fun _ _ => trivial
  have hrest : (8 ≤ k ∨ l.length ≤ k) → True := fun _ => trivial
  refine And.intro (fun h1 => ?_) (fun h1 => ?_)
  · have h1 : k < 8 := by simp at h1; omega
    conv => whnf
    refine And.intro (fun h2 => ?_) (fun h2 => ?_)
    · have h2 : k < l.length := by simp at h2; omega
      conv => whnf
      refine ⟨by omega, ?_⟩
      conv => whnf
      refine ⟨by simp; omega, ?_⟩
      conv => whnf
      have hx : Byte (l.getD k 0) := hb k
      have hw : IntKind.i64.wrap (l.getD (Int.toNat (k : Int)) 0) = l.getD k 0 := by
        unfold Byte at hx; rw [Int.toNat_natCast]; exact wrap_ok (by omega) (by omega)
      rw [hw]
      refine ⟨[.i .i64 (hN l k k)], by simp [h1], ?_⟩
      conv => whnf
      refine ⟨k + 1, ⟨by omega, by omega⟩, by omega, rfl, ?_⟩
      rw [← hN_step h1]
      refine ⟨?_, ?_, rfl⟩ <;> repeat' (first | exact trivial | exact entV_refl _ | exact entC_refl _ | exact wrap_succ (by omega) | exact entLL_refl _ | rfl | apply And.intro)
    · have h2 : l.length ≤ k := by simp at h2; omega
      rw [hN_row (.inr h2)]
      conv => whnf
      refine drawx_plan tab_ok [2] (.take 0 (.take 1 (.take 2 (.take 3 (.take 4 (.take 5 (.take 6 (.take 7 (.take 8 (.take 9 (.take 10 (.take 11 (.take 12 (.take 13 (.take 14 (.take 15 (.take 16 (.take 17 (.take 18 (.take 19 (.take 20 (.take 21 (.take 22 (.take 23 (.take 24 (.take 25 (.take 26 (.take 27 (.take 28 (.take 29 (.take 30 (.take 31 (.take 32 (.take 33 (.take 34 (.take 35 (.take 36 (.one 37 .done)))))))))))))))))))))))))))))))))))))) (by kernel_rfl) (by kernel_rfl) (by kernel_rfl) ?_
      conv => whnf
      repeat (first
        | (refine ⟨by rw [e0]; omega, ?_⟩; conv => whnf)
        | (refine ⟨by simp; done, ?_⟩; conv => whnf)
        | (refine ⟨_, rfl, ?_⟩; conv => whnf))
      rw [e0, e1, e2, e3, e4, e5, e6, e7]
      generalize takeS l = fin at *
      have hck : (cfL l).ck = 1048576 := rfl
      generalize cfL l = c at *
      refine loopx_packs 3 31 1 rfl ?_
      conv => whnf
      refine loopx_gh (.nil 2 10 4 3 1 false) ?_
      conv => whnf
      refine loopl tab_ok (fun i : ScS × Nat => i.2 ≤ 2008 ∧ (i.1.ops.length : Int) = c.cl ∧ runS c.cl (l.drop i.2).length i.1 (l.drop i.2) = fin) (fun i => [(0, .c (bytesX l)), (2, .c (.p 0 0)), (5, .c (.p 2 0)), (6, .c (.i .i64 i.2))])
        (fun i => [.cells 29 [.il .i64 0, .il .i64 0, .il .i64 0, .il .i64 0, .il .i64 0, .il .i64 0, .il .i64 0, .il .i64 0, .il .i64 0, .v (.slice none 0 0), .v (.slice none 0 0)], .dead, .cells 29 [.i .i64 c.cl, .i .i64 c.po, .i .i64 c.vi, .i .i64 c.he, .i .i64 c.re, .i .i64 c.la, .i .i64 c.ti, .i .i64 c.gr, .i .i64 c.ck, .ow 3, .ow 4], .prow 31 1 (i.1.ops.map opsA) none, .row 3 1 (i.1.pk.map fun n => [.i .i64 n])]) (fun i => l.length - i.2) (⟨List.replicate c.cl.toNat [], []⟩, 8) _ rfl ⟨by dsimp only; omega, by dsimp only; rw [List.length_replicate]; omega, hfin0⟩ ?_ (fun i hi => ?_)
      · refine ⟨?_, ?_, rfl⟩ <;> repeat' (first | exact trivial | exact entV_refl _ | exact entC_refl _ | exact ⟨rfl, rfl⟩ | exact ⟨rfl, hck.symm⟩ | exact leA_refl _ | exact entLL_refl _ | exact ops_nil _ rfl _ | rfl | apply And.intro)
        all_goals trace_state
      · obtain ⟨s, at_⟩ := i
        obtain ⟨hat0, hops, hfin⟩ := hi
        dsimp only at hat0 hops hfin ⊢
        conv => whnf
        refine And.intro (fun h1 => ?_) (fun h1 => ?_)
        · have h1 : at_ < l.length := by simp at h1; omega
          conv => whnf
          refine ⟨by omega, ?_⟩
          conv => whnf
          have h0 : 0 < (l.drop at_).length := by rw [List.length_drop]; omega
          have hstep := runS_step c.cl s h0
          rw [hfin] at hstep
          have hg0 : (l.drop at_).getD 0 0 = l.getD at_ 0 := at8_drop l at_ 0
          have hx : Byte (l.getD at_ 0) := hb at_
          have hw : IntKind.i64.wrap (l.getD (Int.toNat (at_ : Int)) 0) = l.getD at_ 0 := by unfold Byte at hx; rw [Int.toNat_natCast]; exact wrap_ok (by omega) (by omega)
          have hd1 : (l.drop at_).drop 1 = l.drop (at_ + 1) := by rw [List.drop_drop]
          have hws : IntKind.i64.wrap ((at_ : Int) + 1) = ((at_ + 1 : Nat) : Int) := wrap_succ (by omega)
          rw [hw]
          generalize hxv : l.getD at_ 0 = x at *
          rw [stepS, hg0, hd1] at hstep
          unfold Byte at hx
          refine And.intro (fun h2 => ?_) (fun h2 => ?_)
          · have h2 : x < 128 := by simpa using h2
            rw [if_pos h2] at hstep
            conv => whnf
            refine And.intro (fun h3 => ?_) (fun h3 => ?_)
            · have h3 : s.pk.length < 4096 := by simp at h3; omega
              have hw2 : IntKind.i64.wrap (c.cl + 2) = c.cl + 2 := wrap_ok (by omega) (by omega)
              have hm : x.tmod (c.cl + 2) = x % (c.cl + 2) := Int.tmod_eq_emod_of_nonneg hx.1
              rw [if_pos h3] at hstep
              conv => whnf
              refine drawx_plan tab_ok [2, 4] (.take 0 (.take 2 (.take 3 (.take 4 (.two 1 5 (.one 5 (.take 6 (.take 7 (.one 8 (.one 9 (.take 10 (.one 11 (.done)))))))) (.take 6 (.take 7 (.two 1 8 (.one 8 (.one 9 (.take 10 (.one 11 (.done))))) (.one 1 (.one 9 (.take 10 (.one 11 (.done))))))))))))) (by kernel_rfl) (by kernel_rfl) (by kernel_rfl) ?_
              conv => whnf
              repeat' (first
                | (refine ⟨by rw [hw2]; omega, ?_⟩; conv => whnf)
                | (refine ⟨by simp only [List.length_map, List.length_cons, List.length_nil]; omega, ?_⟩; conv => whnf)
                | (apply And.intro <;> conv => whnf))
              all_goals
                refine labx_go ?_
                refine ⟨(⟨s.ops, s.pk ++ [x % (c.cl + 2)]⟩, at_ + 1), ⟨by dsimp only; omega, hops, hstep.symm⟩, by dsimp only; omega, rfl, ?_⟩
                refine ⟨?_, ?_, rfl⟩ <;> repeat' (first | exact trivial | exact entV_refl _ | exact entC_refl _ | exact leA_refl _ | exact entLL_refl _ | exact hws | rfl | apply And.intro)
                all_goals (rw [List.map_append, hw2, hm]; exact entLL_refl _)
            · have h3 : ¬ s.pk.length < 4096 := by simp at h3; omega
              rw [if_neg h3] at hstep
              conv => whnf
              refine labx_go ?_
              refine ⟨(⟨s.ops, s.pk⟩, at_ + 1), ⟨by dsimp only; omega, hops, hstep.symm⟩, by dsimp only; omega, rfl, ?_⟩
              refine ⟨?_, ?_, rfl⟩ <;> repeat' (first | exact trivial | exact entV_refl _ | exact entC_refl _ | exact leA_refl _ | exact entLL_refl _ | exact hws | rfl | apply And.intro)
          · have h2 : ¬ x < 128 := by simpa using h2
            rw [if_neg h2] at hstep
            have hm : (IntKind.i64.wrap (x - 128)).tmod c.cl = (x - 128) % c.cl := by
              rw [wrap_ok (n := x - 128) (by omega) (by omega), Int.tmod_eq_emod_of_nonneg (by omega)]
            have hr1 : ∀ k, Byte ((l.drop (at_ + 1)).getD k 0) := fun k => by
              have : (l.drop (at_ + 1)).getD k 0 = l.getD (at_ + 1 + k) 0 := at8_drop l (at_ + 1) k
              rw [this]; exact hb _
            conv => whnf
            refine ⟨by omega, ?_⟩
            conv => whnf
            rw [hws]
            refine ⟨by omega, ?_⟩
            conv => whnf
            have hof := refOf_fn (l.drop (at_ + 1)) (by rw [List.length_drop]; omega) hr1
            refine callx_says hof ⟨bs_drop l (at_ + 1), trivial⟩ rfl (ofR_st _ _ _) ?_
            conv => whnf
            have hsz := ofR_size (l.drop (at_ + 1)) hr1
            rw [List.length_drop] at hsz
            generalize hof2 : ofR (l.drop (at_ + 1)) = res at *
            obtain ⟨o, sz, er⟩ := res
            have hsz : 0 ≤ sz ∧ sz ≤ ((l.length - (at_ + 1) : Nat) : Int) := hsz
            have hwz : IntKind.i64.wrap (((at_ + 1 : Nat) : Int) + sz) = ((at_ + 1 + sz.toNat : Nat) : Int) := by rw [wrap_ok (by omega) (by omega)]; omega
            have hq0 : 0 ≤ (x - 128) % c.cl := Int.emod_nonneg _ (by omega)
            have hq1 : (x - 128) % c.cl < c.cl := Int.emod_lt_of_pos _ (by omega)
            obtain ⟨q, hq⟩ : ∃ q : Nat, (x - 128) % c.cl = q := ⟨((x - 128) % c.cl).toNat, by omega⟩
            rw [hq] at hm hstep hq1
            have hql : q < s.ops.length := by omega
            have hat : (s.ops.map opsA)[q]? = some (opsA (s.ops.getD q [])) := by
              rw [List.getElem?_map, List.getD_eq_getElem?_getD]
              rw [List.getElem?_eq_getElem hql]
              rfl
            rw [hm]
            generalize hxs : s.ops.getD q [] = xs at hat
            have hset : ∀ xs2 : List Opr, xs2 ≠ [] → (s.ops.map opsA).set q (PackL [.ow 0] [.row 37 7 (xs2.map encO)]) = (s.ops.set q xs2).map opsA := fun xs2 hne => by
              rw [List.map_set]
              cases xs2 with
              | nil => exact absurd rfl hne
              | cons _ _ => rfl
            rw [Int.toNat_natCast] at hstep
            cases xs with
            | nil =>
              refine regx_gh (.open_ 3 q [.v (.slice none 0 0)] []) ?_
              conv => whnf
              refine ⟨hat, ?_⟩
              conv => whnf
              refine regx_go tab_ok ?_
              conv => whnf
              refine ⟨by rw [List.length_map]; omega, ?_⟩
              conv => whnf
              refine .inl ⟨Int.toNat_natCast _, ?_⟩
              conv => whnf
              refine drawx_plan tab_ok [3] (.take 0 (.take 1 (.take 2 (.take 3 (.take 4 (.take 5 (.take 6 (.take 8 (.two 7 9 (.one 9 (.one 10 (.take 11 (.one 12 (.done))))) (.one 7 (.one 10 (.take 11 (.one 12 (.done)))))))))))))) (by kernel_rfl) (by kernel_rfl) (by kernel_rfl) ?_
              conv => whnf
              repeat' (first
                | (refine ⟨by rw [List.length_map]; omega, ?_⟩; conv => whnf)
                | (refine .inl ⟨Int.toNat_natCast _, ?_⟩; conv => whnf)
                | (refine ⟨Int.toNat_natCast _, ?_⟩; conv => whnf)
                | (refine ⟨by simp only [List.length_map, List.length_cons, List.length_nil]; omega, ?_⟩; conv => whnf)
                | (apply And.intro <;> conv => whnf))
              all_goals
                have hs64 : setO s.ops q o = s.ops.set q [o] := by
                  unfold setO; rw [hxs]; exact if_pos (by decide)
                rw [hs64] at hstep
                refine labx_gh (.close 3 [7] [.ow 0] [.row 37 7 ([o].map encO)]) ?_
                conv => whnf
                refine ⟨⟨entC_refl _, trivial⟩, ?_⟩
                conv => whnf
                refine ⟨?_, ?_⟩
                · repeat' (first | exact trivial | rfl | exact entLL_refl _ | apply And.intro)
                conv => whnf
                refine labx_go ?_
                refine ⟨(⟨s.ops.set q [o], s.pk⟩, at_ + 1 + sz.toNat), ⟨by dsimp only; omega, by rw [List.length_set]; exact hops, by rw [← List.drop_drop]; exact hstep.symm⟩, by dsimp only; omega, rfl, ?_⟩
                refine ⟨?_, ?_, rfl⟩ <;> repeat' (first | exact trivial | exact entV_refl _ | exact entC_refl _ | exact leA_refl _ | exact entLL_refl _ | exact hwz | exact leA_of_eq (hset [o] (by simp)) | rfl | apply And.intro)
            | cons y ys =>
              refine regx_gh (.open_ 3 q [.ow 0] [.row 37 7 ((y :: ys).map encO)]) ?_
              conv => whnf
              refine ⟨hat, ?_⟩
              conv => whnf
              refine regx_go tab_ok ?_
              conv => whnf
              refine ⟨by rw [List.length_map]; omega, ?_⟩
              conv => whnf
              refine .inl ⟨Int.toNat_natCast _, ?_⟩
              conv => whnf
              refine And.intro (fun h5 => ?_) (fun h5 => ?_)
              · have h6 : (y :: ys).length < 64 := by
                  have h5 : (((y :: ys).map encO).length : Int) < 64 := of_decide_eq_true h5
                  rw [List.length_map] at h5; omega
                have hs64 : setO s.ops q o = s.ops.set q ((y :: ys) ++ [o]) := by
                  unfold setO; rw [hxs]; exact if_pos h6
                rw [hs64] at hstep
                conv => whnf
                refine drawx_plan tab_ok [3, 6] (.take 0 (.take 1 (.take 2 (.take 3 (.take 4 (.take 5 (.take 6 (.take 8 (.two 7 9 (.one 9 (.one 10 (.take 11 (.one 12 (.done))))) (.one 7 (.one 10 (.take 11 (.one 12 (.done)))))))))))))) (by kernel_rfl) (by kernel_rfl) (by kernel_rfl) ?_
                conv => whnf
                repeat' (first
                  | (refine ⟨by rw [List.length_map]; omega, ?_⟩; conv => whnf)
                  | (refine .inl ⟨Int.toNat_natCast _, ?_⟩; conv => whnf)
                  | (refine ⟨Int.toNat_natCast _, ?_⟩; conv => whnf)
                  | (refine ⟨by show (_ : Nat) ≤ _; rw [List.length_map]; simp only [List.length_cons, List.length_nil] at h6 ⊢; omega, ?_⟩; conv => whnf)
                  | (apply And.intro <;> conv => whnf))
                all_goals first
                  | (show (_ : Nat) ≤ _; rw [List.length_map]; simp only [List.length_cons, List.length_nil] at h6 ⊢; omega)
                  | skip
                all_goals
                  refine labx_gh (.close 3 [6] [.ow 0] [.row 37 7 (((y :: ys) ++ [o]).map encO)]) ?_
                  conv => whnf
                  refine ⟨⟨entC_refl _, trivial⟩, ?_⟩
                  conv => whnf
                  refine ⟨?_, ?_⟩
                  · repeat' (first | exact trivial | rfl | exact entLL_refl _ | apply And.intro)
                    all_goals exact entLL_of_eq (List.map_append (f := encO) (l₁ := ys) (l₂ := [o])).symm
                  conv => whnf
                  refine labx_go ?_
                  refine ⟨(⟨s.ops.set q ((y :: ys) ++ [o]), s.pk⟩, at_ + 1 + sz.toNat), ⟨by dsimp only; omega, by rw [List.length_set]; exact hops, by rw [← List.drop_drop]; exact hstep.symm⟩, by dsimp only; omega, rfl, ?_⟩
                  refine ⟨?_, ?_, rfl⟩ <;> repeat' (first | exact trivial | exact entV_refl _ | exact entC_refl _ | exact leA_refl _ | exact entLL_refl _ | exact hwz | exact leA_of_eq (hset ((y :: ys) ++ [o]) (by simp)) | rfl | apply And.intro)
              · have h6 : ¬ (y :: ys).length < 64 := by
                  have h5 : ¬ (((y :: ys).map encO).length : Int) < 64 := of_decide_eq_false h5
                  rw [List.length_map] at h5; omega
                have hs64 : setO s.ops q o = s.ops := by
                  unfold setO; rw [hxs]; exact if_neg h6
                rw [hs64] at hstep
                have hsame : s.ops.set q (y :: ys) = s.ops := by
                  rw [← hxs, List.getD_eq_getElem?_getD, List.getElem?_eq_getElem hql]; exact List.set_getElem_self hql
                conv => whnf
                refine labx_gh (.close 3 [6] [.ow 0] [.row 37 7 ((y :: ys).map encO)]) ?_
                conv => whnf
                refine ⟨⟨entC_refl _, trivial⟩, ?_⟩
                conv => whnf
                refine ⟨?_, ?_⟩
                · repeat' (first | exact trivial | rfl | exact entLL_refl _ | apply And.intro)
                conv => whnf
                refine labx_go ?_
                refine ⟨(s, at_ + 1 + sz.toNat), ⟨by dsimp only; omega, hops, by rw [← List.drop_drop]; exact hstep.symm⟩, by dsimp only; omega, rfl, ?_⟩
                refine ⟨?_, ?_, rfl⟩ <;> repeat' (first | exact trivial | exact entV_refl _ | exact entC_refl _ | exact leA_refl _ | exact entLL_refl _ | exact hwz | exact leA_of_eq ((hset (y :: ys) (by simp)).trans (by rw [hsame])) | rfl | apply And.intro)
        · have h1 : l.length ≤ at_ := by simp at h1; omega
          have hnil : l.drop at_ = [] := List.drop_of_length_le h1
          rw [hnil] at hfin
          have hfin : s = fin := hfin
          subst hfin
          conv => whnf
          repeat' (first | exact trivial | exact entC_refl _ | exact opsA_ent _ | exact ints_entS | apply And.intro)
  · have h1 : 8 ≤ k := by simp at h1; omega
    rw [hN_row (.inl h1)]
    conv => whnf
    refine drawx_plan tab_ok [2] (.take 0 (.take 1 (.take 2 (.take 3 (.take 4 (.take 5 (.take 6 (.take 7 (.take 8 (.take 9 (.take 10 (.take 11 (.take 12 (.take 13 (.take 14 (.take 15 (.take 16 (.take 17 (.take 18 (.take 19 (.take 20 (.take 21 (.take 22 (.take 23 (.take 24 (.take 25 (.take 26 (.take 27 (.take 28 (.take 29 (.take 30 (.take 31 (.take 32 (.take 33 (.take 34 (.take 35 (.take 36 (.one 37 .done)))))))))))))))))))))))))))))))))))))) (by kernel_rfl) (by kernel_rfl) (by kernel_rfl) ?_
    conv => whnf
    repeat (first
      | (refine ⟨by rw [e0]; omega, ?_⟩; conv => whnf)
      | (refine ⟨by simp; done, ?_⟩; conv => whnf)
      | (refine ⟨_, rfl, ?_⟩; conv => whnf))
    rw [e0, e1, e2, e3, e4, e5, e6, e7]
    generalize takeS l = fin at *
    have hck : (cfL l).ck = 1048576 := rfl
    generalize cfL l = c at *
    refine loopx_packs 3 31 1 rfl ?_
    conv => whnf
    refine loopx_gh (.nil 2 10 4 3 1 false) ?_
    conv => whnf
    refine loopl tab_ok (fun i : ScS × Nat => i.2 ≤ 2008 ∧ (i.1.ops.length : Int) = c.cl ∧ runS c.cl (l.drop i.2).length i.1 (l.drop i.2) = fin) (fun i => [(0, .c (bytesX l)), (2, .c (.p 0 0)), (5, .c (.p 2 0)), (6, .c (.i .i64 i.2))])
      (fun i => [.cells 29 [.il .i64 0, .il .i64 0, .il .i64 0, .il .i64 0, .il .i64 0, .il .i64 0, .il .i64 0, .il .i64 0, .il .i64 0, .v (.slice none 0 0), .v (.slice none 0 0)], .dead, .cells 29 [.i .i64 c.cl, .i .i64 c.po, .i .i64 c.vi, .i .i64 c.he, .i .i64 c.re, .i .i64 c.la, .i .i64 c.ti, .i .i64 c.gr, .i .i64 c.ck, .ow 3, .ow 4], .prow 31 1 (i.1.ops.map opsA) none, .row 3 1 (i.1.pk.map fun n => [.i .i64 n])]) (fun i => l.length - i.2) (⟨List.replicate c.cl.toNat [], []⟩, 8) _ rfl ⟨by dsimp only; omega, by dsimp only; rw [List.length_replicate]; omega, hfin0⟩ ?_ (fun i hi => ?_)
    · refine ⟨?_, ?_, rfl⟩ <;> repeat' (first | exact trivial | exact entV_refl _ | exact entC_refl _ | exact ⟨rfl, rfl⟩ | exact ⟨rfl, hck.symm⟩ | exact leA_refl _ | exact entLL_refl _ | exact ops_nil _ rfl _ | rfl | apply And.intro)
      all_goals trace_state
    · obtain ⟨s, at_⟩ := i
      obtain ⟨hat0, hops, hfin⟩ := hi
      dsimp only at hat0 hops hfin ⊢
      conv => whnf
      refine And.intro (fun h1 => ?_) (fun h1 => ?_)
      · have h1 : at_ < l.length := by simp at h1; omega
        conv => whnf
        refine ⟨by omega, ?_⟩
        conv => whnf
        have h0 : 0 < (l.drop at_).length := by rw [List.length_drop]; omega
        have hstep := runS_step c.cl s h0
        rw [hfin] at hstep
        have hg0 : (l.drop at_).getD 0 0 = l.getD at_ 0 := at8_drop l at_ 0
        have hx : Byte (l.getD at_ 0) := hb at_
        have hw : IntKind.i64.wrap (l.getD (Int.toNat (at_ : Int)) 0) = l.getD at_ 0 := by unfold Byte at hx; rw [Int.toNat_natCast]; exact wrap_ok (by omega) (by omega)
        have hd1 : (l.drop at_).drop 1 = l.drop (at_ + 1) := by rw [List.drop_drop]
        have hws : IntKind.i64.wrap ((at_ : Int) + 1) = ((at_ + 1 : Nat) : Int) := wrap_succ (by omega)
        rw [hw]
        generalize hxv : l.getD at_ 0 = x at *
        rw [stepS, hg0, hd1] at hstep
        unfold Byte at hx
        refine And.intro (fun h2 => ?_) (fun h2 => ?_)
        · have h2 : x < 128 := by simpa using h2
          rw [if_pos h2] at hstep
          conv => whnf
          refine And.intro (fun h3 => ?_) (fun h3 => ?_)
          · have h3 : s.pk.length < 4096 := by simp at h3; omega
            have hw2 : IntKind.i64.wrap (c.cl + 2) = c.cl + 2 := wrap_ok (by omega) (by omega)
            have hm : x.tmod (c.cl + 2) = x % (c.cl + 2) := Int.tmod_eq_emod_of_nonneg hx.1
            rw [if_pos h3] at hstep
            conv => whnf
            refine drawx_plan tab_ok [2, 4] (.take 0 (.take 2 (.take 3 (.take 4 (.two 1 5 (.one 5 (.take 6 (.take 7 (.one 8 (.one 9 (.take 10 (.one 11 (.done)))))))) (.take 6 (.take 7 (.two 1 8 (.one 8 (.one 9 (.take 10 (.one 11 (.done))))) (.one 1 (.one 9 (.take 10 (.one 11 (.done))))))))))))) (by kernel_rfl) (by kernel_rfl) (by kernel_rfl) ?_
            conv => whnf
            repeat' (first
              | (refine ⟨by rw [hw2]; omega, ?_⟩; conv => whnf)
              | (refine ⟨by simp only [List.length_map, List.length_cons, List.length_nil]; omega, ?_⟩; conv => whnf)
              | (apply And.intro <;> conv => whnf))
            all_goals
              refine labx_go ?_
              refine ⟨(⟨s.ops, s.pk ++ [x % (c.cl + 2)]⟩, at_ + 1), ⟨by dsimp only; omega, hops, hstep.symm⟩, by dsimp only; omega, rfl, ?_⟩
              refine ⟨?_, ?_, rfl⟩ <;> repeat' (first | exact trivial | exact entV_refl _ | exact entC_refl _ | exact leA_refl _ | exact entLL_refl _ | exact hws | rfl | apply And.intro)
              all_goals (rw [List.map_append, hw2, hm]; exact entLL_refl _)
          · have h3 : ¬ s.pk.length < 4096 := by simp at h3; omega
            rw [if_neg h3] at hstep
            conv => whnf
            refine labx_go ?_
            refine ⟨(⟨s.ops, s.pk⟩, at_ + 1), ⟨by dsimp only; omega, hops, hstep.symm⟩, by dsimp only; omega, rfl, ?_⟩
            refine ⟨?_, ?_, rfl⟩ <;> repeat' (first | exact trivial | exact entV_refl _ | exact entC_refl _ | exact leA_refl _ | exact entLL_refl _ | exact hws | rfl | apply And.intro)
        · have h2 : ¬ x < 128 := by simpa using h2
          rw [if_neg h2] at hstep
          have hm : (IntKind.i64.wrap (x - 128)).tmod c.cl = (x - 128) % c.cl := by
            rw [wrap_ok (n := x - 128) (by omega) (by omega), Int.tmod_eq_emod_of_nonneg (by omega)]
          have hr1 : ∀ k, Byte ((l.drop (at_ + 1)).getD k 0) := fun k => by
            have : (l.drop (at_ + 1)).getD k 0 = l.getD (at_ + 1 + k) 0 := at8_drop l (at_ + 1) k
            rw [this]; exact hb _
          conv => whnf
          refine ⟨by omega, ?_⟩
          conv => whnf
          rw [hws]
          refine ⟨by omega, ?_⟩
          conv => whnf
          have hof := refOf_fn (l.drop (at_ + 1)) (by rw [List.length_drop]; omega) hr1
          refine callx_says hof ⟨bs_drop l (at_ + 1), trivial⟩ rfl (ofR_st _ _ _) ?_
          conv => whnf
          have hsz := ofR_size (l.drop (at_ + 1)) hr1
          rw [List.length_drop] at hsz
          generalize hof2 : ofR (l.drop (at_ + 1)) = res at *
          obtain ⟨o, sz, er⟩ := res
          have hsz : 0 ≤ sz ∧ sz ≤ ((l.length - (at_ + 1) : Nat) : Int) := hsz
          have hwz : IntKind.i64.wrap (((at_ + 1 : Nat) : Int) + sz) = ((at_ + 1 + sz.toNat : Nat) : Int) := by rw [wrap_ok (by omega) (by omega)]; omega
          have hq0 : 0 ≤ (x - 128) % c.cl := Int.emod_nonneg _ (by omega)
          have hq1 : (x - 128) % c.cl < c.cl := Int.emod_lt_of_pos _ (by omega)
          obtain ⟨q, hq⟩ : ∃ q : Nat, (x - 128) % c.cl = q := ⟨((x - 128) % c.cl).toNat, by omega⟩
          rw [hq] at hm hstep hq1
          have hql : q < s.ops.length := by omega
          have hat : (s.ops.map opsA)[q]? = some (opsA (s.ops.getD q [])) := by
            rw [List.getElem?_map, List.getD_eq_getElem?_getD]
            rw [List.getElem?_eq_getElem hql]
            rfl
          rw [hm]
          generalize hxs : s.ops.getD q [] = xs at hat
          have hset : ∀ xs2 : List Opr, xs2 ≠ [] → (s.ops.map opsA).set q (PackL [.ow 0] [.row 37 7 (xs2.map encO)]) = (s.ops.set q xs2).map opsA := fun xs2 hne => by
            rw [List.map_set]
            cases xs2 with
            | nil => exact absurd rfl hne
            | cons _ _ => rfl
          rw [Int.toNat_natCast] at hstep
          cases xs with
          | nil =>
            refine regx_gh (.open_ 3 q [.v (.slice none 0 0)] []) ?_
            conv => whnf
            refine ⟨hat, ?_⟩
            conv => whnf
            refine regx_go tab_ok ?_
            conv => whnf
            refine ⟨by rw [List.length_map]; omega, ?_⟩
            conv => whnf
            refine .inl ⟨Int.toNat_natCast _, ?_⟩
            conv => whnf
            refine drawx_plan tab_ok [3] (.take 0 (.take 1 (.take 2 (.take 3 (.take 4 (.take 5 (.take 6 (.take 8 (.two 7 9 (.one 9 (.one 10 (.take 11 (.one 12 (.done))))) (.one 7 (.one 10 (.take 11 (.one 12 (.done)))))))))))))) (by kernel_rfl) (by kernel_rfl) (by kernel_rfl) ?_
            conv => whnf
            repeat' (first
              | (refine ⟨by rw [List.length_map]; omega, ?_⟩; conv => whnf)
              | (refine .inl ⟨Int.toNat_natCast _, ?_⟩; conv => whnf)
              | (refine ⟨Int.toNat_natCast _, ?_⟩; conv => whnf)
              | (refine ⟨by simp only [List.length_map, List.length_cons, List.length_nil]; omega, ?_⟩; conv => whnf)
              | (apply And.intro <;> conv => whnf))
            all_goals
              have hs64 : setO s.ops q o = s.ops.set q [o] := by
                unfold setO; rw [hxs]; exact if_pos (by decide)
              rw [hs64] at hstep
              refine labx_gh (.close 3 [7] [.ow 0] [.row 37 7 ([o].map encO)]) ?_
              conv => whnf
              refine ⟨⟨entC_refl _, trivial⟩, ?_⟩
              conv => whnf
              refine ⟨?_, ?_⟩
              · repeat' (first | exact trivial | rfl | exact entLL_refl _ | apply And.intro)
              conv => whnf
              refine labx_go ?_
              refine ⟨(⟨s.ops.set q [o], s.pk⟩, at_ + 1 + sz.toNat), ⟨by dsimp only; omega, by rw [List.length_set]; exact hops, by rw [← List.drop_drop]; exact hstep.symm⟩, by dsimp only; omega, rfl, ?_⟩
              refine ⟨?_, ?_, rfl⟩ <;> repeat' (first | exact trivial | exact entV_refl _ | exact entC_refl _ | exact leA_refl _ | exact entLL_refl _ | exact hwz | exact leA_of_eq (hset [o] (by simp)) | rfl | apply And.intro)
          | cons y ys =>
            refine regx_gh (.open_ 3 q [.ow 0] [.row 37 7 ((y :: ys).map encO)]) ?_
            conv => whnf
            refine ⟨hat, ?_⟩
            conv => whnf
            refine regx_go tab_ok ?_
            conv => whnf
            refine ⟨by rw [List.length_map]; omega, ?_⟩
            conv => whnf
            refine .inl ⟨Int.toNat_natCast _, ?_⟩
            conv => whnf
            refine And.intro (fun h5 => ?_) (fun h5 => ?_)
            · have h6 : (y :: ys).length < 64 := by
                have h5 : (((y :: ys).map encO).length : Int) < 64 := of_decide_eq_true h5
                rw [List.length_map] at h5; omega
              have hs64 : setO s.ops q o = s.ops.set q ((y :: ys) ++ [o]) := by
                unfold setO; rw [hxs]; exact if_pos h6
              rw [hs64] at hstep
              conv => whnf
              refine drawx_plan tab_ok [3, 6] (.take 0 (.take 1 (.take 2 (.take 3 (.take 4 (.take 5 (.take 6 (.take 8 (.two 7 9 (.one 9 (.one 10 (.take 11 (.one 12 (.done))))) (.one 7 (.one 10 (.take 11 (.one 12 (.done)))))))))))))) (by kernel_rfl) (by kernel_rfl) (by kernel_rfl) ?_
              conv => whnf
              repeat' (first
                | (refine ⟨by rw [List.length_map]; omega, ?_⟩; conv => whnf)
                | (refine .inl ⟨Int.toNat_natCast _, ?_⟩; conv => whnf)
                | (refine ⟨Int.toNat_natCast _, ?_⟩; conv => whnf)
                | (refine ⟨by show (_ : Nat) ≤ _; rw [List.length_map]; simp only [List.length_cons, List.length_nil] at h6 ⊢; omega, ?_⟩; conv => whnf)
                | (apply And.intro <;> conv => whnf))
              all_goals first
                | (show (_ : Nat) ≤ _; rw [List.length_map]; simp only [List.length_cons, List.length_nil] at h6 ⊢; omega)
                | skip
              all_goals
                refine labx_gh (.close 3 [6] [.ow 0] [.row 37 7 (((y :: ys) ++ [o]).map encO)]) ?_
                conv => whnf
                refine ⟨⟨entC_refl _, trivial⟩, ?_⟩
                conv => whnf
                refine ⟨?_, ?_⟩
                · repeat' (first | exact trivial | rfl | exact entLL_refl _ | apply And.intro)
                  all_goals exact entLL_of_eq (List.map_append (f := encO) (l₁ := ys) (l₂ := [o])).symm
                conv => whnf
                refine labx_go ?_
                refine ⟨(⟨s.ops.set q ((y :: ys) ++ [o]), s.pk⟩, at_ + 1 + sz.toNat), ⟨by dsimp only; omega, by rw [List.length_set]; exact hops, by rw [← List.drop_drop]; exact hstep.symm⟩, by dsimp only; omega, rfl, ?_⟩
                refine ⟨?_, ?_, rfl⟩ <;> repeat' (first | exact trivial | exact entV_refl _ | exact entC_refl _ | exact leA_refl _ | exact entLL_refl _ | exact hwz | exact leA_of_eq (hset ((y :: ys) ++ [o]) (by simp)) | rfl | apply And.intro)
            · have h6 : ¬ (y :: ys).length < 64 := by
                have h5 : ¬ (((y :: ys).map encO).length : Int) < 64 := of_decide_eq_false h5
                rw [List.length_map] at h5; omega
              have hs64 : setO s.ops q o = s.ops := by
                unfold setO; rw [hxs]; exact if_neg h6
              rw [hs64] at hstep
              have hsame : s.ops.set q (y :: ys) = s.ops := by
                rw [← hxs, List.getD_eq_getElem?_getD, List.getElem?_eq_getElem hql]; exact List.set_getElem_self hql
              conv => whnf
              refine labx_gh (.close 3 [6] [.ow 0] [.row 37 7 ((y :: ys).map encO)]) ?_
              conv => whnf
              refine ⟨⟨entC_refl _, trivial⟩, ?_⟩
              conv => whnf
              refine ⟨?_, ?_⟩
              · repeat' (first | exact trivial | rfl | exact entLL_refl _ | apply And.intro)
              conv => whnf
              refine labx_go ?_
              refine ⟨(s, at_ + 1 + sz.toNat), ⟨by dsimp only; omega, hops, by rw [← List.drop_drop]; exact hstep.symm⟩, by dsimp only; omega, rfl, ?_⟩
              refine ⟨?_, ?_, rfl⟩ <;> repeat' (first | exact trivial | exact entV_refl _ | exact entC_refl _ | exact leA_refl _ | exact entLL_refl _ | exact hwz | exact leA_of_eq ((hset (y :: ys) (by simp)).trans (by rw [hsame])) | rfl | apply And.intro)
      · have h1 : l.length ≤ at_ := by simp at h1; omega
        have hnil : l.drop at_ = [] := List.drop_of_length_le h1
        rw [hnil] at hfin
        have hfin : s = fin := hfin
        subst hfin
        conv => whnf
        repeat' (first | exact trivial | exact entC_refl _ | exact opsA_ent _ | exact ints_entS | apply And.intro)
end Go.Proofs.Ytbhmplbckkipjaa
