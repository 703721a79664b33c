/- Rings by rows of ways: the reference walked. -/
import Derived.Test.YtehbalkhboedeaaCycA
import Derived.Test.YtehbalkhboedeaaCycB
namespace Go.Proofs.Ytehbalkhboedeaa
open Go Go.Eng Go.RowKit
set_option maxRecDepth 100000
set_option maxHeartbeats 8000000
set_option linter.unusedVariables false
set_option linter.unusedSimpArgs false
def encRw (r : List Int) : List XC := [intsX r]
abbrev rowsX (R : List (List Int)) : XC := rowX encRw [] 1 R
abbrev rowR (R : List (List Int)) : It := .row 57 1 (R.map encRw)
/-- What comes behind the first j of these. -/
def partN (l : List Eg) (r : List Int) (j : Nat) : List (List Int) := (((fromL l (lastI r)).take j).filter fun y => !decide (y ∈ r)).map fun y => r ++ [y]
theorem partN_all (l : List Eg) (r : List Int) : partN l r (fromL l (lastI r)).length = extR l r := by rw [partN, List.take_length]; rfl
theorem partN_snoc {l : List Eg} {r : List Int} {j : Nat} (hj : j < (fromL l (lastI r)).length) : partN l r (j + 1) = partN l r j ++ if (fromL l (lastI r)).getD j 0 ∈ r then [] else [r ++ [(fromL l (lastI r)).getD j 0]] := by
  unfold partN
  rw [take_snocI hj, List.filter_append, List.map_append]
  congr 1
  by_cases h : (fromL l (lastI r)).getD j 0 ∈ r
  · rw [if_pos h, List.filter_cons, if_neg (by simpa using h)]; rfl
  · rw [if_neg h, List.filter_cons, if_pos (by simpa using h)]; rfl
theorem partN_len (l : List Eg) (r : List Int) (j : Nat) : (partN l r j).length ≤ (extR l r).length := by
  unfold partN extR
  rw [List.length_map, List.length_map]
  exact ((List.take_sublist j _).filter _).length_le
theorem lastI_at {r : List Int} (h : r ≠ []) : r.getD (r.length - 1) 0 = lastI r := by
  have := List.length_pos_iff.2 h
  rw [lastI, List.getLastD_eq_getLast?, List.getLast?_eq_getElem?, List.getD_eq_getElem?_getD]
theorem rows_take {l : List Eg} {R : List (List Int)} {j : Nat} (hj : j < R.length) : (R.take (j + 1)).flatMap (extR l) = (R.take j).flatMap (extR l) ++ extR l (R.getD j []) := by
  rw [List.take_add_one, List.getElem?_eq_getElem hj, List.getD_eq_getElem?_getD, List.getElem?_eq_getElem hj]
  show List.flatMap (extR l) (List.take j R ++ [R[j]]) = _
  rw [List.flatMap_append, List.flatMap_cons, List.flatMap_nil, List.append_nil]; rfl
theorem rows_take_len {l : List Eg} {R : List (List Int)} {j : Nat} : ((R.take j).flatMap (extR l)).length ≤ (R.flatMap (extR l)).length := by
  conv => rhs; rw [← List.take_append_drop j R]
  rw [List.flatMap_append, List.length_append]; omega
theorem rowX_entC {α : Type} (enc : α → List XC) (d : α) (z : Nat) (l : List α) {xs : List (List XC)} (h : entLL xs (l.map enc)) : entC (rsOf xs z) (rowX enc d z l) := by
  have hl := entLL_len h
  rw [List.length_map] at hl
  refine ⟨hl, rfl, fun i hi j hj => ?_⟩
  have h1 := nthC_ent (nthL_ent h i (by rw [hl]; simpa using hi)) j
  rw [nthL_map enc d l i (by simpa using hi)] at h1
  exact h1
/-- The reference's ring. -/
theorem ring_fn (l : List Eg) (hl : l.length ≤ 14) : Eng.Fn Try.prog 36 [.c (egsX l)] (Tells (.c (intsX (findL l)))) := by
  refine Eng.Fn.ofZ tab_ok Try.func36 (by kernel_rfl) (by kernel_rfl) trivial (fun w0 => ?_)
  conv => whnf
  refine callx_tells (ron_fn l (by omega)) rfl trivial ?_
  cases ho : onL l with
  | nil =>
    conv => whnf
    refine And.intro (fun h1 => ?_) (fun h1 => absurd h1 (by decide))
    conv => whnf
    rw [show findL l = [] by rw [findL, ho]]
    exact ⟨rfl, rfl⟩
  | cons a r0 =>
    have hon : Rc l a a := (on_mem l a).1 (by rw [ho]; simp)
    have hnl := nodes_len l
    have hD := dN_ds hon
    have hLb := dN_bound l a a
    have hfind : findL l = gP l a (dN l a a) (dN l a a - 1) := by rw [findL, ho]
    generalize dN l a a = L at *
    have hL := hD.1
    have hrc := rows_close hD
    conv => whnf
    refine And.intro (fun h1 => absurd h1 (by simp; omega)) (fun h1 => ?_)
    conv => whnf
    refine ⟨by simp, ?_⟩
    conv => whnf
    refine callx_tells (rnodes_fn l (by omega)) rfl trivial ?_
    conv => whnf
    refine loopx_gh (.frz 1) ?_
    conv => whnf
    refine loopl tab_ok (fun k => k < L) (fun k => [(0, .c (egsX l)), (3, .c (intsX (a :: r0))), (4, .c (rowsX (rowsL l a k))), (21, .c (intsX (nodesL l))), (22, .c (.i .i64 (nodesL l).length)), (23, .c (.i .i64 k))]) (fun k => []) (fun k => L - k) 0 75 rfl (by omega) ?_ (fun k hk => ?_)
    · refine ⟨?_, ?_, rfl⟩ <;> repeat' (first | exact trivial | exact entV_refl _ | exact entLL_refl _ | exact ⟨rfl, rfl⟩ | rfl | apply And.intro)
      exact (rowX_entC encRw [] 1 [[a]] (xs := [[rsOf [[.i .i64 a]] 1]]) ⟨⟨ints_ent2 (entLL_refl _), trivial⟩, trivial⟩).2.2
    · have hk : k < L := hk
      conv => whnf
      refine And.intro (fun h2 => ?_) (fun h2 => absurd h2 (by simp; omega))
      have hrb := rows_bound hl a k
      have hrb2 := rows_bound hl a (k + 1)
      rw [rowsL_succ] at hrb2
      have hrs := rowsL_succ l a k
      generalize hR : rowsL l a k = R at *
      conv => whnf
      refine loopx_nil 5 57 1 rfl ?_
      conv => whnf
      refine loopl tab_ok (fun j => j ≤ R.length ∧ ∀ r ∈ R.take j, closes l a r = false) (fun j => [(0, .c (egsX l)), (3, .c (intsX (a :: r0))), (4, .c (rowsX R)), (5, .c (.ow 0)), (21, .c (intsX (nodesL l))), (22, .c (.i .i64 (nodesL l).length)), (23, .c (.i .i64 k)), (25, .c (rowsX R)), (26, .c (.i .i64 R.length)), (27, .c (.i .i64 j))]) (fun j => [rowR ((R.take j).flatMap (extR l))]) (fun j => R.length - j) 0 75 rfl ⟨Nat.zero_le _, fun _ h => by simp at h⟩ ?_ (fun j hj => ?_)
      · refine ⟨?_, ?_, rfl⟩ <;> repeat' (first | exact trivial | exact entV_refl _ | exact entLL_refl _ | exact ⟨rfl, rfl⟩ | rfl | apply And.intro)
      · obtain ⟨hj, hnc⟩ := hj
        have htl := rows_take_len (l := l) (R := R) (j := j)
        conv => whnf
        refine And.intro (fun h3 => ?_) (fun h3 => ?_)
        · have h3 : j < R.length := by simp at h3; omega
          have hstep := rows_take (l := l) h3
          have htl2 := rows_take_len (l := l) (R := R) (j := j + 1)
          rw [hstep, List.length_append] at htl2
          have hgj : R.getD j [] ∈ R := by rw [List.getD_eq_getElem?_getD, List.getElem?_eq_getElem h3]; exact List.getElem_mem h3
          have hway : Way l a k (R.getD j []) := by have := rows_way (l := l) (a := a) k; rw [hR] at this; exact this _ hgj
          have htk : R.take (j + 1) = R.take j ++ [R.getD j []] := take_snoc [] h3
          conv => whnf
          refine ⟨by omega, ?_⟩
          conv => whnf
          rw [Int.toNat_natCast]
          generalize R.getD j [] = r at *
          have hlen := hway.len
          have hrne : r ≠ [] := by intro e; rw [e] at hlen; simp at hlen
          have hw : IntKind.i64.wrap ((r.length : Int) - 1) = ((r.length - 1 : Nat) : Int) := by rw [wrap_ok (by omega) (by omega)]; omega
          have hfr := from_len l (lastI r)
          rw [hw]
          refine ⟨by omega, ?_⟩
          conv => whnf
          rw [Int.toNat_natCast, lastI_at hrne]
          refine callx_tells (rfrom_fn l (lastI r) (by omega)) rfl trivial ?_
          conv => whnf
          generalize hN : (R.take j).flatMap (extR l) = N at *
          refine loopl tab_ok (fun i => i ≤ (fromL l (lastI r)).length ∧ a ∉ (fromL l (lastI r)).take i) (fun i => [(0, .c (egsX l)), (3, .c (intsX (a :: r0))), (4, .c (rowsX R)), (5, .c (.ow 0)), (7, .c (intsX r)), (21, .c (intsX (nodesL l))), (22, .c (.i .i64 (nodesL l).length)), (23, .c (.i .i64 k)), (25, .c (rowsX R)), (26, .c (.i .i64 R.length)), (27, .c (.i .i64 j)), (38, .c (intsX (fromL l (lastI r)))), (39, .c (.i .i64 (fromL l (lastI r)).length)), (40, .c (.i .i64 i))]) (fun i => [rowR (N ++ partN l r i)]) (fun i => (fromL l (lastI r)).length - i) 0 75 rfl ⟨Nat.zero_le _, by simp⟩ ?_ (fun i hi => ?_)
          · have h00 : N ++ partN l r 0 = N := by simp [partN]
            refine ⟨?_, ?_, rfl⟩ <;> repeat' (first | exact trivial | exact entV_refl _ | exact ⟨rfl, rfl⟩ | rfl | apply And.intro)
            all_goals rw [h00]
            exact entLL_refl _
          · obtain ⟨hi, hna⟩ := hi
            have hpl := partN_len l r i
            conv => whnf
            refine And.intro (fun h4 => ?_) (fun h4 => ?_)
            · have h4 : i < (fromL l (lastI r)).length := by simp at h4; omega
              have hps := partN_snoc (r := r) h4
              have hpl2 := partN_len l r (i + 1)
              have htk2 : (fromL l (lastI r)).take (i + 1) = (fromL l (lastI r)).take i ++ [(fromL l (lastI r)).getD i 0] := take_snocI h4
              have hgm : (fromL l (lastI r)).getD i 0 ∈ fromL l (lastI r) := by rw [List.getD_eq_getElem?_getD, List.getElem?_eq_getElem h4]; exact List.getElem_mem h4
              conv => whnf
              refine ⟨by omega, ?_⟩
              conv => whnf
              rw [Int.toNat_natCast]
              generalize (fromL l (lastI r)).getD i 0 = y at *
              refine ⟨⟨by decide, by simp⟩, ?_⟩
              conv => whnf
              refine And.intro (fun h5 => ?_) (fun h5 => ?_)
              · have h5 : y = a := by simpa using h5
                subst h5
                have hcl : closes l y r = true := decide_eq_true hgm
                have hkL : k = L - 1 := by
                  rcases Nat.lt_or_ge (k + 1) L with h | h
                  · have := no_close hD h r (by rw [hR]; exact hgj)
                    rw [hcl] at this; cases this
                  · omega
                have hfd : R.find? (closes l y) = some r := by
                  rw [← List.take_append_drop (j + 1) R, htk, List.find?_append, List.find?_append, List.find?_eq_none.2 (fun x hx => by rw [hnc x hx]; simp)]
                  simp [hcl]
                have hrf : findL l = r := by
                  rw [hkL] at hR
                  rw [hR, hfd] at hrc
                  rw [hfind]; exact (Option.some.inj hrc).symm
                rw [hrf]
                conv => whnf
                exact ⟨rfl, rfl, fun _ _ _ _ => entC_refl _⟩
              · have h5 : y ≠ a := by simpa using h5
                conv => whnf
                refine callx_tells (has_fn r y (by omega)) rfl trivial ?_
                conv => whnf
                refine And.intro (fun h6 => ?_) (fun h6 => ?_)
                · have h6 : y ∉ r := by simpa using h6
                  conv => whnf
                  refine And.intro (fun h7 => ?_) (fun h7 => absurd h7 (by simp only [decide_eq_false_iff_not, List.length_map, List.length_append]; omega))
                  conv => whnf
                  refine ⟨by omega, ?_⟩
                  conv => whnf
                  rw [show rowsOf (r.length : Int).toNat 1 (fun i _ => XC.i .i64 (r.getD i 0)) = r.map fun n => [XC.i .i64 n] from rowsI_all r]
                  refine And.intro (fun h => absurd h (by simp)) (fun _ => ⟨by simp only [List.length_map, List.length_cons, List.length_nil, List.length_append]; omega, ?_⟩)
                  conv => whnf
                  refine ⟨by simp only [List.length_map, List.length_cons, List.length_nil, List.length_append]; omega, ?_⟩
                  conv => whnf
                  refine labx_go ⟨i + 1, ⟨by omega, ?_⟩, by omega, rfl, ?_⟩
                  · rw [htk2, List.mem_append, List.mem_singleton]
                    exact fun e => e.elim hna fun e => h5 e.symm
                  rw [hps, if_neg h6, ← List.append_assoc]
                  refine ⟨?_, ?_, rfl⟩ <;> repeat' (first | exact trivial | exact entV_refl _ | exact ⟨rfl, rfl⟩ | exact wrap_succ (by omega) | rfl | apply And.intro)
                  all_goals rw [show ((N ++ partN l r i) ++ [r ++ [y]]).map encRw = (N ++ partN l r i).map encRw ++ [[intsX (r ++ [y])]] from List.map_append]
                  exact entLL_append (entLL_refl _) ⟨⟨ints_ent2 (entLL_of_eq (by rw [List.map_append]; rfl)), trivial⟩, trivial⟩
                · have h6 : y ∈ r := by simpa using h6
                  conv => whnf
                  refine labx_go ⟨i + 1, ⟨by omega, ?_⟩, by omega, rfl, ?_⟩
                  · rw [htk2, List.mem_append, List.mem_singleton]
                    exact fun e => e.elim hna fun e => h5 e.symm
                  rw [hps, if_pos h6, List.append_nil]
                  refine ⟨?_, ?_, rfl⟩ <;> repeat' (first | exact trivial | exact entV_refl _ | exact entLL_refl _ | exact ⟨rfl, rfl⟩ | exact wrap_succ (by omega) | rfl | apply And.intro)
            · have h4 : i = (fromL l (lastI r)).length := by simp at h4; omega
              subst h4
              rw [List.take_length] at hna
              conv => whnf
              refine labx_go ⟨j + 1, ⟨by omega, fun x hx => ?_⟩, by omega, rfl, ?_⟩
              · rw [htk, List.mem_append, List.mem_singleton] at hx
                rcases hx with hx | rfl
                · exact hnc x hx
                · exact decide_eq_false hna
              rw [partN_all, hstep]
              refine ⟨?_, ?_, rfl⟩ <;> repeat' (first | exact trivial | exact entV_refl _ | exact entLL_refl _ | exact ⟨rfl, rfl⟩ | exact wrap_succ (by omega) | rfl | apply And.intro)
        · have h3 : j = R.length := by simp at h3; omega
          subst h3
          rw [List.take_length] at hnc ⊢
          have hkL : k + 1 < L := by
            rcases Nat.lt_or_ge (k + 1) L with h | h
            · exact h
            · exfalso
              rw [show L - 1 = k by omega, hR] at hrc
              rw [List.find?_eq_none.2 (fun x hx => by rw [hnc x hx]; simp)] at hrc
              cases hrc
          conv => whnf
          refine labx_gh (.frz 0) ?_
          conv => whnf
          refine labx_go ⟨k + 1, by omega, by omega, rfl, ?_⟩
          rw [hrs]
          refine ⟨?_, ?_, rfl⟩ <;> repeat' (first | exact trivial | exact entV_refl _ | exact entLL_refl _ | exact ⟨rfl, rfl⟩ | exact wrap_succ (by omega) | exact rowX_entC encRw [] 1 _ (entLL_refl _) | rfl | apply And.intro)
end Go.Proofs.Ytehbalkhboedeaa
