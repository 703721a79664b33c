/- Reasons: the reference's and ours are alike; so are the edges. -/
import Derived.Test.YtbhmplbckkipjaaDepsA
import Derived.Test.YtbhmplbckkipjaaDepsB
import Derived.Test.YtbhmplbckkipjaaEdgesB
import Derived.Test.YtbhmplbckkipjaaEngGp
namespace Go.Proofs.Ytbhmplbckkipjaa
open Go Go.Eng Go.RowKit
set_option maxRecDepth 100000
set_option linter.unusedVariables false
set_option linter.unusedSimpArgs false
theorem insD_mem (d : List (List Int)) (x y : List Int) : x ∈ insD d y ↔ x ∈ d ∨ x = y := by
  unfold insD
  split
  · rename_i h
    constructor
    · exact .inl
    · rintro (h1 | rfl)
      · exact h1
      · exact h
  · simp
theorem domI_mem (cs : List Int) (t : Int) : [t] ∈ domI cs ↔ t ∈ cs := by
  have key : ∀ (cs : List Int) (d : List (List Int)), [t] ∈ cs.foldl (fun d t => insD d [t]) d ↔ [t] ∈ d ∨ t ∈ cs := by
    intro cs
    induction cs with
    | nil => intro d; simp
    | cons c cs ih =>
      intro d
      rw [List.foldl_cons, ih, insD_mem, List.mem_cons]
      simp [or_assoc]
  rw [domI, key]; simp
theorem endsAt_one (t : Int) : ∀ (l : List Ev) (i : Nat) (r : Int), endsAt t i l = (r, 1) → ∃ j, r = ((i + j : Nat) : Int) ∧ j < l.length ∧ (l.getD j default).tx = t
  | [], i, r, h => by simp [endsAt] at h
  | e :: l, i, r, h => by
    rw [endsAt] at h
    split at h
    · rename_i hc
      exact ⟨0, by simp at h; omega, by simp, hc.1⟩
    · split at h
      · simp at h
      · obtain ⟨j, h1, h2, h3⟩ := endsAt_one t l (i + 1) r h
        exact ⟨j + 1, by omega, by simpa using h2, by simpa using h3⟩
theorem comAt_mem (l : List Ev) (t : Int) : ∀ k, t ∈ comAt l k ↔ ∃ j, j < k ∧ endsI l (l.getD j default).tx = ((j : Int), 1) ∧ (l.getD j default).tx = t
  | 0 => by simp [comAt]
  | k + 1 => by
    rw [comAt]
    have ih := comAt_mem l t k
    by_cases h : endsI l (l.getD k default).tx = ((k : Int), 1)
    · rw [if_pos h, List.mem_append, ih, List.mem_singleton]
      constructor
      · rintro (⟨j, a, b⟩ | rfl)
        · exact ⟨j, by omega, b⟩
        · exact ⟨k, by omega, h, rfl⟩
      · rintro ⟨j, a, b⟩
        by_cases e : j = k
        · right; rw [← b.2, e]
        · exact .inl ⟨j, by omega, b⟩
    · rw [if_neg h, ih]
      constructor
      · rintro ⟨j, a, b⟩; exact ⟨j, by omega, b⟩
      · rintro ⟨j, a, b⟩
        by_cases e : j = k
        · rw [e] at b; exact absurd b.1 h
        · exact ⟨j, by omega, b⟩
theorem done_mem (l : List Ev) (t : Int) : [t] ∈ doneD l ↔ (endsI l t).2 = 1 := by
  rw [doneD, domI_mem, commitsL, comAt_mem]
  constructor
  · rintro ⟨j, _, h, rfl⟩
    rw [h]
  · intro h
    have h' : endsAt t 0 l = ((endsI l t).1, 1) := Prod.ext rfl h
    obtain ⟨j, h1, h2, h3⟩ := endsAt_one t l 0 _ h'
    refine ⟨j, h2, ?_, h3⟩
    rw [h3]
    refine Prod.ext ?_ h
    simpa using h1
theorem keyD_inj {x y : Dep} : keyD x = keyD y ↔ x = y := by
  constructor
  · intro h
    simp only [keyD, List.cons.injEq, and_true] at h
    exact Dep.eq_iff.2 ⟨h.1, h.2.1, h.2.2.1, Pth.eq_iff.2 h.2.2.2⟩
  · rintro rfl; rfl
theorem keyD_mem (l : List Dep) (d : Dep) : keyD d ∈ l.map keyD ↔ d ∈ l := by
  rw [List.mem_map]
  exact ⟨fun ⟨x, h, e⟩ => keyD_inj.1 e ▸ h, fun h => ⟨d, h, rfl⟩⟩
theorem keyE_mem (l : List Eg) (d : Eg) : keyE d ∈ l.map keyE ↔ d ∈ l := by
  rw [List.mem_map]
  refine ⟨fun ⟨x, h, e⟩ => ?_, fun h => ⟨d, h, rfl⟩⟩
  simp only [keyE, List.cons.injEq, and_true] at e
  rw [← Eg.eq_iff.2 e]; exact h
theorem plays_iff (l : List Ev) (a : Ev) : playsB (doneD l) a = true ↔ (endsI l a.tx).2 = 1 ∧ ¬ a.kind = 10 := by
  rw [playsB, Bool.and_eq_true, decide_eq_true_eq, done_mem]
  simp
theorem rAdd_eq (l : List Ev) (a b : Ev) (out : List Dep) (h : playsB (doneD l) a = true) : rAdd l a out b = addD (doneD l) a out b := by
  have ha := (plays_iff l a).1 h
  unfold rAdd addD
  have hiff : ((rskB l a b || out.any fun o => decide (o = mkD a b)) = true) ↔ ¬ (playsB (doneD l) b = true ∧ kindI a b ≠ 0 ∧ keyD (mkD a b) ∉ out.map keyD) := by
    rw [plays_iff, keyD_mem]
    simp only [rskB, Bool.or_eq_true, List.any_eq_true, decide_eq_true_eq, bne_iff_ne, beq_iff_eq, ne_eq]
    constructor
    · rintro h1 ⟨⟨h2, h3⟩, h4, h5⟩
      rcases h1 with h1 | ⟨x, h1, rfl⟩
      · rcases h1 with (((h1 | h1) | h1) | h1) | h1
        · exact h1 ha.1
        · exact h1 h2
        · exact h4 h1
        · exact ha.2 h1
        · exact h3 h1
      · exact h5 h1
    · intro h1
      by_cases h2 : (endsI l b.tx).2 = 1
      · by_cases h3 : b.kind = 10
        · exact .inl (.inr h3)
        · by_cases h4 : kindI a b = 0
          · exact .inl (.inl (.inl (.inr h4)))
          · by_cases h5 : mkD a b ∈ out
            · exact .inr ⟨_, h5, rfl⟩
            · exact absurd ⟨⟨h2, h3⟩, h4, h5⟩ h1
      · exact .inl (.inl (.inl (.inl (.inr h2))))
  by_cases hc : playsB (doneD l) b = true ∧ kindI a b ≠ 0 ∧ keyD (mkD a b) ∉ out.map keyD
  · rw [if_pos hc, if_neg (fun h => (hiff.1 h) hc)]
  · rw [if_neg hc, if_pos (hiff.2 hc)]
theorem rAdd_no (l : List Ev) (a b : Ev) (out : List Dep) (h : ¬ playsB (doneD l) a = true) : rAdd l a out b = out := by
  unfold rAdd
  refine if_pos ?_
  rw [plays_iff] at h
  simp only [rskB, Bool.or_eq_true, bne_iff_ne, beq_iff_eq, ne_eq]
  by_cases h1 : (endsI l a.tx).2 = 1
  · by_cases h2 : a.kind = 10
    · exact .inl (.inl (.inr h2))
    · exact absurd ⟨h1, h2⟩ h
  · exact .inl (.inl (.inl (.inl (.inl h1))))
theorem rOut_eq (l : List Ev) : ∀ k, rOut l k = outD l k
  | 0 => rfl
  | k + 1 => by
    rw [rOut, outD, rOut_eq l k, rInn, innD, List.take_length, List.take_of_length_le (by rw [List.length_drop]; omega)]
    split
    · rename_i h
      congr 1
      funext out b
      exact rAdd_eq l _ b out h
    · rename_i h
      have key : ∀ (m : List Ev) (out : List Dep), m.foldl (rAdd l (l.getD k default)) out = out := by
        intro m
        induction m with
        | nil => intro out; rfl
        | cons b m ih => intro out; rw [List.foldl_cons, rAdd_no l _ b out h, ih]
      exact key _ _
theorem rDeps_eq (l : List Ev) : rOut l l.length = depsL l := rOut_eq l _
theorem kind_clash (a b : Ev) : kindI a b ≠ 0 ↔ clashB a b = true := by
  unfold kindI
  cases clashB a b
  · simp
  · simp; split <;> (try split) <;> decide
theorem add_alike (dom : List (List Int)) (a b : Ev) (O : List Eg) (D : List Dep) (h : ∀ x, x ∈ O ↔ x ∈ D.map dgE) (hn : O.Nodup) : (∀ x, x ∈ addH dom a O b ↔ x ∈ (addD dom a D b).map dgE) ∧ (addH dom a O b).Nodup := by
  unfold addH addD
  simp only [keyE_mem, keyD_mem, kind_clash]
  have hd : dgE (mkD a b) = mkE a b := rfl
  by_cases hc : playsB dom b = true ∧ clashB a b = true
  · by_cases h1 : mkD a b ∈ D
    · have h2 : mkE a b ∈ O := (h _).2 (List.mem_map.2 ⟨_, h1, rfl⟩)
      rw [if_neg (fun x => x.2.2 h2), if_neg (fun x => x.2.2 h1)]
      exact ⟨h, hn⟩
    · rw [if_pos (⟨hc.1, hc.2, h1⟩ : playsB dom b = true ∧ clashB a b = true ∧ mkD a b ∉ D)]
      by_cases h2 : mkE a b ∈ O
      · rw [if_neg (fun x => x.2.2 h2)]
        refine ⟨fun x => ?_, hn⟩
        rw [List.map_append, List.mem_append, ← h, List.map_cons, List.map_nil, List.mem_singleton, hd]
        exact ⟨.inl, fun e => e.elim id fun e => e ▸ h2⟩
      · rw [if_pos ⟨hc.1, hc.2, h2⟩]
        refine ⟨fun x => ?_, ?_⟩
        · rw [List.map_append, List.mem_append, List.mem_append, ← h, List.map_cons, List.map_nil, hd]
        · rw [List.nodup_append]
          refine ⟨hn, by simp, fun x hx y hy => ?_⟩
          rw [List.mem_singleton] at hy
          rintro rfl
          exact h2 (hy ▸ hx)
  · rw [if_neg (fun x => hc ⟨x.1, x.2.1⟩), if_neg (fun x => hc ⟨x.1, x.2.1⟩)]
    exact ⟨h, hn⟩
theorem fold_alike (dom : List (List Int)) (a : Ev) : ∀ (m : List Ev) (O : List Eg) (D : List Dep), (∀ x, x ∈ O ↔ x ∈ D.map dgE) → O.Nodup → (∀ x, x ∈ m.foldl (addH dom a) O ↔ x ∈ (m.foldl (addD dom a) D).map dgE) ∧ (m.foldl (addH dom a) O).Nodup
  | [], O, D, h, hn => ⟨h, hn⟩
  | b :: m, O, D, h, hn => by
    obtain ⟨h1, h2⟩ := add_alike dom a b O D h hn
    exact fold_alike dom a m _ _ h1 h2
theorem out_alike (l : List Ev) : ∀ k, (∀ x, x ∈ outH l k ↔ x ∈ (outD l k).map dgE) ∧ (outH l k).Nodup
  | 0 => by simp [outH, outD]
  | k + 1 => by
    obtain ⟨h1, h2⟩ := out_alike l k
    rw [outH, outD]
    split
    · exact fold_alike _ _ _ _ _ h1 h2
    · exact ⟨h1, h2⟩
theorem hed_eq (l : List Ev) : unqE ((depsL l).map dgE) = hedL l := by
  obtain ⟨h1, h2⟩ := out_alike l l.length
  refine once_uniq (unq_once _) (sort_once _ h2) fun x => ?_
  rw [unq_mem]
  show _ ↔ x ∈ sortE (outH l l.length)
  rw [sortE_mem, h1]; rfl
end Go.Proofs.Ytbhmplbckkipjaa

/- DepsOf: the law. -/
namespace Go.Proofs.Ytbhmplbckkipjaa
open Go Go.Eng Go.RowKit
set_option maxRecDepth 100000
set_option maxHeartbeats 8000000
set_option linter.unusedVariables false
set_option linter.unusedSimpArgs false
theorem depsOf_fn (l : List Ev) (d : List Dep) (a b : Ev) (f t : Int) (hl : l.length ≤ 9223372036854775807) (hd : d.length ≤ 9223372036854775807) (ha : a.rows.length ≤ 9223372036854775807) (hb : b.rows.length ≤ 9223372036854775807) : Eng.Fn Try.prog 13 [.c (evsX l), .c (depsX d), .a (encEv a), .a (encEv b), .c (.i .i64 f), .c (.i .i64 t)] (Tells (.c (.b true))) := by
  refine Eng.Fn.of tab_ok Try.func13 (by kernel_rfl) (by kernel_rfl) (fun w0 => ?_)
  conv => whnf
  refine callx_as (.c .bt) dp_awake rfl rfl trivial ?_
  conv => whnf
  refine callx_tells (few_fn l hl) rfl trivial ?_
  conv => whnf
  refine And.intro (fun h1 => ?_) (fun h1 => ?_)
  · conv => whnf
  · have hl30 : l.length ≤ 30 := by
      have : ((l.all fun e => decide (e.rows.length ≤ 20)) && decide (l.length ≤ 30)) = true := by
        cases hq : ((l.all fun e => decide (e.rows.length ≤ 20)) && decide (l.length ≤ 30)) with | true => rfl | false => (rw [hq] at h1; cases h1)
      rw [Bool.and_eq_true, decide_eq_true_eq] at this
      exact this.2
    conv => whnf
    refine And.intro (fun h2 => ?_) (fun h2 => ?_)
    · conv => whnf
    · have hd30 : d.length ≤ 30 := by simp at h2; omega
      conv => whnf
      refine callx_lent (few_fn [a, b] (by simp)) ⟨row_ent2 ?_, trivial⟩ rfl rfl ?_
      · repeat' (first | exact trivial | exact ⟨rfl, rfl⟩ | exact entC_refl _ | apply And.intro)
      conv => whnf
      refine And.intro (fun h3 => ?_) (fun h3 => ?_)
      · conv => whnf
      · conv => whnf
        refine loopx_nil 14 104 8 rfl ?_
        conv => whnf
        refine loopx_nil 15 106 2 rfl ?_
        conv => whnf
        refine loopi tab_ok (fun k => k ≤ d.length) (fun k => [(0, .c (evsX l)), (1, .c (depsX d)), (4, .c (.i .i64 f)), (5, .c (.i .i64 t)), (8, .c (.p 0 0)), (9, .c (.p 1 0)), (13, .c (.p 3 0)), (14, .c (.ow 4)), (15, .c (.ow 5)), (35, .c (depsX d)), (36, .c (.i .i64 d.length)), (37, .c (.i .i64 k))])
          (fun k => [.cells 100 (encEv a), .cells 100 (encEv b), .row 100 11 [encEv a, encEv b], .cells 33 (cntX (d.take k)), depIt (betL (d.take k) f t), rowE ((d.take k).map dgE)]) (fun k => d.length - k) 0 _ rfl (Nat.zero_le _) ?_ (fun k hk => ?_)
        · refine ⟨?_, ?_, rfl⟩ <;> repeat' (first | exact trivial | exact entV_refl _ | exact entLL_refl _ | exact entL_refl _ | exact ⟨rfl, rfl⟩ | rfl | apply And.intro)
        · conv => whnf
          refine And.intro (fun h4 => ?_) (fun h4 => ?_)
          · have h4 : k < d.length := by simp at h4; omega
            have htk : d.take (k + 1) = d.take k ++ [d.getD k default] := take_snocE default h4
            have hsn := fun j => cntI_snoc (d.take k) (d.getD k default) j
            simp only [← htk] at hsn
            have hsnb := betL_snoc (d.take k) (d.getD k default) f t
            rw [← htk] at hsnb
            have hbl := betL_len (d.take k) f t
            have hrg := fun j => cntI_rng (d.take k) j
            simp only [List.length_take] at hrg hbl
            conv => whnf
            refine ⟨by omega, ?_⟩
            conv => whnf
            rw [Int.toNat_natCast]
            generalize d.getD k default = x at *
            have r0 := hrg 0; have r1 := hrg 1; have r2 := hrg 2; have r3 := hrg 3
            have fin : ∀ (j : Int), (1 ≤ x.kind ∧ x.kind ≤ 3) → cntB j x = (x.kind == j) := fun j h => if_pos h
            have fin0 : ∀ (j : Int), ¬ (1 ≤ x.kind ∧ x.kind ≤ 3) → cntB j x = (j == 0) := fun j h => if_neg h
            have w : ∀ j, IntKind.i64.wrap (cntI (d.take k) j + 1) = cntI (d.take k) j + 1 := fun j => by have := hrg j; exact wrap_ok (by omega) (by omega)
            refine And.intro (fun g5 => ?_) (fun g5 => ?_)
            · have g5 : x.kind ≥ 1 := of_decide_eq_true g5
              conv => whnf
              refine And.intro (fun g6 => ?_) (fun g6 => ?_)
              · have g6 : x.kind ≤ 3 := of_decide_eq_true g6
                have hin : 1 ≤ x.kind ∧ x.kind ≤ 3 := by omega
                have hk3 : x.kind = 1 ∨ x.kind = 2 ∨ x.kind = 3 := by omega
                conv => whnf
                rcases hk3 with e | e | e
                all_goals
                  rw [e]
                  refine ⟨by decide, ?_⟩
                  conv => whnf
                  refine ⟨by decide, ?_⟩
                  conv => whnf
                  refine And.intro (fun g1 => ?_) (fun g1 => ?_)
                  · have g1 : x.fr = f := eq_of_beq g1
                    conv => whnf
                    refine And.intro (fun g2 => ?_) (fun g2 => ?_)
                    · have g2 : x.to = t := eq_of_beq g2
                      rw [if_pos ⟨g1, g2⟩] at hsnb
                      conv => whnf
                      refine ⟨by simp only [List.length_map, List.length_cons, List.length_nil]; omega, ?_⟩
                      conv => whnf
                      refine ⟨by simp only [List.length_map, List.length_cons, List.length_nil, List.length_take]; omega, ?_⟩
                      conv => whnf
                      refine ⟨k + 1, by omega, by omega, rfl, ?_⟩
                      rw [hsnb, htk]
                      refine ⟨?_, ?_, rfl⟩ <;> repeat' (first | exact trivial | exact entV_refl _ | exact wrap_succ (by omega) | exact entLL_of_eq (by rw [List.map_append, List.map_append]; rfl) | exact entLL_of_eq (by rw [List.map_append]; rfl) | exact entLL_refl _ | exact entL_refl _ | rfl | apply And.intro)
                      all_goals first | (simp [← htk, hsn, fin _ hin, e, w]; done) | exact entLL_of_eq (by rw [List.map_append]; simp [encD, e])
                    · have g2 : ¬ x.to = t := by simpa using g2
                      rw [if_neg (fun h => g2 h.2)] at hsnb
                      conv => whnf
                      refine ⟨by simp only [List.length_map, List.length_cons, List.length_nil, List.length_take]; omega, ?_⟩
                      conv => whnf
                      refine ⟨k + 1, by omega, by omega, rfl, ?_⟩
                      rw [hsnb, htk]
                      refine ⟨?_, ?_, rfl⟩ <;> repeat' (first | exact trivial | exact entV_refl _ | exact wrap_succ (by omega) | exact entLL_of_eq (by rw [List.map_append, List.map_append]; rfl) | exact entLL_refl _ | exact entL_refl _ | rfl | apply And.intro)
                      all_goals first | (simp [← htk, hsn, fin _ hin, e, w]; done) | exact entLL_of_eq (by rw [List.map_append]; simp [encD, e])
                  · have g1 : ¬ x.fr = f := by simpa using g1
                    rw [if_neg (fun h => g1 h.1)] at hsnb
                    conv => whnf
                    refine ⟨by simp only [List.length_map, List.length_cons, List.length_nil, List.length_take]; omega, ?_⟩
                    conv => whnf
                    refine ⟨k + 1, by omega, by omega, rfl, ?_⟩
                    rw [hsnb, htk]
                    refine ⟨?_, ?_, rfl⟩ <;> repeat' (first | exact trivial | exact entV_refl _ | exact wrap_succ (by omega) | exact entLL_of_eq (by rw [List.map_append, List.map_append]; rfl) | exact entLL_refl _ | exact entL_refl _ | rfl | apply And.intro)
                    all_goals first | (simp [← htk, hsn, fin _ hin, e, w]; done) | exact entLL_of_eq (by rw [List.map_append]; simp [encD, e])
        
              · have g6 : ¬ x.kind ≤ 3 := of_decide_eq_false g6
                have hin : ¬ (1 ≤ x.kind ∧ x.kind ≤ 3) := by omega
                conv => whnf
                refine And.intro (fun g1 => ?_) (fun g1 => ?_)
                · have g1 : x.fr = f := eq_of_beq g1
                  conv => whnf
                  refine And.intro (fun g2 => ?_) (fun g2 => ?_)
                  · have g2 : x.to = t := eq_of_beq g2
                    rw [if_pos ⟨g1, g2⟩] at hsnb
                    conv => whnf
                    refine ⟨by simp only [List.length_map, List.length_cons, List.length_nil]; omega, ?_⟩
                    conv => whnf
                    refine ⟨by simp only [List.length_map, List.length_cons, List.length_nil, List.length_take]; omega, ?_⟩
                    conv => whnf
                    refine ⟨k + 1, by omega, by omega, rfl, ?_⟩
                    rw [hsnb, htk]
                    refine ⟨?_, ?_, rfl⟩ <;> repeat' (first | exact trivial | exact entV_refl _ | exact wrap_succ (by omega) | exact entLL_of_eq (by rw [List.map_append, List.map_append]; rfl) | exact entLL_of_eq (by rw [List.map_append]; rfl) | exact entLL_refl _ | exact entL_refl _ | rfl | apply And.intro)
                    all_goals (simp [← htk, hsn, fin0 _ hin, w]; done)
                  · have g2 : ¬ x.to = t := by simpa using g2
                    rw [if_neg (fun h => g2 h.2)] at hsnb
                    conv => whnf
                    refine ⟨by simp only [List.length_map, List.length_cons, List.length_nil, List.length_take]; omega, ?_⟩
                    conv => whnf
                    refine ⟨k + 1, by omega, by omega, rfl, ?_⟩
                    rw [hsnb, htk]
                    refine ⟨?_, ?_, rfl⟩ <;> repeat' (first | exact trivial | exact entV_refl _ | exact wrap_succ (by omega) | exact entLL_of_eq (by rw [List.map_append, List.map_append]; rfl) | exact entLL_refl _ | exact entL_refl _ | rfl | apply And.intro)
                    all_goals (simp [← htk, hsn, fin0 _ hin, w]; done)
                · have g1 : ¬ x.fr = f := by simpa using g1
                  rw [if_neg (fun h => g1 h.1)] at hsnb
                  conv => whnf
                  refine ⟨by simp only [List.length_map, List.length_cons, List.length_nil, List.length_take]; omega, ?_⟩
                  conv => whnf
                  refine ⟨k + 1, by omega, by omega, rfl, ?_⟩
                  rw [hsnb, htk]
                  refine ⟨?_, ?_, rfl⟩ <;> repeat' (first | exact trivial | exact entV_refl _ | exact wrap_succ (by omega) | exact entLL_of_eq (by rw [List.map_append, List.map_append]; rfl) | exact entLL_refl _ | exact entL_refl _ | rfl | apply And.intro)
                  all_goals (simp [← htk, hsn, fin0 _ hin, w]; done)
        
            · have g5 : ¬ x.kind ≥ 1 := of_decide_eq_false g5
              have hin : ¬ (1 ≤ x.kind ∧ x.kind ≤ 3) := by omega
              conv => whnf
              refine And.intro (fun g1 => ?_) (fun g1 => ?_)
              · have g1 : x.fr = f := eq_of_beq g1
                conv => whnf
                refine And.intro (fun g2 => ?_) (fun g2 => ?_)
                · have g2 : x.to = t := eq_of_beq g2
                  rw [if_pos ⟨g1, g2⟩] at hsnb
                  conv => whnf
                  refine ⟨by simp only [List.length_map, List.length_cons, List.length_nil]; omega, ?_⟩
                  conv => whnf
                  refine ⟨by simp only [List.length_map, List.length_cons, List.length_nil, List.length_take]; omega, ?_⟩
                  conv => whnf
                  refine ⟨k + 1, by omega, by omega, rfl, ?_⟩
                  rw [hsnb, htk]
                  refine ⟨?_, ?_, rfl⟩ <;> repeat' (first | exact trivial | exact entV_refl _ | exact wrap_succ (by omega) | exact entLL_of_eq (by rw [List.map_append, List.map_append]; rfl) | exact entLL_of_eq (by rw [List.map_append]; rfl) | exact entLL_refl _ | exact entL_refl _ | rfl | apply And.intro)
                  all_goals (simp [← htk, hsn, fin0 _ hin, w]; done)
                · have g2 : ¬ x.to = t := by simpa using g2
                  rw [if_neg (fun h => g2 h.2)] at hsnb
                  conv => whnf
                  refine ⟨by simp only [List.length_map, List.length_cons, List.length_nil, List.length_take]; omega, ?_⟩
                  conv => whnf
                  refine ⟨k + 1, by omega, by omega, rfl, ?_⟩
                  rw [hsnb, htk]
                  refine ⟨?_, ?_, rfl⟩ <;> repeat' (first | exact trivial | exact entV_refl _ | exact wrap_succ (by omega) | exact entLL_of_eq (by rw [List.map_append, List.map_append]; rfl) | exact entLL_refl _ | exact entL_refl _ | rfl | apply And.intro)
                  all_goals (simp [← htk, hsn, fin0 _ hin, w]; done)
              · have g1 : ¬ x.fr = f := by simpa using g1
                rw [if_neg (fun h => g1 h.1)] at hsnb
                conv => whnf
                refine ⟨by simp only [List.length_map, List.length_cons, List.length_nil, List.length_take]; omega, ?_⟩
                conv => whnf
                refine ⟨k + 1, by omega, by omega, rfl, ?_⟩
                rw [hsnb, htk]
                refine ⟨?_, ?_, rfl⟩ <;> repeat' (first | exact trivial | exact entV_refl _ | exact wrap_succ (by omega) | exact entLL_of_eq (by rw [List.map_append, List.map_append]; rfl) | exact entLL_refl _ | exact entL_refl _ | rfl | apply And.intro)
                all_goals (simp [← htk, hsn, fin0 _ hin, w]; done)
        
          · have h4 : k = d.length := by simp at h4; omega
            subst h4
            have hdl : (depsL l).length ≤ 1000000 := by
              have h1 := outD_len l l.length
              have h2 : l.length * l.length ≤ 30 * 30 := Nat.mul_le_mul hl30 hl30
              show (outD l l.length).length ≤ _
              omega
            rw [List.take_length]
            conv => whnf
            refine drawx_gh (.frz 5) ?_
            conv => whnf
            refine drawx_gh (.frz 4) ?_
            conv => whnf
            refine drawx_pure tab_ok (by kernel_rfl) (by kernel_rfl) ?_
            conv => whnf
            refine callp_tells (of_fn l (by omega)) rfl trivial ?_
            conv => whnf
            refine callp_tells (rDeps_fn l (by omega)) rfl trivial ?_
            conv => whnf
            refine callp_as (.c .bt) (sameDeps_fn (depsL l) (rOut l l.length) hdl) rfl (decide_eq_true (rDeps_eq l).symm) trivial ?_
            conv => whnf
            refine callp_tells (kind_fn a b) rfl trivial ?_
            conv => whnf
            refine callp_tells (rKind_fn a b) rfl trivial ?_
            conv => whnf
            refine And.intro (fun g => ?_) (fun g => absurd g (by simp))
            conv => whnf
            refine callp_tells (count_fn d (by omega)) rfl (allSt_iff rfl) ?_
            conv => whnf
            refine And.intro (fun g => ?_) (fun g => absurd g (by simp))
            conv => whnf
            refine callp_tells (between_fn d f t (by omega)) rfl trivial ?_
            conv => whnf
            have hbl := betL_len d f t
            have hul : ∀ m : List Eg, m.length ≤ 1000000 → (unqE m).length ≤ 1000000 := fun m hm => by
              have h1 := compAt_len (sortE m) (sortE m).length
              rw [sortE_len] at h1
              have h2 : (unqE m).length ≤ m.length := by show (compAt (sortE m) (sortE m).length).length ≤ _; rw [sortE_len]; exact h1
              omega
            refine callp_says (sameDeps_fn (betL d f t) (betL d f t) (by omega)) ⟨entV_refl _, row_ent rfl, trivial⟩ rfl trivial ?_
            conv => whnf
            refine And.intro (fun g => ?_) (fun g => absurd g (by simp))
            conv => whnf
            refine callp_tells (edges_fn d (by omega)) rfl trivial ?_
            conv => whnf
            refine callp_says (rSort_fn (d.map dgE) (by simp; omega)) ⟨row_ent rfl, trivial⟩ rfl trivial ?_
            conv => whnf
            refine callp_as (.c .bt) (sameEgs_fn (unqE (d.map dgE)) (unqE (d.map dgE)) (hul _ (by simp; omega))) rfl (decide_eq_true rfl) trivial ?_
            conv => whnf
            refine callp_tells (of_fn l (by omega)) rfl trivial ?_
            conv => whnf
            refine callp_tells (edges_fn (depsL l) hdl) rfl trivial ?_
            conv => whnf
            refine callp_tells (hedges_fn l (by omega)) rfl trivial ?_
            conv => whnf
            refine callp_as (.c .bt) (sameEgs_fn (unqE ((depsL l).map dgE)) (hedL l) (hul _ (by simpa using hdl))) rfl (decide_eq_true (hed_eq l)) trivial ?_
            conv => whnf
end Go.Proofs.Ytbhmplbckkipjaa

/- DepsOf: what the row takes. -/
namespace Go.Proofs.Ytbhmplbckkipjaa
open Go Go.Eng Go.RowKit
set_option maxRecDepth 100000
set_option linter.unusedVariables false
abbrev shDp : List Sh := [.int .i64, .int .i64, .int .i64, .int .i64, .int .i64, .int .i64, .int .i64, .int .i64]
theorem fit_dep {f : Nat → XC} (h : fitF shDp f 0) : ∃ r : Dep, ∀ j, j < 8 → entC (f j) (nthC (encD r) j) := by
  obtain ⟨⟨n0, e0⟩, h⟩ := fitF_int h
  obtain ⟨⟨n1, e1⟩, h⟩ := fitF_int h
  obtain ⟨⟨n2, e2⟩, h⟩ := fitF_int h
  obtain ⟨⟨n3, e3⟩, h⟩ := fitF_int h
  obtain ⟨⟨n4, e4⟩, h⟩ := fitF_int h
  obtain ⟨⟨n5, e5⟩, h⟩ := fitF_int h
  obtain ⟨⟨n6, e6⟩, h⟩ := fitF_int h
  obtain ⟨⟨n7, e7⟩, h⟩ := fitF_int h
  refine ⟨⟨n0, n1, n2, ⟨n3, n4, n5, n6, n7⟩⟩, fun j hj => ?_⟩
  have : j = 0 ∨ j = 1 ∨ j = 2 ∨ j = 3 ∨ j = 4 ∨ j = 5 ∨ j = 6 ∨ j = 7 := by omega
  rcases this with rfl | rfl | rfl | rfl | rfl | rfl | rfl | rfl <;> (first | rw [e0] | rw [e1] | rw [e2] | rw [e3] | rw [e4] | rw [e5] | rw [e6] | rw [e7]) <;> exact entC_refl _
theorem fit_deps {n : Nat} {f : Nat → Nat → XC} (h : ∀ i, i < n → fitF shDp (f i) 0) : ∃ l : List Dep, l.length = n ∧ entC (.rs n 8 f) (depsX l) := rows_ex default fun i hi => fit_dep (h i hi)
theorem depsOf_row (l0 : Nat) (z0 : Nat → Nat → XC) (l1 : Nat) (z1 : Nat → Nat → XC) (a0 a1 a2 a3 a4 a5 a6 a7 a8 : Int) (la : Nat) (za : Nat → Nat → XC) (a10 : Int) (b0 b1 b2 b3 b4 b5 b6 b7 b8 : Int) (lb : Nat) (zb : Nat → Nat → XC) (b10 f t : Int)
    (m0 : l0 ≤ maxLen) (k0 : ∀ i, i < l0 → fitF shEv (z0 i) 0) (m1 : l1 ≤ maxLen) (k1 : ∀ i, i < l1 → fitF shDp (z1 i) 0)
    (_ : (Lit.int .i64 a0).wf = true) (_ : (Lit.int .i64 a1).wf = true) (_ : (Lit.int .i64 a2).wf = true) (_ : (Lit.int .i64 a3).wf = true) (_ : (Lit.int .i64 a4).wf = true) (_ : (Lit.int .i64 a5).wf = true) (_ : (Lit.int .i64 a6).wf = true) (_ : (Lit.int .i64 a7).wf = true) (_ : (Lit.int .i64 a8).wf = true) (ma : la ≤ maxLen) (ka : ∀ i, i < la → fitF shR (za i) 0) (_ : (Lit.int .i64 a10).wf = true)
    (_ : (Lit.int .i64 b0).wf = true) (_ : (Lit.int .i64 b1).wf = true) (_ : (Lit.int .i64 b2).wf = true) (_ : (Lit.int .i64 b3).wf = true) (_ : (Lit.int .i64 b4).wf = true) (_ : (Lit.int .i64 b5).wf = true) (_ : (Lit.int .i64 b6).wf = true) (_ : (Lit.int .i64 b7).wf = true) (_ : (Lit.int .i64 b8).wf = true) (mb : lb ≤ maxLen) (kb : ∀ i, i < lb → fitF shR (zb i) 0) (_ : (Lit.int .i64 b10).wf = true) (_ : (Lit.int .i64 f).wf = true) (_ : (Lit.int .i64 t).wf = true) :
    Eng.Fn Try.prog 13 [.c (.rs l0 11 z0), .c (.rs l1 8 z1), .a [.i .i64 a0, .i .i64 a1, .i .i64 a2, .i .i64 a3, .i .i64 a4, .i .i64 a5, .i .i64 a6, .i .i64 a7, .i .i64 a8, .rs la 6 za, .i .i64 a10], .a [.i .i64 b0, .i .i64 b1, .i .i64 b2, .i .i64 b3, .i .i64 b4, .i .i64 b5, .i .i64 b6, .i .i64 b7, .i .i64 b8, .rs lb 6 zb, .i .i64 b10], .c (.i .i64 f), .c (.i .i64 t)] (Tells (.c (.b true))) := by
  obtain ⟨l, hl, el⟩ := fit_evs k0
  obtain ⟨d, hd, ed⟩ := fit_deps k1
  obtain ⟨x, hx, ex⟩ := ev_ent (n0 := a0) (n1 := a1) (n2 := a2) (n3 := a3) (n4 := a4) (n5 := a5) (n6 := a6) (n7 := a7) (n8 := a8) (n10 := a10) ka
  obtain ⟨y, hy, ey⟩ := ev_ent (n0 := b0) (n1 := b1) (n2 := b2) (n3 := b3) (n4 := b4) (n5 := b5) (n6 := b6) (n7 := b7) (n8 := b8) (n10 := b10) kb
  simp only [maxLen] at m0 m1 ma mb
  exact (depsOf_fn l d x y f t (by omega) (by omega) (by omega) (by omega)).ask ⟨el, ed, ex, ey, entV_refl _, entV_refl _, trivial⟩
end Go.Proofs.Ytbhmplbckkipjaa
