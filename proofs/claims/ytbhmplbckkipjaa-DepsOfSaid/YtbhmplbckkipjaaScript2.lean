/- Scripts: what a plan of bytes keeps within. -/
import Derived.Test.YtbhmplbckkipjaaScript
import Derived.Test.YtbhmplbckkipjaaEngGk
import Derived.Test.YtbhmplbckkipjaaOpLaw2
namespace Go.Proofs.Ytbhmplbckkipjaa
open Go Go.Eng Go.RowKit
set_option maxRecDepth 100000
set_option maxHeartbeats 4000000
set_option linter.unusedVariables false
set_option linter.unusedSimpArgs false
structure RunI (cl : Int) (s : ScS) : Prop where
  pk : ∀ k, 0 ≤ s.pk.getD k 0 ∧ s.pk.getD k 0 ≤ cl + 1
  pl : s.pk.length ≤ 4096
  ol : ∀ k, (s.ops.getD k []).length ≤ 64
  on : (s.ops.length : Int) = cl
  ok : ∀ k j, (s.ops.getD k []).getD j default = default ∨ OkP ((s.ops.getD k []).getD j default)
theorem getD_snoc {α : Type} (l : List α) (x d : α) (k : Nat) : (l ++ [x]).getD k d = l.getD k d ∧ k ≠ l.length ∨ (l ++ [x]).getD k d = x ∧ k = l.length := by
  rcases Nat.lt_trichotomy k l.length with h | h | h
  · exact .inl ⟨by rw [List.getD_eq_getElem?_getD, List.getD_eq_getElem?_getD, List.getElem?_append_left h], by omega⟩
  · refine .inr ⟨?_, h⟩
    rw [List.getD_eq_getElem?_getD, List.getElem?_append_right (by omega), h]; simp
  · refine .inl ⟨?_, by omega⟩
    rw [List.getD_eq_getElem?_getD, List.getD_eq_getElem?_getD, List.getElem?_eq_none (by simp; omega), List.getElem?_eq_none (by omega)]
theorem getD_set {α : Type} (l : List α) (i : Nat) (x d : α) (k : Nat) : (l.set i x).getD k d = l.getD k d ∨ (l.set i x).getD k d = x := by
  rw [List.getD_eq_getElem?_getD, List.getD_eq_getElem?_getD, List.getElem?_set]
  split
  · split
    · exact .inr rfl
    · rename_i h1 h2; left; rw [List.getElem?_eq_none (by omega)]
  · exact .inl rfl
theorem ofR_ok (l : List Int) : (ofR l).1 = default ∨ OkP (ofR l).1 := by
  unfold ofR
  split
  · rename_i h; exact .inr h.2.2
  · exact .inl rfl
theorem setO_len (ops : List (List Opr)) (i : Nat) (o : Opr) : (setO ops i o).length = ops.length := by
  unfold setO; split
  · exact List.length_set ..
  · rfl
theorem RunI.step {cl : Int} {s : ScS} (h : RunI cl s) (hc : 1 ≤ cl) {r : List Int} (hr : ∀ k, Byte (r.getD k 0)) : RunI cl (stepS cl s r).1 := by
  have hx := hr 0
  unfold Byte at hx
  unfold stepS
  split
  · refine ⟨fun k => ?_, ?_, h.ol, h.on, h.ok⟩
    · show 0 ≤ (if s.pk.length < 4096 then s.pk ++ [r.getD 0 0 % (cl + 2)] else s.pk).getD k 0 ∧ (if s.pk.length < 4096 then s.pk ++ [r.getD 0 0 % (cl + 2)] else s.pk).getD k 0 ≤ cl + 1
      have h1 := Int.emod_nonneg (r.getD 0 0) (show cl + 2 ≠ 0 by omega)
      have h2 := Int.emod_lt_of_pos (r.getD 0 0) (show 0 < cl + 2 by omega)
      split
      · rcases getD_snoc s.pk (r.getD 0 0 % (cl + 2)) 0 k with ⟨e, _⟩ | ⟨e, _⟩
        · rw [e]; exact h.pk k
        · rw [e]; omega
      · exact h.pk k
    · show (if s.pk.length < 4096 then s.pk ++ [r.getD 0 0 % (cl + 2)] else s.pk).length ≤ 4096
      split
      · rw [List.length_append]; simp; omega
      · exact h.pl
  · have ho := ofR_ok (r.drop 1)
    generalize (ofR (r.drop 1)).1 = o at ho ⊢
    generalize ((r.getD 0 0 - 128) % cl).toNat = i
    refine ⟨h.pk, h.pl, fun k => ?_, ?_, fun k j => ?_⟩
    · show ((setO s.ops i o).getD k []).length ≤ 64
      unfold setO
      split
      · rcases getD_set s.ops i (s.ops.getD i [] ++ [o]) [] k with e | e
        · rw [e]; exact h.ol k
        · rw [e, List.length_append]; simp only [List.length_cons, List.length_nil]; omega
      · exact h.ol k
    · show ((setO s.ops i o).length : Int) = cl
      rw [setO_len]; exact h.on
    · show ((setO s.ops i o).getD k []).getD j default = default ∨ OkP (((setO s.ops i o).getD k []).getD j default)
      unfold setO
      split
      · rcases getD_set s.ops i (s.ops.getD i [] ++ [o]) [] k with e | e
        · rw [e]; exact h.ok k j
        · rw [e]
          rcases getD_snoc (s.ops.getD i []) o default j with ⟨e2, _⟩ | ⟨e2, _⟩
          · rw [e2]; exact h.ok i j
          · rw [e2]; exact ho
      · exact h.ok k j
theorem stepS_by (cl : Int) (s : ScS) {r : List Int} (hr : ∀ k, Byte (r.getD k 0)) : ∀ k, Byte ((stepS cl s r).2.getD k 0) := by
  intro k
  unfold stepS
  split
  · show Byte (at8 (r.drop 1) k)
    rw [at8_drop]; exact hr _
  · show Byte (at8 ((r.drop 1).drop _) k)
    rw [at8_drop, at8_drop]; exact hr _
theorem RunI.run {cl : Int} (hc : 1 ≤ cl) : ∀ n (s : ScS) (r : List Int), RunI cl s → (∀ k, Byte (r.getD k 0)) → RunI cl (runS cl n s r)
  | 0, s, r, h, _ => h
  | n + 1, s, r, h, hr => by
    unfold runS
    split
    · exact h
    · exact RunI.run hc n _ _ (h.step hc hr) (stepS_by cl s hr)
theorem cfL_cl (l : List Int) (hb : ∀ k, Byte (l.getD k 0)) : 1 ≤ (cfL l).cl ∧ (cfL l).cl ≤ 8 := by
  unfold cfL cfB; dsimp only; omega
theorem takeS_i (l : List Int) (hb : ∀ k, Byte (l.getD k 0)) : RunI (cfL l).cl (takeS l) := by
  have hcl := cfL_cl l hb
  refine RunI.run hcl.1 _ _ _ ⟨fun k => by simp; omega, by simp, fun k => ?_, by rw [List.length_replicate]; omega, fun k j => ?_⟩ (fun k => ?_)
  · show ((List.replicate (cfL l).cl.toNat ([] : List Opr)).getD k []).length ≤ 64
    rw [List.getD_eq_getElem?_getD, List.getElem?_replicate]; split <;> simp
  · left
    show ((List.replicate (cfL l).cl.toNat ([] : List Opr)).getD k []).getD j default = default
    rw [List.getD_eq_getElem?_getD (l := List.replicate _ _), List.getElem?_replicate]; split <;> simp
  · show Byte (at8 (l.drop 8) k)
    rw [at8_drop]; exact hb _
def totS (s : ScS) : Nat := s.pk.length + (s.ops.map List.length).sum
theorem sum_set : ∀ (l : List (List Opr)) (i : Nat) (x : List Opr), ((l.set i x).map List.length).sum + (l.getD i []).length ≤ (l.map List.length).sum + x.length
  | [], i, x => by simp
  | a :: l, 0, x => by simp; omega
  | a :: l, i + 1, x => by
    have := sum_set l i x
    simp only [List.set_cons_succ, List.map_cons, List.sum_cons, List.getD_cons_succ]
    omega
theorem stepS_tot (cl : Int) (s : ScS) {r : List Int} (h : 0 < r.length) : totS (stepS cl s r).1 + (stepS cl s r).2.length ≤ totS s + r.length := by
  unfold stepS
  split
  · show (if s.pk.length < 4096 then s.pk ++ [r.getD 0 0 % (cl + 2)] else s.pk).length + (s.ops.map List.length).sum + (r.drop 1).length ≤ _
    unfold totS
    rw [List.length_drop]
    split
    · rw [List.length_append]; simp only [List.length_cons, List.length_nil]; omega
    · omega
  · generalize (ofR (r.drop 1)).1 = o
    generalize ((r.getD 0 0 - 128) % cl).toNat = i
    show s.pk.length + ((setO s.ops i o).map List.length).sum + ((r.drop 1).drop _).length ≤ _
    unfold totS
    rw [List.length_drop, List.length_drop]
    unfold setO
    split
    · have := sum_set s.ops i (s.ops.getD i [] ++ [o])
      rw [List.length_append] at this
      simp only [List.length_cons, List.length_nil] at this
      omega
    · omega
theorem runS_tot (cl : Int) : ∀ n (s : ScS) (r : List Int), totS (runS cl n s r) ≤ totS s + r.length
  | 0, s, r => by simp [runS]
  | n + 1, s, r => by
    unfold runS
    split
    · omega
    · rename_i hr
      have h1 := stepS_tot cl s (r := r) (List.length_pos_iff.2 hr)
      have h2 := runS_tot cl n (stepS cl s r).1 (stepS cl s r).2
      omega
theorem takeS_tot (l : List Int) : totS (takeS l) ≤ l.length - 8 := by
  have h := runS_tot (cfL l).cl l.length ⟨List.replicate (cfL l).cl.toNat [], []⟩ (l.drop 8)
  have h0 : totS ⟨List.replicate (cfL l).cl.toNat [], []⟩ = 0 := by
    unfold totS; simp
  rw [h0, List.length_drop] at h
  unfold takeS
  omega
theorem cfL_app (l m : List Int) (h : 8 ≤ l.length) : cfL (l ++ m) = cfL l := by
  have e : ∀ k, k < 8 → (l ++ m).getD k 0 = l.getD k 0 := fun k hk => by
    rw [List.getD_eq_getElem?_getD, List.getD_eq_getElem?_getD, List.getElem?_append_left (by omega)]
  unfold cfL
  rw [e 0 (by omega), e 1 (by omega), e 2 (by omega), e 3 (by omega), e 4 (by omega), e 5 (by omega), e 6 (by omega), e 7 (by omega)]
theorem planX_st (c : Cf) (s : ScS) : stX (planX c s) := fun y hy =>
  allSt_iff (l := [.i .i64 c.cl, .i .i64 c.po, .i .i64 c.vi, .i .i64 c.he, .i .i64 c.re, .i .i64 c.la, .i .i64 c.ti, .i .i64 c.gr, .i .i64 c.ck, rowX encOpsS [] 1 s.ops, intsX s.pk]) rfl y hy
theorem by_nil : ∀ k, Byte (([] : List Int).getD k 0) := fun k => by simp [Byte]
theorem sc_awake : Eng.Fn Try.prog 14 [] (Tells (.c (.b true))) := by
  refine Eng.Fn.of tab_ok Try.func14 (by kernel_rfl) (by kernel_rfl) (fun w0 => ?_)
  conv => whnf
  refine callx_says (take_fn [] by_nil (by simp)) ⟨nil_bytes, trivial⟩ rfl (planX_st _ _) ?_
  conv => whnf
  refine And.intro (fun _ => ?_) (fun h => absurd h (by decide))
  conv => whnf
  refine And.intro (fun _ => ?_) (fun h => absurd h (by decide))
  conv => whnf
  decide
theorem count_wrap (n : Int) (h : 0 ≤ n ∧ n ≤ 1000000) : IntKind.i64.wrap n = n := wrap_ok (by omega) (by omega)
def cntS (s : ScS) (k : Nat) : Nat := s.pk.length + ((s.ops.take k).map List.length).sum
theorem cntS_succ (s : ScS) (k : Nat) (hk : k < s.ops.length) : cntS s (k + 1) = cntS s k + (s.ops.getD k []).length := by
  unfold cntS
  rw [map_take_succ List.length [] s.ops k hk, List.sum_append]
  simp only [List.sum_cons, List.sum_nil]
  omega
theorem cntS_le (s : ScS) (k : Nat) : cntS s k ≤ totS s := by
  unfold cntS totS
  have h : (s.ops.map List.length).sum = ((s.ops.take k).map List.length).sum + ((s.ops.drop k).map List.length).sum := by
    rw [← List.sum_append, ← List.map_append, List.take_append_drop]
  omega
theorem bounds_fn (l m : List Int) (hl : l.length ≤ 9223372036854775807) (hm : m.length ≤ 9223372036854775807) (hb : ∀ k, Byte (l.getD k 0)) (hbm : ∀ k, Byte (m.getD k 0)) : Eng.Fn Try.prog 3 [.c (bytesX l), .c (bytesX m)] (Tells (.c (.b true))) := by
  refine Eng.Fn.of tab_ok Try.func3 (by kernel_rfl) (by kernel_rfl) (fun w0 => ?_)
  conv => whnf
  refine callx_as (.c .bt) sc_awake rfl rfl trivial ?_
  conv => whnf
  refine And.intro (fun h1 => ?_) (fun h1 => ?_)
  · conv => whnf
  conv => whnf
  refine And.intro (fun h2 => ?_) (fun h2 => ?_)
  · conv => whnf
  have h1 : l.length ≤ 1000 := by simp at h1; omega
  have h2 : m.length ≤ 1000 := by simp at h2; omega
  have hI := takeS_i l hb
  have hcl := cfL_cl l hb
  have htot := takeS_tot l
  have hpl := hI.pl
  conv => whnf
  refine callx_says (take_fn l hb (by omega)) ⟨entV_refl _, trivial⟩ rfl (planX_st _ _) ?_
  conv => whnf
  have happ : 8 ≤ l.length → Eng.Fn Try.prog 15 [.c (bytesX (l ++ m))] (Tells (.a [.i .i64 (cfL l).cl, .i .i64 (cfL l).po, .i .i64 (cfL l).vi, .i .i64 (cfL l).he, .i .i64 (cfL l).re, .i .i64 (cfL l).la, .i .i64 (cfL l).ti, .i .i64 (cfL l).gr, .i .i64 (cfL l).ck, .un, .un])) := fun h8 => by
    have h := take_fn (l ++ m) (fun k => by
      rcases Nat.lt_or_ge k l.length with hk | hk
      · rw [List.getD_eq_getElem?_getD, List.getElem?_append_left hk, ← List.getD_eq_getElem?_getD]; exact hb k
      · rw [List.getD_eq_getElem?_getD, List.getElem?_append_right hk, ← List.getD_eq_getElem?_getD]; exact hbm _) (by rw [List.length_append]; omega)
    rw [cfL_app l m h8] at h
    refine h.less ?_
    repeat' (first | exact entC_refl _ | exact trivial | apply And.intro)
    all_goals rfl
  generalize takeS l = s at *
  generalize cfL l = c at *
  refine loopi tab_ok (fun k => k ≤ s.pk.length) (fun k => [(0, .c (bytesX l)), (1, .c (bytesX m)), (5, .c (.p 0 0)), (24, .c (intsX s.pk)), (25, .c (.i .i64 s.pk.length)), (26, .c (.i .i64 k))])
    (fun k => [.cells 29 [.i .i64 c.cl, .i .i64 c.po, .i .i64 c.vi, .i .i64 c.he, .i .i64 c.re, .i .i64 c.la, .i .i64 c.ti, .i .i64 c.gr, .i .i64 c.ck, rowX encOpsS [] 1 s.ops, intsX s.pk]]) (fun k => s.pk.length - k) 0 87 rfl (Nat.zero_le _) ?_ (fun k hk => ?_)
  · refine ⟨?_, ?_, rfl⟩ <;> repeat' (first | exact trivial | exact entV_refl _ | exact entC_refl _ | rfl | apply And.intro)
  conv => whnf
  refine And.intro (fun h3 => ?_) (fun h3 => ?_)
  · simp only [decide_eq_true_eq] at h3
    have hk2 : k < s.pk.length := by omega
    obtain ⟨hp0, hp1⟩ := hI.pk k
    conv => whnf
    refine ⟨by omega, ?_⟩
    conv => whnf
    rw [Int.toNat_natCast]
    have hw : IntKind.i64.wrap (c.cl + 1) = c.cl + 1 := wrap_ok (by omega) (by omega)
    refine And.intro (fun h => absurd (of_decide_eq_true h) (by omega)) (fun _ => ?_)
    conv => whnf
    refine And.intro (fun h => absurd (of_decide_eq_true h) (by omega)) (fun _ => ?_)
    conv => whnf
    refine ⟨k + 1, by omega, by omega, rfl, ?_⟩
    refine ⟨?_, ?_, rfl⟩ <;> repeat' (first | exact trivial | exact entV_refl _ | exact entC_refl _ | exact wrap_succ (by omega) | rfl | apply And.intro)
  · simp only [decide_eq_false_iff_not] at h3
    conv => whnf
    refine loopi tab_ok (fun k => k ≤ s.ops.length) (fun k => [(0, .c (bytesX l)), (1, .c (bytesX m)), (5, .c (.p 0 0)), (8, .c (.i .i64 (cntS s k))), (45, .c (rowX encOpsS [] 1 s.ops)), (46, .c (.i .i64 s.ops.length)), (47, .c (.i .i64 k))])
      (fun k => [.cells 29 [.i .i64 c.cl, .i .i64 c.po, .i .i64 c.vi, .i .i64 c.he, .i .i64 c.re, .i .i64 c.la, .i .i64 c.ti, .i .i64 c.gr, .i .i64 c.ck, rowX encOpsS [] 1 s.ops, intsX s.pk]]) (fun k => s.ops.length - k) 0 87 rfl (Nat.zero_le _) ?_ (fun k hk => ?_)
    · refine ⟨?_, ?_, rfl⟩ <;> repeat' (first | exact trivial | exact entV_refl _ | exact entC_refl _ | rfl | apply And.intro)
    conv => whnf
    have hon := hI.on
    have hle := cntS_le s k
    refine And.intro (fun h4 => ?_) (fun h4 => ?_)
    · simp only [decide_eq_true_eq] at h4
      have hk2 : k < s.ops.length := by omega
      have hol := hI.ol k
      conv => whnf
      refine ⟨by omega, ?_⟩
      conv => whnf
      rw [Int.toNat_natCast]
      refine And.intro (fun h => absurd (of_decide_eq_true h) (by omega)) (fun _ => ?_)
      conv => whnf
      refine ⟨k + 1, by omega, by omega, rfl, ?_⟩
      have hcw : IntKind.i64.wrap ((cntS s k : Int) + ((s.ops.getD k []).length : Int)) = ((cntS s (k + 1) : Nat) : Int) := by
        rw [cntS_succ s k hk2, wrap_ok (by omega) (by omega)]; omega
      refine ⟨?_, ?_, rfl⟩ <;> repeat' (first | exact trivial | exact entV_refl _ | exact entC_refl _ | exact wrap_succ (by omega) | exact hcw | rfl | apply And.intro)
    · simp only [decide_eq_false_iff_not] at h4
      conv => whnf
      refine drawx_plan tab_ok [] (.take 0 (.take 1 (.take 2 (.take 3 (.take 4 (.take 5 (.take 6 (.take 7 (.take 8 (.take 9 (.take 10 (.take 11 (.take 12 (.take 13 (.take 14 (.take 15 (.take 16 (.take 17 (.take 19 (.take 23 (.take 24 (.one 18 (.one 20 (.one 21 (.take 22 (.take 25 (.take 26 (.take 27 (.take 28 (.done)))))))))))))))))))))))))))))) (by kernel_rfl) (by kernel_rfl) (by kernel_rfl) ?_
      conv => whnf
      have hwl : IntKind.i64.wrap ((l.length : Int) - 8) = (l.length : Int) - 8 := wrap_ok (by omega) (by omega)
      refine And.intro (fun _ => ?_) (fun h => absurd (of_decide_eq_false h) (by omega))
      conv => whnf
      have hcn : (cntS s k : Int) ≤ if 0 > IntKind.i64.wrap ((l.length : Int) - 8) then 0 else IntKind.i64.wrap ((l.length : Int) - 8) := by
        rw [hwl]; split <;> omega
      refine And.intro (fun _ => ?_) (fun h => absurd hcn (of_decide_eq_false h))
      conv => whnf
      refine And.intro (fun _ => ?_) (fun h5 => ?_)
      · conv => whnf
      · have h5 : 8 ≤ l.length := by simp at h5; omega
        conv => whnf
        rw [rowsOf_bytes l]
        refine And.intro (by simp only [List.length_map]; omega) ?_
        conv => whnf
        rw [rowsOf_bytes m]
        refine And.intro (by simp only [List.length_map]; omega) ?_
        conv => whnf
        all_goals
          refine callf_lent (happ h5) ⟨bytes_ent3 (by rw [List.map_append]), trivial⟩ rfl rfl ?_
          conv => whnf
          simp
theorem bounds_row (l0 : Nat) (g0 : Nat → Int) (l1 : Nat) (g1 : Nat → Int) (m0 : l0 ≤ maxLen) (w0 : ∀ i, i < l0 → (Lit.int .u8 (g0 i)).wf = true) (m1 : l1 ≤ maxLen) (w1 : ∀ i, i < l1 → (Lit.int .u8 (g1 i)).wf = true) :
    Eng.Fn Try.prog 3 [.c (.rs l0 1 fun i _ => .i .u8 (g0 i)), .c (.rs l1 1 fun i _ => .i .u8 (g1 i))] (Tells (.c (.b true))) :=
  (bounds_fn (listI l0 g0) (listI l1 g1) (by simp [listI]; simp [maxLen] at m0; omega) (by simp [listI]; simp [maxLen] at m1; omega) (bytes_listI w0) (bytes_listI w1)).ask ⟨bytes_of, bytes_of, trivial⟩
end Go.Proofs.Ytbhmplbckkipjaa
