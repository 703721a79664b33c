/- A plan is told again of its bytes: plain law. -/
import Derived.Test.YtbhmplbckkipjaaScript11
namespace Go.Proofs.Ytbhmplbckkipjaa
open Go Go.Eng Go.RowKit
set_option maxRecDepth 100000
set_option maxHeartbeats 4000000
set_option linter.unusedVariables false
set_option linter.unusedSimpArgs false
def runR (cl : Int) (s : ScS) (r : List Int) : ScS := runS cl r.length s r
theorem runR_step (cl : Int) (s : ScS) {r : List Int} (h : 0 < r.length) : runR cl s r = runR cl (stepS cl s r).1 (stepS cl s r).2 := runS_step cl s h
theorem op_step {cl : Int} {ops : List (List Opr)} {pk : List Int} {k : Nat} {o : Opr} {rest : List Int} (hk : (k : Int) < cl) (ho : OkP o) (hl : (ops.getD k []).length < 64) :
    runR cl ⟨ops, pk⟩ ((128 + (k : Int)) :: putB o ++ rest) = runR cl ⟨ops.set k (ops.getD k [] ++ [o]), pk⟩ rest := by
  rw [runR_step cl _ (by simp)]
  have h0 : ((128 + (k : Int)) :: putB o ++ rest).getD 0 0 = 128 + (k : Int) := rfl
  have h1 : ((128 + (k : Int)) :: putB o ++ rest).drop 1 = putB o ++ rest := rfl
  have hm : (128 + (k : Int) - 128) % cl = (k : Int) := by
    rw [show 128 + (k : Int) - 128 = (k : Int) by omega]; exact Int.emod_eq_of_lt (by omega) hk
  rw [stepS, h0, h1, if_neg (by omega), hm, Int.toNat_natCast, ofR_put ho rest]
  dsimp only
  rw [Int.toNat_natCast, List.drop_left, setO, if_pos hl]
theorem ops_steps {cl : Int} {pk : List Int} {k : Nat} {rest : List Int} (hk : (k : Int) < cl) : ∀ (os : List Opr) (ops : List (List Opr)), k < ops.length → (∀ o ∈ os, OkP o) → (ops.getD k []).length + os.length ≤ 64 →
    runR cl ⟨ops, pk⟩ (opB k os ++ rest) = runR cl ⟨ops.set k (ops.getD k [] ++ os), pk⟩ rest
  | [], ops, hkl, _, _ => by
    have : ops.set k (ops.getD k [] ++ []) = ops := by
      rw [List.append_nil, List.getD_eq_getElem?_getD, List.getElem?_eq_getElem hkl]; exact List.set_getElem_self hkl
    rw [this]; rfl
  | o :: os, ops, hkl, ho, hl => by
    have e : opB k (o :: os) ++ rest = (128 + (k : Int)) :: putB o ++ (opB k os ++ rest) := by
      have h3 : opB k (o :: os) = ((128 + (k : Int)) :: putB o) ++ opB k os := by unfold opB; rw [List.flatMap_cons]
      rw [h3, List.append_assoc]
    have hg : (ops.set k (ops.getD k [] ++ [o])).getD k [] = ops.getD k [] ++ [o] := by
      rw [List.getD_eq_getElem?_getD, List.getElem?_set_self hkl]; rfl
    simp only [List.length_cons] at hl
    rw [e, op_step hk (ho o (by simp)) (by omega), ops_steps hk os _ (by rw [List.length_set]; exact hkl) (fun x hx => ho x (by simp [hx])) (by rw [hg, List.length_append, List.length_cons, List.length_nil]; omega), hg, List.set_set]
    simp
def opsFrom : Nat → List (List Opr) → List Int
  | _, [] => []
  | k, r :: rs => opB k r ++ opsFrom (k + 1) rs
theorem opsFrom_eq : ∀ (rows : List (List Opr)) (k : Nat), (List.range' k rows.length).flatMap (fun i => opB i (rows.getD (i - k) [])) = opsFrom k rows
  | [], k => rfl
  | r :: rs, k => by
    rw [List.length_cons, List.range'_succ, List.flatMap_cons, opsFrom, ← opsFrom_eq rs (k + 1)]
    rw [Nat.sub_self]
    congr 1
    rw [List.flatMap_def, List.flatMap_def]
    congr 1
    apply List.map_congr_left
    intro i hi
    rw [List.mem_range'] at hi
    obtain ⟨j, hj, rfl⟩ := hi
    rw [show k + 1 + 1 * j - k = (k + 1 + 1 * j - (k + 1)) + 1 by omega]
    rfl
theorem rows_steps {cl : Int} {rest : List Int} {pk : List Int} : ∀ (rows dn : List (List Opr)), ((dn.length + rows.length : Nat) : Int) = cl → (∀ r ∈ rows, r.length ≤ 64 ∧ ∀ o ∈ r, OkP o) →
    runR cl ⟨dn ++ List.replicate rows.length [], pk⟩ (opsFrom dn.length rows ++ rest) = runR cl ⟨dn ++ rows, pk⟩ rest
  | [], dn, _, _ => by simp [opsFrom]
  | r :: rs, dn, hcl, h => by
    simp only [List.length_cons] at hcl
    have hg : (dn ++ List.replicate (rs.length + 1) []).getD dn.length [] = ([] : List Opr) := by
      rw [List.getD_eq_getElem?_getD, List.getElem?_append_right (Nat.le_refl _)]
      simp
    have hset : (dn ++ List.replicate (rs.length + 1) []).set dn.length r = (dn ++ [r]) ++ List.replicate rs.length [] := by
      rw [List.set_append_right _ _ (Nat.le_refl _)]
      simp [List.replicate_succ]
    have hr := h r (by simp)
    rw [opsFrom, List.append_assoc, List.length_cons, ops_steps (by omega) r _ (by simp) hr.2 (by rw [hg]; simpa using hr.1), hg, List.nil_append, hset]
    have := rows_steps (cl := cl) (rest := rest) (pk := pk) rs (dn ++ [r]) (by simp only [List.length_append, List.length_cons, List.length_nil]; omega) (fun x hx => h x (by simp [hx]))
    rw [show (dn ++ [r]).length = dn.length + 1 by simp] at this
    rw [this]
    simp
theorem picks_steps {cl : Int} (hcl : 1 ≤ cl ∧ cl ≤ 8) {ops : List (List Opr)} : ∀ (ps pk : List Int), (∀ x ∈ ps, 0 ≤ x ∧ x ≤ cl + 1) → pk.length + ps.length ≤ 4096 → runR cl ⟨ops, pk⟩ ps = ⟨ops, pk ++ ps⟩
  | [], pk, _, _ => by rw [List.append_nil]; rfl
  | x :: ps, pk, h, hl => by
    have hx := h x (by simp)
    simp only [List.length_cons] at hl
    rw [runR_step cl _ (by simp)]
    have h0 : (x :: ps).getD 0 0 = x := rfl
    rw [stepS, h0, if_pos (by omega)]
    dsimp only
    rw [if_pos (by omega), Int.emod_eq_of_lt hx.1 (by omega), List.drop_one, List.tail_cons, picks_steps hcl ps _ (fun y hy => h y (by simp [hy])) (by simp only [List.length_append, List.length_cons, List.length_nil]; omega)]
    simp
theorem mem_getD {α : Type} (d : α) {l : List α} {p : α → Prop} (h : ∀ k, k < l.length → p (l.getD k d)) : ∀ x ∈ l, p x := fun x hx => by
  obtain ⟨i, hi, rfl⟩ := List.mem_iff_getElem.1 hx
  have := h i hi
  rw [List.getD_eq_getElem?_getD, List.getElem?_eq_getElem hi] at this
  exact this
theorem back {c : Cf} {s : ScS} (h : okPl c s) : cfL (outB c s s.ops.length ++ s.pk) = c ∧ takeS (outB c s s.ops.length ++ s.pk) = s := by
  obtain ⟨h1, h2, h3, h4, h5⟩ := h
  have hm := id h1.1
  unfold mayCf at hm
  have hcf : cfL (outB c s s.ops.length ++ s.pk) = c := (okC_iff h1.1).2 h1
  refine ⟨hcf, ?_⟩
  unfold takeS
  rw [hcf]
  have hd : (outB c s s.ops.length ++ s.pk).drop 8 = opsFrom 0 s.ops ++ s.pk := by
    have e : outB c s s.ops.length = bsC c ++ opsFrom 0 s.ops := by
      unfold outB
      rw [← opsFrom_eq s.ops 0, ← List.range_eq_range']
      rfl
    rw [e, List.append_assoc]
    rfl
  rw [hd]
  have hf : runS c.cl (outB c s s.ops.length ++ s.pk).length ⟨List.replicate c.cl.toNat [], []⟩ (opsFrom 0 s.ops ++ s.pk) = runR c.cl ⟨List.replicate c.cl.toNat [], []⟩ (opsFrom 0 s.ops ++ s.pk) :=
    (runS_fuel _ _ _ _ (Nat.le_refl _) _ (by rw [← hd, List.length_drop]; omega)).symm
  rw [hf]
  have hr := rows_steps (cl := c.cl) (rest := s.pk) (pk := []) s.ops [] (by simpa using h2) (mem_getD [] fun k hk => ⟨(h4 k hk).1, mem_getD default (h4 k hk).2⟩)
  simp only [List.nil_append, List.length_nil] at hr
  rw [show c.cl.toNat = s.ops.length by omega, hr, picks_steps ⟨by omega, by omega⟩ s.pk [] (mem_getD 0 h5) (by simpa using h3)]
  rfl
theorem outB_len {c : Cf} {s : ScS} (h : okPl c s) : ∀ k, k ≤ s.ops.length → (outB c s k).length ≤ 8 + 1344 * k
  | 0, _ => by simp [outB, bsC]
  | k + 1, hk => by
    have h1 := outB_len h k (by omega)
    have h2 := opB_len k (s.ops.getD k [])
    have h3 := (h.2.2.2.1 k (by omega)).1
    rw [outB_succ, List.length_append]
    omega
theorem outB_mem {c : Cf} {s : ScS} (h : okPl c s) : ∀ x ∈ outB c s s.ops.length ++ s.pk, 0 ≤ x ∧ x ≤ 255 := fun x hx => by
  obtain ⟨h1, h2, h3, h4, h5⟩ := h
  have hm := id h1.1
  unfold mayCf at hm
  rcases List.mem_append.1 hx with hx | hx
  · rcases List.mem_append.1 hx with hx | hx
    · simp only [bsC, List.mem_cons, List.not_mem_nil, or_false] at hx
      rcases hx with rfl | rfl | rfl | rfl | rfl | rfl | rfl | rfl <;> omega
    · obtain ⟨k, hk, hx⟩ := List.mem_flatMap.1 hx
      have hk := List.mem_range.1 hk
      obtain ⟨o, ho, hx⟩ := List.mem_flatMap.1 hx
      rcases List.mem_cons.1 hx with rfl | hx
      · omega
      · exact putB_mem hx
  · have := mem_getD (p := fun x => 0 ≤ x ∧ x ≤ c.cl + 1) 0 h5 x hx
    omega
theorem back_fn (c : Cf) (s : ScS) (hs : s.ops.length ≤ 9223372036854775807) : Eng.Fn Try.prog 7 [planX c s] (Tells (.c (.b true))) := by
  refine Eng.Fn.of tab_ok Try.func7 (by kernel_rfl) (by kernel_rfl) (fun w0 => ?_)
  conv => whnf
  refine callx_as (.c .bt) sc_awake rfl rfl trivial ?_
  conv => whnf
  refine callx_tells (few_fn c s hs) rfl trivial ?_
  conv => whnf
  refine And.intro (fun h3 => ?_) (fun h3 => ?_)
  · conv => whnf
    first | rfl | trace_state
  · have h3 : fewP s := by simpa using h3
    obtain ⟨f1, f2, f3⟩ := few_small h3
    have hst : stX (.t [.c (bytesX (putI c s).1), .c (.i .i64 (putI c s).2)]) := by
      intro x hx
      simp only [List.mem_cons, List.not_mem_nil, or_false] at hx
      rcases hx with rfl | rfl <;> trivial
    have hpf := putP_fn c s f1 f2 f3
    conv => whnf
    by_cases hok : okPl c s
    · obtain ⟨e1, e2⟩ := back hok
      have hlen := outB_len hok s.ops.length (Nat.le_refl _)
      have hmem := outB_mem hok
      have hol := h3.2.1
      have hpl := h3.2.2
      rw [put_yes hok] at hpf hst
      have hll : (outB c s s.ops.length ++ s.pk).length ≤ 100000 := by rw [List.length_append]; omega
      generalize outB c s s.ops.length ++ s.pk = l at *
      have hT := take_fn l (fun k => by
        by_cases hk : k < l.length
        · rw [List.getD_eq_getElem?_getD, List.getElem?_eq_getElem hk]; exact hmem _ (List.getElem_mem hk)
        · rw [List.getD_eq_getElem?_getD, List.getElem?_eq_none (by omega)]; exact ⟨by decide, by decide⟩) hll
      rw [e1, e2] at hT
      have hsm := samePlan_fn c c s s f1 f2 f3
      simp only [and_self, decide_true] at hsm
      refine callx_tells hpf rfl hst ?_
      conv => whnf
      refine And.intro (fun h => absurd h (by simp)) (fun _ => ?_)
      conv => whnf
      refine drawx_pure tab_ok (by kernel_rfl) (by kernel_rfl) ?_
      conv => whnf
      refine callp_tells hT rfl (planX_st _ _) ?_
      conv => whnf
      refine callp_tells hsm rfl trivial ?_
      conv => whnf
      first | rfl | trace_state
    · rw [put_no hok] at hpf hst
      refine callx_tells hpf rfl hst ?_
      conv => whnf
      refine And.intro (fun _ => ?_) (fun h => absurd h (by simp))
      conv => whnf
      first | rfl | trace_state
theorem back_row (n0_0 n0_1 n0_2 n0_3 n0_4 n0_5 n0_6 n0_7 n0_8 : Int) (l0_9 : Nat) (z0_9 : Nat → Nat → XC) (l0_10 : Nat) (z0_10 : Nat → Nat → XC) (_ : (Lit.int .i64 n0_0).wf = true) (_ : (Lit.int .i64 n0_1).wf = true) (_ : (Lit.int .i64 n0_2).wf = true) (_ : (Lit.int .i64 n0_3).wf = true) (_ : (Lit.int .i64 n0_4).wf = true) (_ : (Lit.int .i64 n0_5).wf = true) (_ : (Lit.int .i64 n0_6).wf = true) (_ : (Lit.int .i64 n0_7).wf = true) (_ : (Lit.int .i64 n0_8).wf = true) (m0_9 : l0_9 ≤ maxLen) (k0_9 : ∀ i, i < l0_9 → fitF [.sl 7 [.int .i64, .int .i64, .int .i64, .int .i64, .int .i64, .int .i64, .int .i64]] (z0_9 i) 0) (m0_10 : l0_10 ≤ maxLen) (k0_10 : ∀ i, i < l0_10 → fitF [.int .i64] (z0_10 i) 0) :
    Eng.Fn Try.prog 7 [.a [.i .i64 n0_0, .i .i64 n0_1, .i .i64 n0_2, .i .i64 n0_3, .i .i64 n0_4, .i .i64 n0_5, .i .i64 n0_6, .i .i64 n0_7, .i .i64 n0_8, .rs l0_9 1 z0_9, .rs l0_10 1 z0_10]] (Tells (.c (.b true))) := by
  obtain ⟨c0, s0, h0, e0⟩ := plan_ex n0_0 n0_1 n0_2 n0_3 n0_4 n0_5 n0_6 n0_7 n0_8 l0_9 z0_9 l0_10 z0_10 m0_9 k0_9 k0_10
  exact (back_fn c0 s0 h0).ask ⟨e0, trivial⟩
end Go.Proofs.Ytbhmplbckkipjaa
