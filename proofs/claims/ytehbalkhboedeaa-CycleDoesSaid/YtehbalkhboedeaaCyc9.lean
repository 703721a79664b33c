/- An order just if there is no ring: the law. -/
import Derived.Test.YtehbalkhboedeaaCyc8
namespace Go.Proofs.Ytehbalkhboedeaa
open Go Go.Eng Go.RowKit
set_option maxRecDepth 100000
set_option maxHeartbeats 8000000
set_option linter.unusedVariables false
set_option linter.unusedSimpArgs false
structure OInv (l : List Eg) (left out : List Int) : Prop where
  nd : left.Nodup
  all : ∀ x ∈ nodesL l, x ∈ left ∨ x ∈ out
  pre : ∀ i, (h : i < out.length) → ∀ y, (⟨out[i], y⟩ : Eg) ∈ l → y ∈ out.take i
theorem OInv.pick {l : List Eg} {left out : List Int} {x : Int} (h : OInv l left out) (hp : pickO l left = some x) : OInv l (left.erase x) (out ++ [x]) := by
  obtain ⟨h1, h2⟩ := pick_some hp
  refine ⟨h.nd.erase _, fun y hy => ?_, fun i hi y hy => ?_⟩
  · by_cases e : y = x
    · exact .inr (by simp [e])
    · rcases h.all y hy with h3 | h3
      · exact .inl ((List.mem_erase_of_ne e).2 h3)
      · exact .inr (by simp [h3])
  · by_cases e : i < out.length
    · rw [List.getElem_append_left e] at hy
      rw [List.take_append_of_le_length (by omega)]
      exact h.pre i e y hy
    · have e2 : i = out.length := by simp at hi; omega
      subst e2
      rw [List.getElem_append_right (Nat.le_refl _)] at hy
      simp only [Nat.sub_self, List.getElem_cons_zero] at hy
      rw [List.take_left' rfl]
      exact (h.all y ((nodes_mem l y).2 ⟨_, hy, .inr rfl⟩)).elim (fun h3 => absurd h3 (h2 y hy)) id
theorem ordG_true {l : List Eg} : ∀ (n : Nat) (left out : List Int), left.length = n → OInv l left out → (ordG l n left out).2 = true → OInv l [] (ordG l n left out).1 ∧ (ordG l n left out).1.length = out.length + n
  | 0, left, out, hn, h, _ => by
    have : left = [] := List.length_eq_zero_iff.1 hn
    subst this
    exact ⟨h, rfl⟩
  | n + 1, left, out, hn, h, ht => by
    rw [ordG] at ht ⊢
    cases hp : pickO l left with
    | none => rw [hp] at ht; cases ht
    | some x =>
      rw [hp] at ht
      have := ordG_true n (left.erase x) (out ++ [x]) (by rw [List.length_erase_of_mem (pick_some hp).1]; omega) (h.pick hp) ht
      refine ⟨this.1, ?_⟩
      have h2 := this.2
      simp only [List.length_append, List.length_cons, List.length_nil] at h2
      show (ordG l n (left.erase x) (out ++ [x])).1.length = _
      omega
theorem ordG_false {l : List Eg} : ∀ (n : Nat) (left out : List Int), left.length = n → (ordG l n left out).2 = false → (ordG l n left out).1 = [] ∧ ∃ x, Rc l x x
  | 0, left, out, hn, ht => by cases ht
  | n + 1, left, out, hn, ht => by
    rw [ordG] at ht ⊢
    cases hp : pickO l left with
    | none => exact ⟨rfl, ring_of_sinkless (fun e => by rw [e] at hn; cases hn) (pick_none hp)⟩
    | some x =>
      rw [hp] at ht
      exact ordG_false n (left.erase x) (out ++ [x]) (by rw [List.length_erase_of_mem (pick_some hp).1]; omega) ht
theorem OInv.start (l : List Eg) : OInv l (nodesL l) [] := ⟨ris_nodup (nodes_ris l), fun x h => .inl h, fun i h => by simp at h⟩
theorem OInv.noring {l : List Eg} {o : List Int} (h : OInv l [] o) (x : Int) : ¬ Rc l x x := by
  intro hx
  have key : ∀ i, (hi : i < o.length) → ∀ y, Rc l o[i] y → y ∈ o.take i := fun i hi y hy => by
    induction hy with
    | one e => exact h.pre i hi _ e
    | more _ e ih =>
      obtain ⟨j, hj, e2⟩ := List.mem_take_iff_getElem.1 ih
      have hjo : j < o.length := by omega
      have := h.pre j hjo _ (by rw [e2]; exact e)
      obtain ⟨k, hk, e3⟩ := List.mem_take_iff_getElem.1 this
      exact List.mem_take_iff_getElem.2 ⟨k, by omega, e3⟩
  have hin : x ∈ o := (h.all x hx.fr_node).elim (fun h => by simp at h) id
  obtain ⟨i, hi, e⟩ := List.mem_iff_getElem.1 hin
  have : ∀ i, (hi : i < o.length) → o[i] = x → False := by
    intro i
    induction i using Nat.strongRecOn with
    | _ i ih =>
      intro hi e
      have := key i hi x (by rw [e]; exact hx)
      obtain ⟨j, hj, e2⟩ := List.mem_take_iff_getElem.1 this
      exact ih j (by omega) (by omega) e2
  exact this i hi e
theorem ord_iff (l : List Eg) : (ordL l).2 = decide (onL l = []) := by
  cases h : (ordL l).2 with
  | true =>
    have := (ordG_true _ _ _ rfl (OInv.start l) h).1
    have : onL l = [] := List.eq_nil_iff_forall_not_mem.2 fun x hx => this.noring x ((on_mem l x).1 hx)
    simp [this]
  | false =>
    obtain ⟨_, x, hx⟩ := ordG_false _ _ _ rfl h
    have : onL l ≠ [] := List.ne_nil_of_mem ((on_mem l x).2 hx)
    simp [this]
theorem ord_pre {l : List Eg} (h : (ordL l).2 = true) : ∀ i, (hi : i < (ordL l).1.length) → ∀ y, (⟨(ordL l).1[i], y⟩ : Eg) ∈ l → y ∈ (ordL l).1.take i := (ordG_true _ _ _ rfl (OInv.start l) h).1.pre
theorem ord_len {l : List Eg} (h : (ordL l).2 = true) : (ordL l).1.length = (nodesL l).length := by
  have := (ordG_true _ _ _ rfl (OInv.start l) h).2
  rw [List.length_nil, Nat.zero_add] at this
  exact this
theorem ord_nil {l : List Eg} (h : (ordL l).2 = false) : (ordL l).1 = [] := (ordG_false _ _ _ rfl h).1
theorem find_nil (l : List Eg) : findL l = [] ↔ onL l = [] := by
  cases ho : onL l with
  | nil => simp [findL, ho]
  | cons a r =>
    have hr := find_ring ho
    constructor
    · intro h; have := hr.hd; rw [h] at this; simp at this
    · intro h; simp at h
theorem ris_least {a : Int} {r : List Int} (h : Ris (a :: r)) {x : Int} (hx : x ∈ a :: r) : a ≤ x := by
  rcases List.mem_cons.1 hx with rfl | hx
  · omega
  · have := (List.pairwise_cons.1 h).1 x hx; omega
/-- What the law asks of the ring, place by place. -/
theorem find_at {l : List Eg} {i : Nat} (hi : i < (findL l).length) :
    (findL l).getD ((i + 1) % (findL l).length) 0 ∈ fromL l ((findL l).getD i 0) ∧ (findL l).getD i 0 ∉ (findL l).take i ∧ ¬ (findL l).getD i 0 < (findL l).getD 0 0 := by
  cases ho : onL l with
  | nil => rw [(find_nil l).2 ho] at hi; simp at hi
  | cons a r =>
    have hr := find_ring ho
    have hfon : ∀ x ∈ findL l, x ∈ onL l := fun x hx => find_on hx
    generalize findL l = p at *
    have hg : ∀ j (h : j < p.length), p.getD j 0 = p[j] := fun j h => by rw [List.getD_eq_getElem?_getD, List.getElem?_eq_getElem h]; rfl
    have h0 : p[0]'(by omega) = a := by
      have := hr.hd
      rw [List.head?_eq_getElem?, List.getElem?_eq_getElem (by omega)] at this
      simpa using this
    refine ⟨?_, ?_, ?_⟩
    · rw [hg i hi, from_mem]
      by_cases e : i + 1 < p.length
      · rw [Nat.mod_eq_of_lt e, hg _ e]; exact hr.edge i e
      · have e2 : i + 1 = p.length := by omega
        rw [e2, Nat.mod_self, hg 0 (by omega), h0]
        refine hr.back _ ?_
        rw [List.getLast?_eq_getElem?, List.getElem?_eq_getElem (by omega)]
        congr 2
        omega
    · rw [hg i hi]
      intro hx
      obtain ⟨j, hj, e⟩ := List.mem_take_iff_getElem.1 hx
      have := (List.pairwise_iff_getElem.1 hr.once) j i (by omega) hi (by omega)
      exact this e
    · rw [hg i hi, hg 0 (by omega), h0]
      have := ris_least (by rw [← ho]; exact on_ris l) (by rw [← ho]; exact hfon _ (List.getElem_mem hi))
      omega
theorem ord_len_le (l : List Eg) : (ordL l).1.length ≤ 2 * l.length := by
  cases h : (ordL l).2 with
  | true => rw [ord_len h]; exact nodes_len l
  | false => rw [ord_nil h]; simp
theorem take_ent (p : List Int) (i : Nat) (h : i ≤ p.length) : entC (.rs i 1 fun j _ => .i .i64 (p.getD j 0)) (intsX (p.take i)) := by
  refine ⟨by rw [List.length_take]; omega, rfl, fun j hj k hk => entC_of_eq ?_⟩
  have hj : j < i := by rw [List.length_take] at hj; omega
  show XC.i _ _ = XC.i _ _
  rw [List.getD_eq_getElem?_getD, List.getD_eq_getElem?_getD, List.getElem?_take_of_lt hj]
theorem cycOrder_fn (l : List Eg) (hwf : ∀ e ∈ l, (Lit.int .i64 e.to).wf = true) : Eng.Fn Try.prog 8 [.c (egsX l)] (Tells (.c (.b true))) := by
  refine Eng.Fn.of tab_ok Try.func8 (by kernel_rfl) (by kernel_rfl) (fun w0 => ?_)
  conv => whnf
  refine callx_tells awake15_fn rfl trivial ?_
  conv => whnf
  refine And.intro (fun h => absurd h (by simp)) (fun _ => ?_)
  conv => whnf
  refine And.intro (fun h => by conv => whnf) (fun h0 => ?_)
  have hl : l.length ≤ 60 := by simp at h0; omega
  conv => whnf
  refine callx_tells (find_fn l (by omega) hwf) rfl trivial ?_
  conv => whnf
  refine callx_tells (order_fn l (by omega)) rfl ?_ ?_
  · intro x hx
    simp only [List.mem_cons, List.not_mem_nil, or_false] at hx
    rcases hx with rfl | rfl <;> trivial
  conv => whnf
  refine callx_tells (on_fn l (by omega) hwf) rfl trivial ?_
  conv => whnf
  have hiff := ord_iff l
  have hfn := find_nil l
  have hfl := find_len l
  have hol := ord_len_le l
  have hfa := @find_at l
  have hpre := @ord_pre l
  have hlen := @ord_len l
  have hnil := @ord_nil l
  have heq : (ordL l).2 = (((onL l).length : Int) == 0) := by
    rw [hiff, Bool.eq_iff_iff]
    simp [List.length_eq_zero_iff]
  have hfo : decide (((findL l).length : Int) > 0) = decide (((onL l).length : Int) > 0) := by
    rw [decide_eq_decide]
    have h1 : (findL l).length = 0 ↔ (onL l).length = 0 := by rw [List.length_eq_zero_iff, List.length_eq_zero_iff]; exact hfn
    omega
  refine And.intro (fun h => absurd h (by rw [heq]; simp)) (fun _ => ?_)
  conv => whnf
  refine And.intro (fun h => absurd h (by rw [hfo]; simp)) (fun _ => ?_)
  conv => whnf
  clear hfn hfo heq hiff
  have hpl : (findL l).length ≤ 120 := by omega
  have hoo : (ordL l).1.length ≤ 120 := by omega
  generalize findL l = p at *
  generalize hord : ordL l = q at *
  obtain ⟨o, is⟩ := q
  dsimp only at hpre hlen hnil hoo
  refine loopi tab_ok (fun i => i ≤ p.length) (fun i => [(0, .c (egsX l)), (3, .c (intsX p)), (4, .c (intsX o)), (5, .c (.b is)), (41, .c (intsX p)), (42, .c (.i .i64 p.length)), (43, .c (.i .i64 i))]) (fun _ => []) (fun i => p.length - i) 0 _ rfl (Nat.zero_le _) ?_ (fun i hi => ?_)
  · refine ⟨?_, ?_, rfl⟩ <;> repeat' (first | exact trivial | exact entV_refl _ | exact wrap_succ (by omega) | rfl | apply And.intro)
  · conv => whnf
    refine And.intro (fun h1 => ?_) (fun h1 => ?_)
    · have h1 : i < p.length := by simp at h1; omega
      obtain ⟨f1, f2, f3⟩ := hfa h1
      have hw : IntKind.i64.wrap ((i : Int) + 1) = ((i + 1 : Nat) : Int) := wrap_succ (by omega)
      have hmod : (i + 1) % p.length < p.length := Nat.mod_lt _ (by omega)
      conv => whnf
      refine ⟨by omega, ?_⟩
      conv => whnf
      rw [Int.toNat_natCast]
      refine drawx_pure tab_ok (by kernel_rfl) (by kernel_rfl) ?_
      conv => whnf
      have hfr := from_len l (p.getD i 0)
      refine callp_tells (from_fn l (p.getD i 0) (by omega)) rfl trivial ?_
      conv => whnf
      refine ⟨by omega, ?_⟩
      conv => whnf
      rw [hw, show ((i + 1 : Nat) : Int).tmod (p.length : Int) = (((i + 1) % p.length : Nat) : Int) from rfl]
      refine ⟨by omega, ?_⟩
      conv => whnf
      rw [Int.toNat_natCast]
      refine callp_tells (has_fn (fromL l (p.getD i 0)) (p.getD ((i + 1) % p.length) 0) (by omega)) rfl trivial ?_
      conv => whnf
      refine And.intro (fun g => absurd f1 (by simpa using g)) (fun _ => ?_)
      conv => whnf
      refine ⟨by omega, ?_⟩
      conv => whnf
      refine callp_says (has_fn (p.take i) (p.getD i 0) (by rw [List.length_take]; omega)) ⟨take_ent p i (by omega), entV_refl _, trivial⟩ rfl trivial ?_
      conv => whnf
      refine And.intro (fun g => absurd (of_decide_eq_true g) f2) (fun _ => ?_)
      conv => whnf
      refine ⟨by omega, ?_⟩
      conv => whnf
      refine And.intro (fun g => absurd (of_decide_eq_true g) f3) (fun _ => ?_)
      conv => whnf
      refine ⟨i + 1, by omega, by omega, rfl, ?_⟩
      refine ⟨?_, ?_, rfl⟩ <;> repeat' (first | exact trivial | exact entV_refl _ | exact wrap_succ (by omega) | rfl | apply And.intro)
    · conv => whnf
      refine And.intro (fun g => ?_) (fun g => ?_)
      · have g : is = false := by simpa using g
        conv => whnf
        have := hnil g
        subst this
        rfl
      · have g : is = true := by simpa using g
        have hpre := hpre g
        have hlen := hlen g
        conv => whnf
        refine loopi tab_ok (fun i => i ≤ o.length) (fun i => [(0, .c (egsX l)), (4, .c (intsX o)), (81, .c (intsX o)), (82, .c (.i .i64 o.length)), (83, .c (.i .i64 i))]) (fun _ => []) (fun i => o.length - i) 0 _ rfl (Nat.zero_le _) ?_ (fun i hi => ?_)
        · refine ⟨?_, ?_, rfl⟩ <;> repeat' (first | exact trivial | exact entV_refl _ | exact wrap_succ (by omega) | rfl | apply And.intro)
        · conv => whnf
          refine And.intro (fun h1 => ?_) (fun h1 => ?_)
          · have h1 : i < o.length := by simp at h1; omega
            have hx : ∀ y, (⟨o.getD i 0, y⟩ : Eg) ∈ l → y ∈ o.take i := by
              have := hpre i h1
              rwa [show o[i] = o.getD i 0 by rw [List.getD_eq_getElem?_getD, List.getElem?_eq_getElem h1]; rfl] at this
            conv => whnf
            refine ⟨by omega, ?_⟩
            conv => whnf
            rw [Int.toNat_natCast]
            generalize o.getD i 0 = x at *
            have hfr := from_len l x
            refine callx_tells (from_fn l x (by omega)) rfl trivial ?_
            conv => whnf
            refine loopi tab_ok (fun j => j ≤ (fromL l x).length) (fun j => [(0, .c (egsX l)), (4, .c (intsX o)), (9, .c (.i .i64 i)), (81, .c (intsX o)), (82, .c (.i .i64 o.length)), (83, .c (.i .i64 i)), (90, .c (intsX (fromL l x))), (91, .c (.i .i64 (fromL l x).length)), (92, .c (.i .i64 j))]) (fun _ => []) (fun j => (fromL l x).length - j) 0 _ rfl (Nat.zero_le _) ?_ (fun j hj => ?_)
            · refine ⟨?_, ?_, rfl⟩ <;> repeat' (first | exact trivial | exact entV_refl _ | exact wrap_succ (by omega) | rfl | apply And.intro)
            · conv => whnf
              refine And.intro (fun h2 => ?_) (fun h2 => ?_)
              · have h2 : j < (fromL l x).length := by simp at h2; omega
                have hy : (fromL l x).getD j 0 ∈ fromL l x := by rw [List.getD_eq_getElem?_getD, List.getElem?_eq_getElem h2]; exact List.getElem_mem h2
                conv => whnf
                refine ⟨by omega, ?_⟩
                conv => whnf
                rw [Int.toNat_natCast]
                generalize (fromL l x).getD j 0 = y at *
                have hy := hx y ((from_mem l x y).1 hy)
                refine ⟨by omega, ?_⟩
                conv => whnf
                refine callx_says (has_fn (o.take i) y (by rw [List.length_take]; omega)) ⟨take_ent o i (by omega), entV_refl _, trivial⟩ rfl trivial ?_
                conv => whnf
                refine And.intro (fun g => absurd hy (by simpa using g)) (fun _ => ?_)
                conv => whnf
                refine ⟨j + 1, by omega, by omega, rfl, ?_⟩
                refine ⟨?_, ?_, rfl⟩ <;> repeat' (first | exact trivial | exact entV_refl _ | exact wrap_succ (by omega) | rfl | apply And.intro)
              · conv => whnf
                refine ⟨i + 1, by omega, by omega, rfl, ?_⟩
                refine ⟨?_, ?_, rfl⟩ <;> repeat' (first | exact trivial | exact entV_refl _ | exact wrap_succ (by omega) | rfl | apply And.intro)
          · conv => whnf
            refine callx_tells (nodes_fn l (by omega)) rfl trivial ?_
            conv => whnf
            rw [hlen]
            simp
theorem cycOrder_row (l0 : Nat) (h0 : Nat → Nat → Int) (_ : l0 ≤ maxLen) (w0 : ∀ i, i < l0 → ∀ j, j < 2 → (Lit.int .i64 (h0 i j)).wf = true) :
    Eng.Fn Try.prog 8 [.c (.rs l0 2 fun i j => .i .i64 (h0 i j))] (Tells (.c (.b true))) :=
  (cycOrder_fn (egsOf l0 h0) (egs_wf w0)).ask ⟨egs_of, trivial⟩
end Go.Proofs.Ytehbalkhboedeaa
