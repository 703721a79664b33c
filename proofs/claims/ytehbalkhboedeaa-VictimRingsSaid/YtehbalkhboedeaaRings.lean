/- Where nobody gives way there is no ring. -/
import Derived.Test.YtehbalkhboedeaaCyc4
import Derived.Test.YtehbalkhboedeaaVictim3
namespace Go.Proofs.Ytehbalkhboedeaa
open Go Go.Eng Go.RowKit
set_option maxRecDepth 100000
set_option maxHeartbeats 4000000
set_option linter.unusedVariables false
set_option linter.unusedSimpArgs false
def pairsE (l : List Eg) : List (Int × Int) := l.map fun e => (e.fr, e.to)
theorem pairs_ent (l : List Eg) : entC (egsX l) (edgesX (pairsE l)) := by
  refine ⟨by simp [pairsE], rfl, fun i hi j hj => entC_of_eq ?_⟩
  have hi : i < l.length := by simpa [pairsE] using hi
  have h1 : (pairsE l).getD i (0, 0) = ((l.getD i default).fr, (l.getD i default).to) := by
    rw [pairsE, List.getD_eq_getElem?_getD, List.getElem?_map, List.getD_eq_getElem?_getD, List.getElem?_eq_getElem hi]; rfl
  show nthC (encEg (l.getD i default)) j = nthC (encE ((pairsE l).getD i (0, 0))) j
  rw [h1]; rfl
theorem allL_nil {p : Int} {st : List Int} {l : List (Int × Int)} (h : allL p st l = []) : ∀ e ∈ l, judgeI p (stampI st e.1) (stampI st e.2) = 0 := by
  have grow : ∀ (m out : List (Int × Int)), out.length ≤ (m.foldl (allStep p st) out).length := by
    intro m
    induction m with
    | nil => intro out; exact Nat.le_refl _
    | cons e m ih =>
      intro out
      refine Nat.le_trans ?_ (ih _)
      unfold allStep
      split
      · simp
      · exact Nat.le_refl _
  have key : ∀ (m : List (Int × Int)), m.foldl (allStep p st) [] = [] → ∀ e ∈ m, judgeI p (stampI st e.1) (stampI st e.2) = 0 := by
    intro m
    induction m with
    | nil => intro _ e he; simp at he
    | cons a m ih =>
      intro hm e he
      have ha : allStep p st [] a = [] := by
        have := grow m (allStep p st [] a)
        rw [show m.foldl (allStep p st) (allStep p st [] a) = [] from hm] at this
        exact List.length_eq_zero_iff.1 (by simpa using this)
      rcases List.mem_cons.1 he with rfl | he
      · unfold allStep at ha
        by_cases hj : judgeI p (stampI st e.1) (stampI st e.2) = 0
        · exact hj
        · rw [if_pos ⟨hj, by simp⟩] at ha; simp at ha
      · refine ih ?_ e he
        have : m.foldl (allStep p st) (allStep p st [] a) = [] := hm
        rwa [ha] at this
  exact key l h
def OkE (n : Nat) (e : Eg) : Prop := 0 ≤ e.fr ∧ 0 ≤ e.to ∧ e.fr < n ∧ e.to < n ∧ ¬ e.fr = e.to
theorem rings_law {st : List Int} {l : List Eg} {p : Int} (hp : p = 1 ∨ p = 2) (hd : ∀ i, i < st.length → ∀ j, j < i → ¬ st.getD i 0 = st.getD j 0) (he : ∀ e ∈ l, OkE st.length e) (h : allL p st (pairsE l) = []) : onL l = [] := by
  have hj := allL_nil h
  have hstep : ∀ e ∈ l, (p = 1 → stampI st e.fr < stampI st e.to) ∧ (p = 2 → stampI st e.to < stampI st e.fr) := fun e hel => by
    have h1 : judgeI p (stampI st e.fr) (stampI st e.to) = 0 := hj (e.fr, e.to) (List.mem_map.2 ⟨e, hel, rfl⟩)
    obtain ⟨h2, h3, h4, h5, h6⟩ := he e hel
    have hne : ¬ stampI st e.fr = stampI st e.to := by
      rw [stampI_at h2, stampI_at h3]
      rcases Nat.lt_or_ge e.fr.toNat e.to.toNat with h7 | h7
      · exact fun e' => hd e.to.toNat (by omega) e.fr.toNat h7 e'.symm
      · exact hd e.fr.toNat (by omega) e.to.toNat (by omega)
    unfold judgeI at h1
    constructor
    · intro hp1
      subst hp1
      by_cases h7 : stampI st e.fr > stampI st e.to
      · simp [h7] at h1
      · omega
    · intro hp2
      subst hp2
      by_cases h7 : stampI st e.fr < stampI st e.to
      · simp [h7] at h1
      · omega
  have hrc : ∀ a b, Rc l a b → (p = 1 → stampI st a < stampI st b) ∧ (p = 2 → stampI st b < stampI st a) := fun a b hr => by
    induction hr with
    | one h => exact hstep _ h
    | more _ h ih =>
      have hs := hstep _ h
      exact ⟨fun hp => Int.lt_trans (ih.1 hp) (hs.1 hp), fun hp => Int.lt_trans (hs.2 hp) (ih.2 hp)⟩
  refine List.eq_nil_iff_forall_not_mem.2 fun x hx => ?_
  have := hrc x x ((on_mem l x).1 hx)
  rcases hp with hp | hp
  · have := this.1 hp; omega
  · have := this.2 hp; omega
theorem rings_fn (st : List Int) (l : List Eg) (w : Bool) (hwf : ∀ e ∈ l, (Lit.int .i64 e.to).wf = true) : Eng.Fn Try.prog 6 [.c (intsX st), .c (egsX l), .c (.b w)] (Tells (.c (.b true))) := by
  refine Eng.Fn.of tab_ok Try.func6 (by kernel_rfl) (by kernel_rfl) (fun w0 => ?_)
  conv => whnf
  refine callx_tells awake_fn rfl trivial ?_
  conv => whnf
  refine And.intro (fun h => absurd h (by simp)) (fun _ => ?_)
  conv => whnf
  refine And.intro (fun h => rfl) (fun h0 => ?_)
  conv => whnf
  refine And.intro (fun h => rfl) (fun h1 => ?_)
  conv => whnf
  have hst : st.length ≤ 30 := by simp at h0; omega
  have hl : l.length ≤ 40 := by simp at h1; omega
  refine loopi tab_ok (fun i => i ≤ st.length ∧ ∀ a, a < i → ∀ b, b < a → ¬ st.getD a 0 = st.getD b 0) (fun i => [(0, .c (intsX st)), (1, .c (egsX l)), (2, .c (.b w)), (24, .c (intsX st)), (25, .c (.i .i64 st.length)), (26, .c (.i .i64 i))]) (fun _ => []) (fun i => st.length - i) 0 _ rfl ⟨Nat.zero_le _, fun a h => by omega⟩ ?_ (fun i hi => ?_)
  · refine ⟨?_, ?_, rfl⟩ <;> repeat' (first | exact trivial | exact entV_refl _ | rfl | apply And.intro)
  · obtain ⟨hi, hall⟩ := hi
    conv => whnf
    refine And.intro (fun g1 => ?_) (fun g1 => ?_)
    · have g1 : i < st.length := by simp at g1; omega
      conv => whnf
      refine ⟨by omega, ?_⟩
      conv => whnf
      refine ⟨by omega, ?_⟩
      conv => whnf
      refine loopi tab_ok (fun j => j ≤ i ∧ ∀ b, b < j → ¬ st.getD i 0 = st.getD b 0) (fun j => [(0, .c (intsX st)), (1, .c (egsX l)), (2, .c (.b w)), (8, .c (.i .i64 (st.getD i 0))), (24, .c (intsX st)), (25, .c (.i .i64 st.length)), (26, .c (.i .i64 i)), (33, .c (.rs i 1 fun j _ => .i .i64 (st.getD j 0))), (34, .c (.i .i64 i)), (35, .c (.i .i64 j))]) (fun _ => []) (fun j => i - j) 0 _ rfl ⟨Nat.zero_le _, fun a h => by omega⟩ ?_ (fun j hj => ?_)
      · refine ⟨?_, ?_, rfl⟩ <;> repeat' (first | exact trivial | exact entV_refl _ | rfl | apply And.intro)
      · obtain ⟨hj, hin⟩ := hj
        conv => whnf
        refine And.intro (fun g2 => ?_) (fun g2 => ?_)
        · have g2 : j < i := by simp at g2; omega
          conv => whnf
          refine ⟨by omega, ?_⟩
          conv => whnf
          refine And.intro (fun g3 => ?_) (fun g3 => ?_)
          · conv => whnf
          · have g3 : ¬ st.getD i 0 = st.getD j 0 := by simpa using g3
            conv => whnf
            refine ⟨j + 1, ⟨by omega, fun b hb => ?_⟩, by omega, rfl, ?_⟩
            · by_cases e : b = j
              · rw [e]; exact g3
              · exact hin b (by omega)
            refine ⟨?_, ?_, rfl⟩ <;> repeat' (first | exact trivial | exact entV_refl _ | exact wrap_succ (by omega) | rfl | apply And.intro)
        · have g2 : j = i := by simp at g2; omega
          subst g2
          conv => whnf
          refine ⟨j + 1, ⟨by omega, fun a ha b hb => ?_⟩, by omega, rfl, ?_⟩
          · by_cases e : a = j
            · subst e; exact hin b hb
            · exact hall a (by omega) b hb
          refine ⟨?_, ?_, rfl⟩ <;> repeat' (first | exact trivial | exact entV_refl _ | exact wrap_succ (by omega) | rfl | apply And.intro)
    · have g1 : i = st.length := by simp at g1; omega
      subst g1
      conv => whnf
      refine loopi tab_ok (fun k => k ≤ l.length ∧ ∀ j, j < k → OkE st.length (l.getD j default)) (fun k => [(0, .c (intsX st)), (1, .c (egsX l)), (2, .c (.b w)), (44, .c (egsX l)), (45, .c (.i .i64 l.length)), (46, .c (.i .i64 k))]) (fun _ => []) (fun k => l.length - k) 0 _ rfl ⟨Nat.zero_le _, fun a h => by omega⟩ ?_ (fun k hk => ?_)
      · refine ⟨?_, ?_, rfl⟩ <;> repeat' (first | exact trivial | exact entV_refl _ | rfl | apply And.intro)
      · obtain ⟨hk, hok⟩ := hk
        conv => whnf
        refine And.intro (fun g2 => ?_) (fun g2 => ?_)
        · have g2 : k < l.length := by simp at g2; omega
          conv => whnf
          refine ⟨by omega, ?_⟩
          conv => whnf
          rw [Int.toNat_natCast]
          refine And.intro (fun a1 => by conv => whnf) (fun a1 => ?_)
          conv => whnf
          refine And.intro (fun a2 => by conv => whnf) (fun a2 => ?_)
          conv => whnf
          refine And.intro (fun a3 => by conv => whnf) (fun a3 => ?_)
          conv => whnf
          refine And.intro (fun a4 => by conv => whnf) (fun a4 => ?_)
          conv => whnf
          refine And.intro (fun a5 => by conv => whnf) (fun a5 => ?_)
          conv => whnf
          refine ⟨k + 1, ⟨by omega, fun j hj => ?_⟩, by omega, rfl, ?_⟩
          · by_cases e : j = k
            · subst e
              simp only [decide_eq_false_iff_not, beq_eq_false_iff_ne] at a1 a2 a3 a4 a5
              exact ⟨by omega, by omega, by omega, by omega, a5⟩
            · exact hok j (by omega)
          refine ⟨?_, ?_, rfl⟩ <;> repeat' (first | exact trivial | exact entV_refl _ | exact wrap_succ (by omega) | rfl | apply And.intro)
        · have g2 : k = l.length := by simp at g2; omega
          subst g2
          have hokl : ∀ e ∈ l, OkE st.length e := fun e he => by
            obtain ⟨j, hj, rfl⟩ := List.mem_iff_getElem.1 he
            have := hok j hj
            rwa [List.getD_eq_getElem?_getD, List.getElem?_eq_getElem hj] at this
          have hpl : (pairsE l).length = l.length := List.length_map ..
          have fin : ∀ p : Int, p = 1 ∨ p = 2 → ¬ (allL p st (pairsE l)).length > 0 → onL l = [] := fun p hp h => rings_law hp hall hokl (List.length_eq_zero_iff.1 (by omega))
          conv => whnf
          refine And.intro (fun h3 => ?_) (fun h3 => ?_)
          · conv => whnf
            refine callx_says (all_fn 2 st (pairsE l) (by omega)) ⟨entV_refl _, pairs_ent l, entV_refl _, trivial⟩ rfl trivial ?_
            conv => whnf
            refine And.intro (fun h4 => ?_) (fun h4 => ?_)
            · conv => whnf
            · have h4 : ¬ (allL 2 st (pairsE l)).length > 0 := by simpa using h4
              conv => whnf
              refine callx_tells (on_fn l (by omega) hwf) rfl trivial ?_
              conv => whnf
              rw [fin 2 (.inr rfl) h4]
              rfl
          · conv => whnf
            refine callx_says (all_fn 1 st (pairsE l) (by omega)) ⟨entV_refl _, pairs_ent l, entV_refl _, trivial⟩ rfl trivial ?_
            conv => whnf
            refine And.intro (fun h4 => ?_) (fun h4 => ?_)
            · conv => whnf
            · have h4 : ¬ (allL 1 st (pairsE l)).length > 0 := by simpa using h4
              conv => whnf
              refine callx_tells (on_fn l (by omega) hwf) rfl trivial ?_
              conv => whnf
              rw [fin 1 (.inl rfl) h4]
              rfl
def egsOf (n : Nat) (g : Nat → Nat → Int) : List Eg := (List.range n).map fun i => ⟨g i 0, g i 1⟩
theorem egs_of {n : Nat} {g : Nat → Nat → Int} : entV (.c (.rs n 2 fun i j => .i .i64 (g i j))) (.c (egsX (egsOf n g))) :=
  rows_of fun i hi j hj => by
    match j, hj with
    | 0, _ => exact ⟨rfl, rfl⟩
    | 1, _ => exact ⟨rfl, rfl⟩
theorem egs_wf {n : Nat} {g : Nat → Nat → Int} (h : ∀ i, i < n → ∀ j, j < 2 → (Lit.int .i64 (g i j)).wf = true) : ∀ e ∈ egsOf n g, (Lit.int .i64 e.to).wf = true := fun e he => by
  obtain ⟨i, hi, rfl⟩ := List.mem_map.1 he
  exact h i (by simpa using hi) 1 (by omega)
theorem rings_row (l0 : Nat) (h0 : Nat → Int) (l1 : Nat) (h1 : Nat → Nat → Int) (w : Bool) (_ : l0 ≤ maxLen) (_ : ∀ i, i < l0 → (Lit.int .i64 (h0 i)).wf = true) (_ : l1 ≤ maxLen) (w1 : ∀ i, i < l1 → ∀ j, j < 2 → (Lit.int .i64 (h1 i j)).wf = true) :
    Eng.Fn Try.prog 6 [.c (.rs l0 1 fun i _ => .i .i64 (h0 i)), .c (.rs l1 2 fun i j => .i .i64 (h1 i j)), .c (.b w)] (Tells (.c (.b true))) :=
  (rings_fn (listI l0 h0) (egsOf l1 h1) w (egs_wf w1)).ask ⟨ints_of, egs_of, entV_refl _, trivial⟩
end Go.Proofs.Ytehbalkhboedeaa
