/- Scripts: plans alike, machines that may be. -/
import Derived.Test.YtbhmplbckkipjaaScript4
namespace Go.Proofs.Ytbhmplbckkipjaa
open Go Go.Eng Go.RowKit
set_option maxRecDepth 100000
set_option maxHeartbeats 4000000
set_option linter.unusedVariables false
set_option linter.unusedSimpArgs false
theorem Cf.eq_iff {a b : Cf} : a = b ↔ a.cl = b.cl ∧ a.po = b.po ∧ a.vi = b.vi ∧ a.he = b.he ∧ a.re = b.re ∧ a.la = b.la ∧ a.ti = b.ti ∧ a.gr = b.gr ∧ a.ck = b.ck := by cases a; cases b; simp
instance : DecidableEq Cf := fun a b => decidable_of_iff _ Cf.eq_iff.symm
theorem eqCf (x y : Cf) : (x.cl == y.cl && (x.po == y.po && (x.vi == y.vi && (x.he == y.he && (x.re == y.re && (x.la == y.la && (x.ti == y.ti && (x.gr == y.gr && x.ck == y.ck)))))))) = decide (x = y) := by
  rw [Bool.eq_iff_iff]
  simp [Cf.eq_iff, and_assoc]
theorem ScS.eq_iff {a b : ScS} : a = b ↔ a.ops = b.ops ∧ a.pk = b.pk := by cases a; cases b; simp
instance : DecidableEq ScS := fun a b => decidable_of_iff _ ScS.eq_iff.symm
theorem withinI_fn (n a b : Int) : Eng.Fn Try.prog 84 [.c (.i .i64 n), .c (.i .i64 a), .c (.i .i64 b)] (Tells (.c (.b (decide (a ≤ n ∧ n ≤ b))))) := by
  refine Eng.Fn.of tab_ok Try.func84 (by kernel_rfl) (by kernel_rfl) (fun w0 => ?_)
  conv => whnf
  refine And.intro (fun h1 => ?_) (fun h1 => ?_)
  · have h1 : a ≤ n := by simpa using h1
    conv => whnf
    simp [h1]
  · have h1 : ¬ a ≤ n := by simpa using h1
    conv => whnf
    simp [h1]
def mayCf (c : Cf) : Prop := (1 ≤ c.cl ∧ c.cl ≤ 8) ∧ (0 ≤ c.po ∧ c.po ≤ 3) ∧ (0 ≤ c.vi ∧ c.vi ≤ 1) ∧ (1 ≤ c.he ∧ c.he ≤ 256) ∧ (1 ≤ c.re ∧ c.re ≤ 1024) ∧ (1 ≤ c.la ∧ c.la ≤ 64) ∧ (1 ≤ c.ti ∧ c.ti ≤ 1000) ∧ (0 ≤ c.gr ∧ c.gr ≤ 100) ∧ (0 ≤ c.ck ∧ c.ck ≤ 1099511627776)
instance (c : Cf) : Decidable (mayCf c) := by unfold mayCf; infer_instance
theorem rightCf_fn (c : Cf) : Eng.Fn Try.prog 31 [.a (encCf c)] (Tells (.c (.b (decide (mayCf c))))) := by
  refine Eng.Fn.of tab_ok Try.func31 (by kernel_rfl) (by kernel_rfl) (fun w0 => ?_)
  conv => whnf
  repeat' (first
    | (refine callx_tells (withinI_fn _ _ _) rfl trivial ?_; conv => whnf)
    | (apply And.intro <;> intro hh <;> conv => whnf))
  all_goals
    simp only [decide_eq_true_eq, decide_eq_false_iff_not, ge_iff_le] at *
    simp only [XC.b.injEq, entC, eq_comm (a := true), eq_comm (a := false), decide_eq_true_eq, decide_eq_false_iff_not, decide_eq_decide, mayCf]
    first | omega | exact decide_eq_decide.2 (by omega)
theorem refRightCf_fn (c : Cf) : Eng.Fn Try.prog 37 [.a (encCf c)] (Tells (.c (.b (decide (mayCf c))))) := by
  refine Eng.Fn.of tab_ok Try.func37 (by kernel_rfl) (by kernel_rfl) (fun w0 => ?_)
  conv => whnf
  repeat' (apply And.intro <;> intro hh <;> conv => whnf)
  all_goals
    simp only [decide_eq_true_eq, decide_eq_false_iff_not, ge_iff_le] at *
    simp only [XC.b.injEq, entC, eq_comm (a := true), eq_comm (a := false), decide_eq_true_eq, decide_eq_false_iff_not, decide_eq_decide, mayCf]
    first | omega | exact decide_eq_decide.2 (by omega)
theorem samePlan_fn (c c' : Cf) (s s' : ScS) (hs : s.ops.length ≤ 1000000) (hp : s.pk.length ≤ 1000000) (hl : ∀ k, (s.ops.getD k []).length ≤ 1000000) : Eng.Fn Try.prog 29 [planX c s, planX c' s'] (Tells (.c (.b (decide (c = c' ∧ s = s'))))) := by
  refine Eng.Fn.of tab_ok Try.func29 (by kernel_rfl) (by kernel_rfl) (fun w0 => ?_)
  conv => whnf
  rw [eqCf]
  have hno1 : c ≠ c' → ¬ (c = c' ∧ s = s') := fun h e => h e.1
  have hno2 : ∀ k, s.ops.getD k [] ≠ s'.ops.getD k [] → ¬ (c = c' ∧ s = s') := fun k h e => h (by rw [e.2])
  refine And.intro (fun h1 => ?_) (fun h1 => ?_)
  · have h1 : c ≠ c' := by simpa using h1
    have := hno1 h1
    conv => whnf
    repeat' (apply And.intro <;> intro _ <;> conv => whnf)
    all_goals first | (simp [this]; done) | trace_state
  · have h1 : c = c' := by simpa using h1
    conv => whnf
    refine And.intro (fun h2 => ?_) (fun h2 => ?_)
    · have h2 : s.ops.length ≠ s'.ops.length := by simp at h2; omega
      have : ¬ (c = c' ∧ s = s') := fun e => h2 (by rw [e.2])
      conv => whnf
      repeat' (apply And.intro <;> intro _ <;> conv => whnf)
      all_goals first | (simp [this]; done) | trace_state
    · have h2 : s.ops.length = s'.ops.length := by simp at h2; omega
      conv => whnf
      refine callx_tells (sameI_fn s.pk s'.pk hp) rfl trivial ?_
      conv => whnf
      refine And.intro (fun h3 => ?_) (fun h3 => ?_)
      · have h3 : s.pk ≠ s'.pk := by simpa using h3
        have : ¬ (c = c' ∧ s = s') := fun e => h3 (by rw [e.2])
        conv => whnf
        simp [this]
      · have h3 : s.pk = s'.pk := by simpa using h3
        conv => whnf
        refine loopi tab_ok (fun k => k ≤ s.ops.length ∧ ∀ j, j < k → s.ops.getD j [] = s'.ops.getD j []) (fun k => [(2, .c (.p 0 0)), (3, .c (.p 1 0)), (30, .c (.i .i64 s.ops.length)), (31, .c (.i .i64 k))])
          (fun k => [.cells 29 [.i .i64 c.cl, .i .i64 c.po, .i .i64 c.vi, .i .i64 c.he, .i .i64 c.re, .i .i64 c.la, .i .i64 c.ti, .i .i64 c.gr, .i .i64 c.ck, rowX encOpsS [] 1 s.ops, intsX s.pk],
            .cells 29 [.i .i64 c'.cl, .i .i64 c'.po, .i .i64 c'.vi, .i .i64 c'.he, .i .i64 c'.re, .i .i64 c'.la, .i .i64 c'.ti, .i .i64 c'.gr, .i .i64 c'.ck, rowX encOpsS [] 1 s'.ops, intsX s'.pk]]) (fun k => s.ops.length - k) 0 _ rfl ⟨Nat.zero_le _, fun j h => by omega⟩ ?_ (fun k hk => ?_)
        · refine ⟨?_, ?_, rfl⟩ <;> repeat' (first | exact trivial | exact entV_refl _ | exact entC_refl _ | exact ⟨rfl, rfl⟩ | rfl | apply And.intro)
        · obtain ⟨hk, hall⟩ := hk
          conv => whnf
          refine And.intro (fun h4 => ?_) (fun h4 => ?_)
          · have h4 : k < s.ops.length := by simp at h4; omega
            conv => whnf
            refine drawx_pure tab_ok (by kernel_rfl) (by kernel_rfl) ?_
            conv => whnf
            refine ⟨by omega, ?_⟩
            conv => whnf
            refine ⟨by omega, ?_⟩
            conv => whnf
            refine callp_tells (sameOps_fn (s.ops.getD k []) (s'.ops.getD k []) (hl k)) rfl trivial ?_
            conv => whnf
            refine And.intro (fun h5 => ?_) (fun h5 => ?_)
            · have h5 : s.ops.getD k [] ≠ s'.ops.getD k [] := by simpa using h5
              have := hno2 k h5
              conv => whnf
              simp [this]
            · have h5 : s.ops.getD k [] = s'.ops.getD k [] := by simpa using h5
              conv => whnf
              refine ⟨k + 1, ⟨by omega, fun j hj => ?_⟩, by omega, rfl, ?_⟩
              · by_cases e : j = k
                · rw [e]; exact h5
                · exact hall j (by omega)
              refine ⟨?_, ?_, rfl⟩ <;> repeat' (first | exact trivial | exact entV_refl _ | exact entC_refl _ | exact wrap_succ (by omega) | rfl | apply And.intro)
          · have h4 : k = s.ops.length := by simp at h4; omega
            subst h4
            have : c = c' ∧ s = s' := ⟨h1, ScS.eq_iff.2 ⟨eq_of_getD' [] h2 hall, h3⟩⟩
            conv => whnf
            simp [this]
theorem eqFunc_fn (a b : List (List Opr)) (hs : a.length ≤ 1000000) (hl : ∀ k, (a.getD k []).length ≤ 1000000) : Eng.Fn Try.prog 86 [.c (rowX encOpsS [] 1 a), .c (rowX encOpsS [] 1 b), .c (.v (.func (.func 87) #[] #[]))] (Tells (.c (.b (decide (a = b))))) := by
  refine Eng.Fn.of tab_ok Try.func86 (by kernel_rfl) (by kernel_rfl) (fun w0 => ?_)
  conv => whnf
  refine And.intro (fun h1 => ?_) (fun h1 => ?_)
  · conv => whnf
    have h1 : ¬ a.length = b.length := by simp at h1; omega
    have : ¬ a = b := fun e => h1 (by rw [e])
    simp [this]
  · have h1 : a.length = b.length := by simp at h1; omega
    conv => whnf
    refine loopi tab_ok (fun k => k ≤ a.length ∧ ∀ j, j < k → a.getD j [] = b.getD j []) (fun k => [(0, .c (rowX encOpsS [] 1 a)), (1, .c (rowX encOpsS [] 1 b)), (2, .c (.v (.func (.func 87) #[] #[]))), (15, .c (rowX encOpsS [] 1 a)), (16, .c (.i .i64 a.length)), (17, .c (.i .i64 k))]) (fun k => []) (fun k => a.length - k) 0 _ rfl ⟨Nat.zero_le _, fun j h => by omega⟩ ?_ (fun k hk => ?_)
    · refine ⟨?_, ?_, rfl⟩ <;> repeat' (first | exact trivial | exact entV_refl _ | exact entC_refl _ | exact ⟨rfl, rfl⟩ | rfl | apply And.intro)
    · obtain ⟨hk, hall⟩ := hk
      conv => whnf
      refine And.intro (fun h4 => ?_) (fun h4 => ?_)
      · have h4 : k < a.length := by simp at h4; omega
        conv => whnf
        refine ⟨by omega, ?_⟩
        conv => whnf
        refine ⟨by omega, ?_⟩
        conv => whnf
        refine callx_tells (eqOps_fn (a.getD k []) (b.getD k []) (hl k)) rfl trivial ?_
        conv => whnf
        refine And.intro (fun h5 => ?_) (fun h5 => ?_)
        · have h5 : a.getD k [] ≠ b.getD k [] := by simpa using h5
          have : a ≠ b := fun e => h5 (by rw [e])
          conv => whnf
          simp [this]
        · have h5 : a.getD k [] = b.getD k [] := by simpa using h5
          conv => whnf
          refine ⟨k + 1, ⟨by omega, fun j hj => ?_⟩, by omega, rfl, ?_⟩
          · by_cases e : j = k
            · rw [e]; exact h5
            · exact hall j (by omega)
          refine ⟨?_, ?_, rfl⟩ <;> repeat' (first | exact trivial | exact entV_refl _ | exact entC_refl _ | exact wrap_succ (by omega) | rfl | apply And.intro)
      · have h4 : k = a.length := by simp at h4; omega
        subst h4
        have : a = b := eq_of_getD' [] h1 hall
        conv => whnf
        simp [this]
theorem same_sc_fn (c c' : Cf) (s s' : ScS) (hs : s.ops.length ≤ 1000000) (hp : s.pk.length ≤ 1000000) (hl : ∀ k, (s.ops.getD k []).length ≤ 1000000) : Eng.Fn Try.prog 33 [planX c s, planX c' s'] (Tells (.c (.b (decide (c = c' ∧ s = s'))))) := by
  refine Eng.Fn.of tab_ok Try.func33 (by kernel_rfl) (by kernel_rfl) (fun w0 => ?_)
  conv => whnf
  rw [eqCf]
  refine And.intro (fun h1 => ?_) (fun h1 => ?_)
  · have h1 : c = c' := by simpa using h1
    conv => whnf
    refine callx_tells (eqFunc_fn s.ops s'.ops hs hl) rfl trivial ?_
    conv => whnf
    refine And.intro (fun h2 => ?_) (fun h2 => ?_)
    · have h2 : s.ops = s'.ops := by simpa using h2
      conv => whnf
      refine callx_tells (eqInts_fn s.pk s'.pk hp) rfl trivial ?_
      conv => whnf
      simp [h1, h2, ScS.eq_iff]
    · have h2 : s.ops ≠ s'.ops := by simpa using h2
      conv => whnf
      simp [h2, ScS.eq_iff]
  · have h1 : c ≠ c' := by simpa using h1
    conv => whnf
    repeat' (apply And.intro <;> intro _ <;> conv => whnf)
    all_goals simp [h1]
end Go.Proofs.Ytbhmplbckkipjaa
