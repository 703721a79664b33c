/- Scripts: plans alike. -/
import Derived.Test.YtbhmplbckkipjaaScript3
import Derived.Test.YtbhmplbckkipjaaDelay4
namespace Go.Proofs.Ytbhmplbckkipjaa
open Go Go.Eng Go.RowKit
set_option maxRecDepth 100000
set_option maxHeartbeats 4000000
set_option linter.unusedVariables false
set_option linter.unusedSimpArgs false
abbrev opsX (l : List Opr) : XC := rowX encO default 7 l
theorem eqO (x y : Opr) : (x.k == y.k && (x.p.a == y.p.a && (x.p.b == y.p.b && (x.p.c == y.p.c && (x.p.d == y.p.d && (x.p.n == y.p.n && x.v == y.v)))))) = decide (x = y) := by
  obtain ⟨k, ⟨a, b, c, d, n⟩, v⟩ := x
  obtain ⟨k', ⟨a', b', c', d', n'⟩, v'⟩ := y
  rw [Bool.eq_iff_iff]
  simp [Opr.eq_iff, Pth.eq_iff, and_assoc]
theorem eq_of_getD' {α : Type} (d : α) {a b : List α} (hl : a.length = b.length) (h : ∀ j, j < a.length → a.getD j d = b.getD j d) : a = b := by
  apply List.ext_getElem hl
  intro i h1 h2
  have := h i h1
  rw [List.getD_eq_getElem?_getD, List.getD_eq_getElem?_getD, List.getElem?_eq_getElem h1, List.getElem?_eq_getElem h2] at this
  simpa using this
theorem sameOps_fn (a b : List Opr) (ha : a.length ≤ 1000000) : Eng.Fn Try.prog 82 [.c (opsX a), .c (opsX b)] (Tells (.c (.b (decide (a = b))))) := by
  refine Eng.Fn.of tab_ok Try.func82 (by kernel_rfl) (by kernel_rfl) (fun w0 => ?_)
  conv => whnf
  refine And.intro (fun h1 => ?_) (fun h1 => ?_)
  · conv => whnf
    have h1 : ¬ a.length = b.length := by simp at h1; omega
    have : ¬ a = b := fun e => h1 (by rw [e])
    simp [this]
  · have h1 : a.length = b.length := by simp at h1; omega
    conv => whnf
    refine loopi tab_ok (fun k => k ≤ a.length ∧ ∀ j, j < k → a.getD j default = b.getD j default) (fun k => [(0, .c (opsX a)), (1, .c (opsX b)), (11, .c (opsX a)), (12, .c (.i .i64 a.length)), (13, .c (.i .i64 k))]) (fun k => []) (fun k => a.length - k) 0 26 rfl ⟨Nat.zero_le _, fun j h => by omega⟩ ?_ (fun k hk => ?_)
    · refine ⟨?_, ?_, rfl⟩ <;> repeat' (first | exact trivial | exact entV_refl _ | exact ⟨rfl, rfl⟩ | rfl | apply And.intro)
    · obtain ⟨hk, hall⟩ := hk
      conv => whnf
      refine And.intro (fun h2 => ?_) (fun h2 => ?_)
      · have h2 : k < a.length := by simp at h2; omega
        conv => whnf
        refine drawx_pure tab_ok (by kernel_rfl) (by kernel_rfl) ?_
        conv => whnf
        refine ⟨by omega, ?_⟩
        conv => whnf
        refine ⟨by omega, ?_⟩
        conv => whnf
        rw [eqO]
        refine And.intro (fun h3 => ?_) (fun h3 => ?_)
        · have h3 : ¬ a.getD k default = b.getD k default := by simpa using h3
          have : ¬ a = b := fun e => h3 (by rw [e])
          conv => whnf
          simp [this]
        · have h3 : a.getD k default = b.getD k default := by simpa using h3
          conv => whnf
          refine ⟨k + 1, ⟨by omega, fun j hj => ?_⟩, by omega, rfl, ?_⟩
          · by_cases e : j = k
            · rw [e]; exact h3
            · exact hall j (by omega)
          refine ⟨?_, ?_, rfl⟩ <;> repeat' (first | exact trivial | exact entV_refl _ | exact wrap_succ (by omega) | rfl | apply And.intro)
      · have h2 : k = a.length := by simp at h2; omega
        subst h2
        have : a = b := eq_of_getD' default h1 hall
        conv => whnf
        simp [this]
theorem eqOps_fn (a b : List Opr) (ha : a.length ≤ 1000000) : Eng.Fn Try.prog 87 [.c (opsX a), .c (opsX b)] (Tells (.c (.b (decide (a = b))))) := by
  refine Eng.Fn.of tab_ok Try.func87 (by kernel_rfl) (by kernel_rfl) (fun w0 => ?_)
  conv => whnf
  refine And.intro (fun h1 => ?_) (fun h1 => ?_)
  · conv => whnf
    have h1 : ¬ a.length = b.length := by simp at h1; omega
    have : ¬ a = b := fun e => h1 (by rw [e])
    simp [this]
  · have h1 : a.length = b.length := by simp at h1; omega
    conv => whnf
    refine loopi tab_ok (fun k => k ≤ a.length ∧ ∀ j, j < k → a.getD j default = b.getD j default) (fun k => [(0, .c (opsX a)), (1, .c (opsX b)), (11, .c (opsX a)), (12, .c (.i .i64 a.length)), (13, .c (.i .i64 k))]) (fun k => []) (fun k => a.length - k) 0 26 rfl ⟨Nat.zero_le _, fun j h => by omega⟩ ?_ (fun k hk => ?_)
    · refine ⟨?_, ?_, rfl⟩ <;> repeat' (first | exact trivial | exact entV_refl _ | exact ⟨rfl, rfl⟩ | rfl | apply And.intro)
    · obtain ⟨hk, hall⟩ := hk
      conv => whnf
      refine And.intro (fun h2 => ?_) (fun h2 => ?_)
      · have h2 : k < a.length := by simp at h2; omega
        conv => whnf
        refine drawx_pure tab_ok (by kernel_rfl) (by kernel_rfl) ?_
        conv => whnf
        refine ⟨by omega, ?_⟩
        conv => whnf
        refine ⟨by omega, ?_⟩
        conv => whnf
        rw [eqO]
        refine And.intro (fun h3 => ?_) (fun h3 => ?_)
        · have h3 : ¬ a.getD k default = b.getD k default := by simpa using h3
          have : ¬ a = b := fun e => h3 (by rw [e])
          conv => whnf
          simp [this]
        · have h3 : a.getD k default = b.getD k default := by simpa using h3
          conv => whnf
          refine ⟨k + 1, ⟨by omega, fun j hj => ?_⟩, by omega, rfl, ?_⟩
          · by_cases e : j = k
            · rw [e]; exact h3
            · exact hall j (by omega)
          refine ⟨?_, ?_, rfl⟩ <;> repeat' (first | exact trivial | exact entV_refl _ | exact wrap_succ (by omega) | rfl | apply And.intro)
      · have h2 : k = a.length := by simp at h2; omega
        subst h2
        have : a = b := eq_of_getD' default h1 hall
        conv => whnf
        simp [this]
theorem eqInts_fn (a b : List Int) (ha : a.length ≤ 1000000) : Eng.Fn Try.prog 88 [.c (intsX a), .c (intsX b)] (Tells (.c (.b (decide (a = b))))) := by
  refine Eng.Fn.of tab_ok Try.func88 (by kernel_rfl) (by kernel_rfl) (fun w0 => ?_)
  conv => whnf
  refine And.intro (fun h1 => ?_) (fun h1 => ?_)
  · conv => whnf
    have h1 : ¬ a.length = b.length := by simp at h1; omega
    have : ¬ a = b := fun e => h1 (by rw [e])
    simp [this]
  · have h1 : a.length = b.length := by simp at h1; omega
    conv => whnf
    refine loopi tab_ok (fun k => k ≤ a.length ∧ ∀ j, j < k → a.getD j 0 = b.getD j 0) (fun k => [(0, .c (intsX a)), (1, .c (intsX b)), (11, .c (intsX a)), (12, .c (.i .i64 a.length)), (13, .c (.i .i64 k))]) (fun k => []) (fun k => a.length - k) 0 26 rfl ⟨Nat.zero_le _, fun j h => by omega⟩ ?_ (fun k hk => ?_)
    · refine ⟨?_, ?_, rfl⟩ <;> repeat' (first | exact trivial | exact entV_refl _ | exact ⟨rfl, rfl⟩ | rfl | apply And.intro)
    · obtain ⟨hk, hall⟩ := hk
      conv => whnf
      refine And.intro (fun h2 => ?_) (fun h2 => ?_)
      · have h2 : k < a.length := by simp at h2; omega
        conv => whnf
        refine drawx_pure tab_ok (by kernel_rfl) (by kernel_rfl) ?_
        conv => whnf
        refine ⟨by omega, ?_⟩
        conv => whnf
        refine ⟨by omega, ?_⟩
        conv => whnf
        refine And.intro (fun h3 => ?_) (fun h3 => ?_)
        · have h3 : ¬ a.getD k 0 = b.getD k 0 := by simpa using h3
          have : ¬ a = b := fun e => h3 (by rw [e])
          conv => whnf
          simp [this]
        · have h3 : a.getD k 0 = b.getD k 0 := by simpa using h3
          conv => whnf
          refine ⟨k + 1, ⟨by omega, fun j hj => ?_⟩, by omega, rfl, ?_⟩
          · by_cases e : j = k
            · rw [e]; exact h3
            · exact hall j (by omega)
          refine ⟨?_, ?_, rfl⟩ <;> repeat' (first | exact trivial | exact entV_refl _ | exact wrap_succ (by omega) | rfl | apply And.intro)
      · have h2 : k = a.length := by simp at h2; omega
        subst h2
        have : a = b := eq_of_getD' 0 h1 hall
        conv => whnf
        simp [this]
end Go.Proofs.Ytbhmplbckkipjaa
