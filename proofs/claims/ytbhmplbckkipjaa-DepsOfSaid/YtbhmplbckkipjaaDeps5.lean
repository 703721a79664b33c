/- Rows of reasons: alike, counted, between two. -/
import Derived.Test.YtbhmplbckkipjaaDeps4
import Derived.Test.YtbhmplbckkipjaaEdgesA
import Derived.Test.YtbhmplbckkipjaaScript4
namespace Go.Proofs.Ytbhmplbckkipjaa
open Go Go.Eng Go.RowKit
set_option maxRecDepth 100000
set_option maxHeartbeats 4000000
set_option linter.unusedVariables false
set_option linter.unusedSimpArgs false
theorem Dep.eq_iff {a b : Dep} : a = b ↔ a.fr = b.fr ∧ a.to = b.to ∧ a.kind = b.kind ∧ a.p = b.p := by cases a; cases b; simp
instance : DecidableEq Dep := fun a b => decidable_of_iff _ Dep.eq_iff.symm
theorem eqD (x y : Dep) : (x.fr == y.fr && (x.to == y.to && (x.kind == y.kind && (x.p.a == y.p.a && (x.p.b == y.p.b && (x.p.c == y.p.c && (x.p.d == y.p.d && x.p.n == y.p.n))))))) = decide (x = y) := by
  obtain ⟨f, t, k, ⟨a, b, c, d, n⟩⟩ := x
  obtain ⟨f', t', k', ⟨a', b', c', d', n'⟩⟩ := y
  rw [Bool.eq_iff_iff]
  simp [Dep.eq_iff, Pth.eq_iff, and_assoc]
theorem sameEgs_fn (a b : List Eg) (ha : a.length ≤ 1000000) : Eng.Fn Try.prog 69 [.c (egsX a), .c (egsX b)] (Tells (.c (.b (decide (a = b))))) := by
  refine Eng.Fn.of tab_ok Try.func69 (by kernel_rfl) (by kernel_rfl) (fun w0 => ?_)
  conv => whnf
  refine And.intro (fun h1 => ?_) (fun h1 => ?_)
  · conv => whnf
    have h1 : ¬ a.length = b.length := by simp at h1; omega
    have : ¬ a = b := fun e => h1 (by rw [e])
    simp [this]
  · have h1 : a.length = b.length := by simp at h1; omega
    conv => whnf
    refine loopi tab_ok (fun k => k ≤ a.length ∧ ∀ j, j < k → a.getD j default = b.getD j default) (fun k => [(0, .c (egsX a)), (1, .c (egsX b)), (11, .c (egsX a)), (12, .c (.i .i64 a.length)), (13, .c (.i .i64 k))]) (fun k => []) (fun k => a.length - k) 0 26 rfl ⟨Nat.zero_le _, fun j h => by omega⟩ ?_ (fun k hk => ?_)
    · refine ⟨?_, ?_, rfl⟩ <;> repeat' (first | exact trivial | exact entV_refl _ | exact ⟨rfl, rfl⟩ | rfl | apply And.intro)
    · obtain ⟨hk, hall⟩ := hk
      conv => whnf
      refine And.intro (fun h2 => ?_) (fun h2 => ?_)
      · have h2 : k < a.length := by simp at h2; omega
        conv => whnf
        refine drawx_pure tab_ok (by kernel_rfl) (by kernel_rfl) ?_
        conv => whnf
        refine ⟨by omega, ?_⟩
        conv => whnf
        refine ⟨by omega, ?_⟩
        conv => whnf
        rw [eqE]
        refine And.intro (fun h3 => ?_) (fun h3 => ?_)
        · have h3 : ¬ a.getD k default = b.getD k default := by simpa using h3
          have : ¬ a = b := fun e => h3 (by rw [e])
          conv => whnf
          simp [this]
        · have h3 : a.getD k default = b.getD k default := by simpa using h3
          conv => whnf
          refine ⟨k + 1, ⟨by omega, fun j hj => ?_⟩, by omega, rfl, ?_⟩
          · by_cases e : j = k
            · rw [e]; exact h3
            · exact hall j (by omega)
          refine ⟨?_, ?_, rfl⟩ <;> repeat' (first | exact trivial | exact entV_refl _ | exact wrap_succ (by omega) | rfl | apply And.intro)
      · have h2 : k = a.length := by simp at h2; omega
        subst h2
        have : a = b := eq_of_getD' default h1 hall
        conv => whnf
        simp [this]
theorem sameDeps_fn (a b : List Dep) (ha : a.length ≤ 1000000) : Eng.Fn Try.prog 62 [.c (depsX a), .c (depsX b)] (Tells (.c (.b (decide (a = b))))) := by
  refine Eng.Fn.of tab_ok Try.func62 (by kernel_rfl) (by kernel_rfl) (fun w0 => ?_)
  conv => whnf
  refine And.intro (fun h1 => ?_) (fun h1 => ?_)
  · conv => whnf
    have h1 : ¬ a.length = b.length := by simp at h1; omega
    have : ¬ a = b := fun e => h1 (by rw [e])
    simp [this]
  · have h1 : a.length = b.length := by simp at h1; omega
    conv => whnf
    refine loopi tab_ok (fun k => k ≤ a.length ∧ ∀ j, j < k → a.getD j default = b.getD j default) (fun k => [(0, .c (depsX a)), (1, .c (depsX b)), (11, .c (depsX a)), (12, .c (.i .i64 a.length)), (13, .c (.i .i64 k))]) (fun k => []) (fun k => a.length - k) 0 26 rfl ⟨Nat.zero_le _, fun j h => by omega⟩ ?_ (fun k hk => ?_)
    · refine ⟨?_, ?_, rfl⟩ <;> repeat' (first | exact trivial | exact entV_refl _ | exact ⟨rfl, rfl⟩ | rfl | apply And.intro)
    · obtain ⟨hk, hall⟩ := hk
      conv => whnf
      refine And.intro (fun h2 => ?_) (fun h2 => ?_)
      · have h2 : k < a.length := by simp at h2; omega
        conv => whnf
        refine drawx_pure tab_ok (by kernel_rfl) (by kernel_rfl) ?_
        conv => whnf
        refine ⟨by omega, ?_⟩
        conv => whnf
        refine ⟨by omega, ?_⟩
        conv => whnf
        rw [eqD]
        refine And.intro (fun h3 => ?_) (fun h3 => ?_)
        · have h3 : ¬ a.getD k default = b.getD k default := by simpa using h3
          have : ¬ a = b := fun e => h3 (by rw [e])
          conv => whnf
          simp [this]
        · have h3 : a.getD k default = b.getD k default := by simpa using h3
          conv => whnf
          refine ⟨k + 1, ⟨by omega, fun j hj => ?_⟩, by omega, rfl, ?_⟩
          · by_cases e : j = k
            · rw [e]; exact h3
            · exact hall j (by omega)
          refine ⟨?_, ?_, rfl⟩ <;> repeat' (first | exact trivial | exact entV_refl _ | exact wrap_succ (by omega) | rfl | apply And.intro)
      · have h2 : k = a.length := by simp at h2; omega
        subst h2
        have : a = b := eq_of_getD' default h1 hall
        conv => whnf
        simp [this]
theorem elD (l : List Dep) {k : Nat} (h : k < l.length) : (l.map encD)[k]? = some (encD (l.getD k default)) := by
  rw [List.getElem?_map, List.getD_eq_getElem?_getD, List.getElem?_eq_getElem h]; rfl
def betL (l : List Dep) (f t : Int) : List Dep := l.filter fun d => d.fr == f && d.to == t
theorem betL_snoc (l : List Dep) (d : Dep) (f t : Int) : betL (l ++ [d]) f t = if d.fr = f ∧ d.to = t then betL l f t ++ [d] else betL l f t := by
  unfold betL
  rw [List.filter_append]
  by_cases h : d.fr = f ∧ d.to = t
  · rw [if_pos h]; simp [h.1, h.2]
  · rw [if_neg h]; simp only [List.filter_cons, List.filter_nil]; rw [if_neg (by simpa using h)]; simp
theorem betL_len (l : List Dep) (f t : Int) : (betL l f t).length ≤ l.length := List.length_filter_le ..
theorem between_fn (l : List Dep) (f t : Int) (hl : l.length ≤ 1000000) : Eng.Fn Try.prog 68 [.c (depsX l), .c (.i .i64 f), .c (.i .i64 t)] (Tells (.c (depsX (betL l f t)))) := by
  refine Eng.Fn.ofZ tab_ok Try.func68 (by kernel_rfl) (by kernel_rfl) trivial (fun w0 => ?_)
  conv => whnf
  refine loopx_nil 7 104 8 rfl ?_
  conv => whnf
  refine loopi tab_ok (fun k => k ≤ l.length) (fun k => [(1, .c (.i .i64 f)), (2, .c (.i .i64 t)), (7, .c (.ow 0)), (10, .c (depsX l)), (11, .c (.i .i64 l.length)), (12, .c (.i .i64 k))]) (fun k => [.row 104 8 ((betL (l.take k) f t).map encD)]) (fun k => l.length - k) 0 32 rfl (Nat.zero_le _) ?_ (fun k hk => ?_)
  · refine ⟨?_, ?_, rfl⟩ <;> repeat' (first | exact trivial | exact entV_refl _ | exact entLL_refl _ | exact ⟨rfl, rfl⟩ | rfl | apply And.intro)
  · conv => whnf
    refine And.intro (fun h1 => ?_) (fun h1 => ?_)
    · have h1 : k < l.length := by simp at h1; omega
      have htk : l.take (k + 1) = l.take k ++ [l.getD k default] := take_snocE default h1
      have hsn := betL_snoc (l.take k) (l.getD k default) f t
      rw [← htk] at hsn
      have hbl := betL_len (l.take k) f t
      rw [List.length_take] at hbl
      conv => whnf
      refine ⟨by omega, ?_⟩
      conv => whnf
      rw [Int.toNat_natCast]
      generalize l.getD k default = d at *
      refine And.intro (fun h2 => ?_) (fun h2 => ?_)
      · have h2 : d.fr = f := by simpa using h2
        conv => whnf
        refine And.intro (fun h3 => ?_) (fun h3 => ?_)
        · have h3 : d.to = t := by simpa using h3
          rw [if_pos ⟨h2, h3⟩] at hsn
          conv => whnf
          refine ⟨by simp only [List.length_map, List.length_cons, List.length_nil]; omega, ?_⟩
          conv => whnf
          refine ⟨k + 1, by omega, by omega, rfl, ?_⟩
          rw [hsn]
          refine ⟨?_, ?_, rfl⟩ <;> repeat' (first | exact trivial | exact entV_refl _ | exact wrap_succ (by omega) | exact entLL_of_eq (by rw [List.map_append]; rfl) | rfl | apply And.intro)
        · have h3 : ¬ d.to = t := by simpa using h3
          rw [if_neg (fun h => h3 h.2)] at hsn
          conv => whnf
          refine ⟨k + 1, by omega, by omega, rfl, ?_⟩
          rw [hsn]
          refine ⟨?_, ?_, rfl⟩ <;> repeat' (first | exact trivial | exact entV_refl _ | exact wrap_succ (by omega) | exact entLL_refl _ | rfl | apply And.intro)
      · have h2 : ¬ d.fr = f := by simpa using h2
        rw [if_neg (fun h => h2 h.1)] at hsn
        conv => whnf
        refine ⟨k + 1, by omega, by omega, rfl, ?_⟩
        rw [hsn]
        refine ⟨?_, ?_, rfl⟩ <;> repeat' (first | exact trivial | exact entV_refl _ | exact wrap_succ (by omega) | exact entLL_refl _ | rfl | apply And.intro)
    · have h1 : k = l.length := by simp at h1; omega
      subst h1
      conv => whnf
      rw [List.take_length]
      exact rowX_entS encD default 8 _ (entLL_refl _)
def cntB (j : Int) (d : Dep) : Bool := if 1 ≤ d.kind ∧ d.kind ≤ 3 then d.kind == j else j == 0
def cntI (l : List Dep) (j : Int) : Int := (l.countP (cntB j) : Nat)
theorem cntI_snoc (l : List Dep) (d : Dep) (j : Int) : cntI (l ++ [d]) j = cntI l j + if cntB j d = true then 1 else 0 := by
  unfold cntI
  rw [List.countP_append, List.countP_singleton]
  split <;> simp
theorem cntI_rng (l : List Dep) (j : Int) : 0 ≤ cntI l j ∧ cntI l j ≤ l.length := by
  unfold cntI
  have := List.countP_le_length (p := cntB j) (l := l)
  omega
abbrev cntX (l : List Dep) : List XC := [.i .i64 (cntI l 0), .i .i64 (cntI l 1), .i .i64 (cntI l 2), .i .i64 (cntI l 3)]
theorem count_fn (l : List Dep) (hl : l.length ≤ 1000000) : Eng.Fn Try.prog 67 [.c (depsX l)] (Tells (.a (cntX l))) := by
  refine Eng.Fn.of tab_ok Try.func67 (by kernel_rfl) (by kernel_rfl) (fun w0 => ?_)
  conv => whnf
  refine loopi tab_ok (fun k => k ≤ l.length) (fun k => [(2, .c (.p 0 0)), (3, .c (.p 1 0)), (6, .c (depsX l)), (7, .c (.i .i64 l.length)), (8, .c (.i .i64 k))]) (fun k => [.cells 33 [.i .i64 0, .i .i64 0, .i .i64 0, .i .i64 0], .cells 33 (cntX (l.take k))]) (fun k => l.length - k) 0 32 rfl (Nat.zero_le _) ?_ (fun k hk => ?_)
  · refine ⟨?_, ?_, rfl⟩ <;> repeat' (first | exact trivial | exact entV_refl _ | exact entLL_refl _ | exact ⟨rfl, rfl⟩ | rfl | apply And.intro)
  · conv => whnf
    refine And.intro (fun h1 => ?_) (fun h1 => ?_)
    · have h1 : k < l.length := by simp at h1; omega
      have htk : l.take (k + 1) = l.take k ++ [l.getD k default] := take_snocE default h1
      have hsn := fun j => cntI_snoc (l.take k) (l.getD k default) j
      simp only [← htk] at hsn
      have hrg := fun j => cntI_rng (l.take k) j
      simp only [List.length_take] at hrg
      conv => whnf
      refine ⟨by omega, ?_⟩
      conv => whnf
      rw [Int.toNat_natCast]
      generalize l.getD k default = d at *
      have r0 := hrg 0; have r1 := hrg 1; have r2 := hrg 2; have r3 := hrg 3
      have fin : ∀ (j : Int), (1 ≤ d.kind ∧ d.kind ≤ 3) → cntB j d = (d.kind == j) := fun j h => if_pos h
      have fin0 : ∀ (j : Int), ¬ (1 ≤ d.kind ∧ d.kind ≤ 3) → cntB j d = (j == 0) := fun j h => if_neg h
      have w : ∀ j, IntKind.i64.wrap (cntI (l.take k) j + 1) = cntI (l.take k) j + 1 := fun j => by have := hrg j; exact wrap_ok (by omega) (by omega)
      refine And.intro (fun h2 => ?_) (fun h2 => ?_)
      · have h2 : 0 < d.kind := by simpa using h2
        conv => whnf
        refine And.intro (fun h3 => ?_) (fun h3 => ?_)
        · have h3 : d.kind < 4 := by simpa using h3
          have hin : 1 ≤ d.kind ∧ d.kind ≤ 3 := by omega
          have hk3 : d.kind = 1 ∨ d.kind = 2 ∨ d.kind = 3 := by omega
          conv => whnf
          rcases hk3 with e | e | e
          all_goals
            rw [e]
            refine ⟨by decide, ?_⟩
            conv => whnf
            refine ⟨by decide, ?_⟩
            conv => whnf
            refine ⟨k + 1, by omega, by omega, rfl, ?_⟩
            refine ⟨?_, ?_, rfl⟩ <;> repeat' (first | exact trivial | exact entV_refl _ | exact wrap_succ (by omega) | exact entLL_refl _ | exact w _ | rfl | apply And.intro)
            all_goals (simp [hsn, fin _ hin, e, w]; done)
        · have h3 : ¬ d.kind < 4 := by simpa using h3
          have hin : ¬ (1 ≤ d.kind ∧ d.kind ≤ 3) := by omega
          conv => whnf
          refine ⟨k + 1, by omega, by omega, rfl, ?_⟩
          refine ⟨?_, ?_, rfl⟩ <;> repeat' (first | exact trivial | exact entV_refl _ | exact wrap_succ (by omega) | exact entLL_refl _ | exact w _ | rfl | apply And.intro)
          all_goals (simp [hsn, fin0 _ hin, w]; done)
      · have h2 : ¬ 0 < d.kind := by simpa using h2
        have hin : ¬ (1 ≤ d.kind ∧ d.kind ≤ 3) := by omega
        conv => whnf
        refine ⟨k + 1, by omega, by omega, rfl, ?_⟩
        refine ⟨?_, ?_, rfl⟩ <;> repeat' (first | exact trivial | exact entV_refl _ | exact wrap_succ (by omega) | exact entLL_refl _ | exact w _ | rfl | apply And.intro)
        all_goals (simp [hsn, fin0 _ hin, w]; done)
    · have h1 : k = l.length := by simp at h1; omega
      subst h1
      conv => whnf
      rw [List.take_length]
      repeat' (first | exact trivial | exact entC_refl _ | exact ⟨rfl, rfl⟩ | apply And.intro)
end Go.Proofs.Ytbhmplbckkipjaa
