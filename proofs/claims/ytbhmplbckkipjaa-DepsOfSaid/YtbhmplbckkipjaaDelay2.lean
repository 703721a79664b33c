/- How long answers took: of a row of replies, the slowest, a sum. -/
import Derived.Test.YtbhmplbckkipjaaDelay
namespace Go.Proofs.Ytbhmplbckkipjaa
open Go Go.Eng Go.RowKit
set_option maxRecDepth 100000
set_option maxHeartbeats 4000000
set_option linter.unusedVariables false
set_option linter.unusedSimpArgs false
structure Rp where
  c0 : Int
  c1 : Int
  c2 : Int
  c3 : Int
  c4 : Int
  c5 : Int
  c6 : Int
  c7 : Int
  c8 : Int
  c9 : Int
  c10 : Int
  rows : List Rw
  fr : Int
  to : Int
instance : Inhabited Rp := ⟨⟨0, 0, 0, 0, 0, 0, 0, 0, 0, 0, 0, [], 0, 0⟩⟩
def encRp (r : Rp) : List XC := [.i .i64 r.c0, .i .i64 r.c1, .i .i64 r.c2, .i .i64 r.c3, .i .i64 r.c4, .i .i64 r.c5, .i .i64 r.c6, .i .i64 r.c7, .i .i64 r.c8, .i .i64 r.c9, .i .i64 r.c10, rowX encR default 6 r.rows, .i .i64 r.fr, .i .i64 r.to]
abbrev rpsX (l : List Rp) : XC := rowX encRp default 14 l
def subI (r : Rp) : Int := IntKind.i64.wrap ((if 0 > r.to then 0 else r.to) - if 0 > r.fr then 0 else r.fr)
def oneI (r : Rp) : Int := if 0 > subI r then 0 else subI r
theorem one_pos (r : Rp) : 0 ≤ oneI r := by unfold oneI; split <;> omega
theorem take_snoc {α : Type} (d : α) {l : List α} {k : Nat} (h : k < l.length) : l.take (k + 1) = l.take k ++ [l.getD k d] := by
  rw [List.take_add_one, List.getD_eq_getElem?_getD, List.getElem?_eq_getElem h]
  rfl
theorem one_fn (r : Rp) : Eng.Fn Try.prog 92 [.a (encRp r)] (Tells (.c (.i .i64 (oneI r)))) := by
  refine Eng.Fn.of tab_ok Try.func92 (by kernel_rfl) (by kernel_rfl) (fun w0 => ?_)
  conv => whnf
  exact ⟨rfl, rfl⟩
theorem of_d_fn (l : List Rp) (hl : l.length ≤ 1000000) : Eng.Fn Try.prog 42 [.c (rpsX l)] (Tells (.c (intsX (l.map oneI)))) := by
  refine Eng.Fn.ofZ tab_ok Try.func42 (by kernel_rfl) (by kernel_rfl) trivial (fun w0 => ?_)
  conv => whnf
  refine loopx_nil 3 3 1 rfl ?_
  conv => whnf
  refine loopi tab_ok (fun k => k ≤ l.length) (fun k => [(3, .c (.ow 0)), (6, .c (rpsX l)), (7, .c (.i .i64 l.length)), (8, .c (.i .i64 k))]) (fun k => [rowI 3 ((l.take k).map oneI)]) (fun k => l.length - k) 0 19 rfl (Nat.zero_le _) ?_ (fun k hk => ?_)
  · refine ⟨?_, ?_, rfl⟩ <;> repeat' (first | exact trivial | exact entV_refl _ | exact entLL_refl _ | rfl | apply And.intro)
  · conv => whnf
    refine And.intro (fun h1 => ?_) (fun h1 => ?_)
    · conv => whnf
      simp only [decide_eq_true_eq] at h1
      have h2 : k < l.length := by omega
      refine ⟨by omega, ?_⟩
      conv => whnf
      generalize hb : l.getD (Int.toNat (k : Int)) default = o
      have hb : l.getD k default = o := hb
      refine callx_tells (one_fn o) rfl trivial ?_
      conv => whnf
      refine ⟨by simp only [List.length_map, List.length_cons, List.length_nil, List.length_take]; omega, ?_⟩
      conv => whnf
      refine ⟨k + 1, by omega, by omega, rfl, ?_⟩
      rw [take_snoc default h2, hb, List.map_append]
      refine ⟨?_, ?_, rfl⟩ <;> repeat' (first | exact trivial | exact entV_refl _ | exact wrap_succ (by omega) | exact entLL_refl _ | rfl | apply And.intro)
      all_goals (rw [List.map_append]; exact entLL_refl _)
    · conv => whnf
      have h1 : k = l.length := by simp at h1; omega
      subst h1
      refine ints_ent ?_
      rw [List.take_length]
def slowAt (l : List Rp) : Nat → Nat × Bool
  | 0 => (0, false)
  | k + 1 => if (slowAt l k).2 = false ∨ oneI (l.getD k default) > oneI (l.getD (slowAt l k).1 default) then (k, true) else slowAt l k
theorem slowAt_ok (l : List Rp) : ∀ k, (k = 0 ∧ slowAt l k = (0, false)) ∨ (0 < k ∧ (slowAt l k).2 = true ∧ (slowAt l k).1 < k ∧ ∀ j, j < k → oneI (l.getD j default) ≤ oneI (l.getD (slowAt l k).1 default))
  | 0 => .inl ⟨rfl, rfl⟩
  | k + 1 => by
    refine .inr ⟨Nat.succ_pos _, ?_⟩
    have ih := slowAt_ok l k
    by_cases h : (slowAt l k).2 = false ∨ oneI (l.getD k default) > oneI (l.getD (slowAt l k).1 default)
    · have e : slowAt l (k + 1) = (k, true) := by rw [slowAt, if_pos h]
      rw [e]
      refine ⟨rfl, Nat.lt_succ_self _, fun j hj => ?_⟩
      by_cases hjk : j = k
      · rw [hjk]; exact Int.le_refl _
      · rcases ih with ⟨h0, _⟩ | ⟨_, h2, _, h4⟩
        · omega
        · rcases h with h | h
          · rw [h2] at h; cases h
          · have := h4 j (by omega)
            dsimp only
            omega
    · have e : slowAt l (k + 1) = slowAt l k := by rw [slowAt, if_neg h]
      rw [e]
      rcases ih with ⟨h0, h1⟩ | ⟨_, h2, h3, h4⟩
      · exact absurd (.inl (by rw [h1])) h
      · refine ⟨h2, by omega, fun j hj => ?_⟩
        by_cases hjk : j = k
        · rw [hjk]
          by_cases h5 : oneI (l.getD k default) > oneI (l.getD (slowAt l k).1 default)
          · exact absurd (.inr h5) h
          · omega
        · exact h4 j (by omega)
theorem slow_fn (l : List Rp) (hl : l.length ≤ 1000000) : Eng.Fn Try.prog 43 [.c (rpsX l)] (Tells (.t [.c (.i .i64 (slowAt l l.length).1), .c (.b (slowAt l l.length).2)])) := by
  refine Eng.Fn.of tab_ok Try.func43 (by kernel_rfl) (by kernel_rfl) (fun w0 => ?_)
  conv => whnf
  refine loopi tab_ok (fun k => k ≤ l.length) (fun k => [(0, .c (rpsX l)), (4, .c (.i .i64 (slowAt l k).1)), (5, .c (.b (slowAt l k).2)), (8, .c (rpsX l)), (9, .c (.i .i64 l.length)), (10, .c (.i .i64 k))]) (fun k => []) (fun k => l.length - k) 0 31 rfl (Nat.zero_le _) ?_ (fun k hk => ?_)
  · refine ⟨?_, ?_, rfl⟩ <;> repeat' (first | exact trivial | exact entV_refl _ | rfl | apply And.intro)
  · have hs := slowAt_ok l k
    conv => whnf
    refine And.intro (fun h1 => ?_) (fun h1 => ?_)
    · conv => whnf
      simp only [decide_eq_true_eq] at h1
      have h2 : k < l.length := by omega
      refine ⟨by omega, ?_⟩
      conv => whnf
      have he : slowAt l (k + 1) = if (slowAt l k).2 = false ∨ oneI (l.getD k default) > oneI (l.getD (slowAt l k).1 default) then (k, true) else slowAt l k := rfl
      generalize slowAt l k = s at *
      obtain ⟨best, found⟩ := s
      generalize hb : l.getD (Int.toNat (k : Int)) default = o
      have hb : l.getD k default = o := hb
      rw [hb] at he
      refine drawx_pure tab_ok (by kernel_rfl) (by kernel_rfl) ?_
      conv => whnf
      cases found with
      | false =>
        rw [if_pos (.inl rfl)] at he
        refine And.intro (fun _ => ?_) (fun h => absurd h (by simp))
        conv => whnf
        refine ⟨k + 1, by omega, by omega, rfl, ?_⟩
        rw [he]
        refine ⟨?_, ?_, rfl⟩ <;> repeat' (first | exact trivial | exact entV_refl _ | exact wrap_succ (by omega) | rfl | apply And.intro)
      | true =>
        have hb3 : best < k := by
          rcases hs with ⟨_, h⟩ | ⟨_, _, h, _⟩
          · cases h
          · exact h
        refine And.intro (fun h => absurd h (by simp)) (fun _ => ?_)
        conv => whnf
        refine callp_tells (one_fn o) rfl trivial ?_
        conv => whnf
        refine ⟨by omega, ?_⟩
        conv => whnf
        generalize hg : l.getD (Int.toNat (best : Int)) default = q
        have hg : l.getD best default = q := hg
        rw [hg] at he
        refine callp_tells (one_fn q) rfl trivial ?_
        conv => whnf
        refine And.intro (fun h5 => ?_) (fun h5 => ?_)
        · have h5 : oneI o > oneI q := by simpa using h5
          rw [if_pos (.inr h5)] at he
          conv => whnf
          refine ⟨k + 1, by omega, by omega, rfl, ?_⟩
          rw [he]
          refine ⟨?_, ?_, rfl⟩ <;> repeat' (first | exact trivial | exact entV_refl _ | exact wrap_succ (by omega) | rfl | apply And.intro)
        · have h5 : ¬ oneI o > oneI q := by simpa using h5
          rw [if_neg (fun h => by rcases h with h | h; cases h; exact h5 h)] at he
          conv => whnf
          refine ⟨k + 1, by omega, by omega, rfl, ?_⟩
          rw [he]
          refine ⟨?_, ?_, rfl⟩ <;> repeat' (first | exact trivial | exact entV_refl _ | exact wrap_succ (by omega) | rfl | apply And.intro)
    · conv => whnf
      have h1 : k = l.length := by simp at h1; omega
      subst h1
      repeat' (first | exact trivial | exact ⟨rfl, rfl⟩ | exact entC_refl _ | rfl | apply And.intro)
theorem drop_cons2 {α : Type} (d : α) {l : List α} {k : Nat} (h : k < l.length) : l.drop k = l.getD k d :: l.drop (k + 1) := by
  rw [List.drop_eq_getElem_cons h, List.getD_eq_getElem?_getD, List.getElem?_eq_getElem h]
  rfl
def sumGo : List Int → Int → Int × Bool
  | [], a => (a, true)
  | n :: l, a => if n < 0 ∨ n > 1125899906842624 - a then (0, false) else sumGo l (a + n)
def sumAt (l : List Int) : Nat → Int
  | 0 => 0
  | k + 1 => sumAt l k + l.getD k 0
theorem sumGo_app (l : List Int) (x : Int) : ∀ a, sumGo (l ++ [x]) a = if (sumGo l a).2 = true then (if x < 0 ∨ x > 1125899906842624 - (sumGo l a).1 then (0, false) else ((sumGo l a).1 + x, true)) else (0, false) := by
  induction l with
  | nil => intro a; simp [sumGo]
  | cons n l ih =>
    intro a
    simp only [List.cons_append, sumGo]
    split
    · simp
    · exact ih _
theorem sumGo_rng (l : List Int) : ∀ a, 0 ≤ a → a ≤ 1125899906842624 → 0 ≤ (sumGo l a).1 ∧ (sumGo l a).1 ≤ 1125899906842624 := by
  induction l with
  | nil => intro a h1 h2; exact ⟨h1, h2⟩
  | cons n l ih =>
    intro a h1 h2
    simp only [sumGo]
    split
    · exact ⟨by decide, by decide⟩
    · exact ih _ (by omega) (by omega)
theorem sum_fn (l : List Int) (hl : l.length ≤ 1000000) : Eng.Fn Try.prog 44 [.c (intsX l)] (Tells (.t [.c (.i .i64 (sumGo l 0).1), .c (.b (sumGo l 0).2)])) := by
  refine Eng.Fn.of tab_ok Try.func44 (by kernel_rfl) (by kernel_rfl) (fun w0 => ?_)
  conv => whnf
  refine loopi tab_ok (fun k => k ≤ l.length ∧ 0 ≤ sumAt l k ∧ sumAt l k ≤ 1125899906842624 ∧ sumGo l 0 = sumGo (l.drop k) (sumAt l k)) (fun k => [(4, .c (.p 0 0)), (5, .c (.fn 93 1 (nthC [.p 0 0]))), (9, .c (intsX l)), (10, .c (.i .i64 l.length)), (11, .c (.i .i64 k))]) (fun k => [.cells 3 [.i .i64 (sumAt l k)]]) (fun k => l.length - k) 0 21 rfl ⟨Nat.zero_le _, Int.le_refl 0, by show (0 : Int) ≤ 1125899906842624; decide, rfl⟩ ?_ (fun k hk => ?_)
  · refine ⟨?_, ?_, rfl⟩ <;> repeat' (first | exact trivial | exact entV_refl _ | exact ⟨rfl, rfl⟩ | rfl | apply And.intro)
  · obtain ⟨hk, hs0, hs1, hall⟩ := hk
    conv => whnf
    refine And.intro (fun h1 => ?_) (fun h1 => ?_)
    · conv => whnf
      simp only [decide_eq_true_eq] at h1
      have h2 : k < l.length := by omega
      refine ⟨by omega, ?_⟩
      conv => whnf
      have hst : sumAt l (k + 1) = sumAt l k + l.getD k 0 := rfl
      rw [drop_cons2 0 h2, sumGo] at hall
      generalize hb : l.getD (Int.toNat (k : Int)) 0 = n
      have hb : l.getD k 0 = n := hb
      rw [hb] at hall hst
      generalize sumAt l k = s at *
      refine callx_inline tab_ok Try.func93 (by kernel_rfl) (by kernel_rfl) (fun vs => ?_)
      conv => whnf
      have hw : IntKind.i64.wrap (1125899906842624 - s) = 1125899906842624 - s := wrap_ok (by omega) (by omega)
      refine And.intro (fun h3 => ?_) (fun h3 => ?_)
      · have h3 : n < 0 := by simpa using h3
        rw [if_pos (.inl h3)] at hall
        conv => whnf
        refine ⟨rfl, ?_⟩
        conv => whnf
        rw [hall]
        repeat' (first | exact trivial | exact ⟨rfl, rfl⟩ | rfl | apply And.intro)
      · have h3 : ¬ n < 0 := by simpa using h3
        conv => whnf
        refine And.intro (fun h4 => ?_) (fun h4 => ?_)
        · rw [hw] at h4
          have h4 : n > 1125899906842624 - s := by simpa using h4
          rw [if_pos (.inr h4)] at hall
          conv => whnf
          refine ⟨rfl, ?_⟩
          conv => whnf
          rw [hall]
          repeat' (first | exact trivial | exact ⟨rfl, rfl⟩ | rfl | apply And.intro)
        · rw [hw] at h4
          have h4 : ¬ n > 1125899906842624 - s := by simpa using h4
          rw [if_neg (by omega)] at hall
          have hw2 : IntKind.i64.wrap (s + n) = s + n := wrap_ok (by omega) (by omega)
          conv => whnf
          refine ⟨rfl, ?_⟩
          conv => whnf
          refine ⟨k + 1, ⟨by omega, by omega, by omega, by rw [hst]; exact hall⟩, by omega, rfl, ?_⟩
          rw [hst]
          refine ⟨?_, ?_, rfl⟩ <;> repeat' (first | exact trivial | exact entV_refl _ | exact wrap_succ (by omega) | exact hw2 | rfl | apply And.intro)
    · conv => whnf
      have h1 : k = l.length := by simp at h1; omega
      subst h1
      rw [List.drop_length, sumGo] at hall
      rw [hall]
      repeat' (first | exact trivial | exact ⟨rfl, rfl⟩ | exact entC_refl _ | rfl | apply And.intro)
theorem rowsOf_ints (l : List Int) : rowsOf l.length 1 (fun i _ => XC.i .i64 (l.getD i 0)) = l.map fun n => [XC.i .i64 n] := by
  apply List.ext_getElem
  · simp [rowsOf]
  · intro i h1 h2
    have hi : i < l.length := by simpa using h2
    simp [rowsOf, List.getD, hi]
theorem tupSt (a : Int) (b : Bool) : stX (.t [.c (.i .i64 a), .c (.b b)]) := by
  intro x hx
  simp only [List.mem_cons, List.not_mem_nil, or_false] at hx
  rcases hx with rfl | rfl <;> trivial
theorem map_getD (rs : List Rp) {j : Nat} (h : j < rs.length) : (rs.map oneI).getD j 0 = oneI (rs.getD j default) := by
  simp [List.getD, h]
theorem slow_facts (rs : List Rp) : (rs.length = 0 ∧ slowAt rs rs.length = (0, false)) ∨ (0 < rs.length ∧ (slowAt rs rs.length).2 = true ∧ (slowAt rs rs.length).1 < (rs.map oneI).length ∧ ∀ j, j < (rs.map oneI).length → 0 ≤ (rs.map oneI).getD j 0 ∧ (rs.map oneI).getD j 0 ≤ (rs.map oneI).getD (slowAt rs rs.length).1 0) := by
  rcases slowAt_ok rs rs.length with h | ⟨h1, h2, h3, h4⟩
  · exact .inl h
  · refine .inr ⟨h1, h2, by simpa using h3, fun j hj => ?_⟩
    have hj : j < rs.length := by simpa using hj
    rw [map_getD rs hj, map_getD rs h3]
    exact ⟨one_pos _, h4 j hj⟩
theorem most_fn (rs : List Rp) (l : List Int) (x : Int) : Eng.Fn Try.prog 10 [.c (rpsX rs), .c (intsX l), .c (.i .i64 x)] (Tells (.c (.b true))) := by
  refine Eng.Fn.of tab_ok Try.func10 (by kernel_rfl) (by kernel_rfl) (fun w0 => ?_)
  conv => whnf
  refine callx_as (.c .bt) quant_awake rfl rfl trivial ?_
  conv => whnf
  refine And.intro (fun h1 => ?_) (fun h1 => ?_)
  · conv => whnf
    first | rfl | trace_state
  · have h1 : rs.length ≤ 40 := by simp at h1; omega
    conv => whnf
    refine And.intro (fun h2 => ?_) (fun h2 => ?_)
    · conv => whnf
      first | rfl | trace_state
    · have h2 : l.length ≤ 40 := by simp at h2; omega
      conv => whnf
      refine callx_tells (of_d_fn rs (by omega)) rfl trivial ?_
      conv => whnf
      have hsl := slow_facts rs
      refine callx_tells (slow_fn rs (by omega)) rfl (tupSt _ _) ?_
      conv => whnf
      have hdl : (rs.map oneI).length = rs.length := List.length_map ..
      generalize hd : rs.map oneI = d at *
      generalize hsw : slowAt rs rs.length = s at *
      obtain ⟨best, found⟩ := s
      refine loopi tab_ok (fun k => k ≤ d.length) (fun k => [(0, .c (rpsX rs)), (1, .c (intsX l)), (2, .c (.i .i64 x)), (7, .c (intsX d)), (8, .c (.i .i64 best)), (9, .c (.b found)), (33, .c (intsX d)), (34, .c (.i .i64 d.length)), (35, .c (.i .i64 k))]) (fun k => []) (fun k => d.length - k) 0 99 rfl (Nat.zero_le _) ?_ (fun k hk => ?_)
      · refine ⟨?_, ?_, rfl⟩ <;> repeat' (first | exact trivial | exact entV_refl _ | exact wrap_succ (by omega) | rfl | apply And.intro)
      · conv => whnf
        refine And.intro (fun b1 => ?_) (fun b1 => ?_)
        · conv => whnf
          simp only [decide_eq_true_eq] at b1
          have b2 : k < d.length := by omega
          rcases hsl with ⟨h0, _⟩ | ⟨h0, hf, hb, hall⟩
          · omega
          · have hf : found = true := hf
            have hb : best < d.length := hb
            subst hf
            have hk1 : 0 ≤ d.getD k 0 ∧ d.getD k 0 ≤ d.getD best 0 := hall k b2
            refine ⟨by omega, ?_⟩
            conv => whnf
            generalize hn : d.getD (Int.toNat (k : Int)) 0 = n
            have hn : d.getD k 0 = n := hn
            rw [hn] at hk1
            refine And.intro (fun h => absurd h (by simp; omega)) (fun _ => ?_)
            conv => whnf
            refine And.intro (fun h => absurd h (by simp)) (fun _ => ?_)
            conv => whnf
            refine ⟨by omega, ?_⟩
            conv => whnf
            generalize hm : d.getD (Int.toNat (best : Int)) 0 = m
            have hm : d.getD best 0 = m := hm
            rw [hm] at hk1
            refine And.intro (fun h => absurd h (by simp; omega)) (fun _ => ?_)
            conv => whnf
            refine ⟨k + 1, by omega, by omega, rfl, ?_⟩
            refine ⟨?_, ?_, rfl⟩ <;> repeat' (first | exact trivial | exact entV_refl _ | exact wrap_succ (by omega) | rfl | apply And.intro)
        · conv => whnf
          refine callx_tells (sum_fn l (by omega)) rfl (tupSt _ _) ?_
          conv => whnf
          rw [rowsOf_ints]
          refine ⟨by simp only [List.length_map]; omega, ?_⟩
          conv => whnf
          refine ⟨by simp only [List.length_map, List.length_cons, List.length_nil]; omega, ?_⟩
          conv => whnf
          refine callx_lent (sum_fn (l ++ [x]) (by simp; omega)) ⟨ints_ent (by rw [List.map_append]; rfl), trivial⟩ rfl rfl ?_
          conv => whnf
          have happ := sumGo_app l x 0
          have hrng := sumGo_rng l 0 (Int.le_refl 0) (by decide)
          generalize sumGo l 0 = sa at *
          generalize sumGo (l ++ [x]) 0 = sb at *
          obtain ⟨a, ok⟩ := sa
          obtain ⟨b, more⟩ := sb
          have hmore : more = true → ok = true ∧ b = a + x ∧ 0 ≤ x ∧ a + x ≤ 1125899906842624 := fun hm => by
            subst hm
            cases ok with
            | false => simp at happ
            | true =>
              by_cases hx : x < 0 ∨ x > 1125899906842624 - a
              · simp [hx] at happ
              · simp [hx] at happ
                exact ⟨rfl, happ, by omega, by omega⟩
          have hrng : 0 ≤ a ∧ a ≤ 1125899906842624 := hrng
          have hfound : (found == decide ((rs.length : Int) > 0)) = true := by
            rcases hsl with ⟨h0, h⟩ | ⟨h0, hf, _⟩
            · obtain rfl : found = false := congrArg Prod.snd h
              simp [h0]
            · obtain rfl : found = true := hf
              simp; omega
          refine And.intro (fun _ => ?_) (fun h => absurd h (by rw [hdl]; simp))
          conv => whnf
          refine And.intro (fun _ => ?_) (fun h => absurd (h.symm.trans hfound) (by decide))
          conv => whnf
          cases more with
          | false =>
            refine And.intro (fun _ => ?_) (fun h => absurd h (by simp))
            conv => whnf
            first | rfl | trace_state
          | true =>
            obtain ⟨rfl, hb, hx0, hx1⟩ := hmore rfl
            have hw : IntKind.i64.wrap (a + x) = a + x := wrap_ok (by omega) (by omega)
            refine And.intro (fun h => absurd h (by simp)) (fun _ => ?_)
            conv => whnf
            refine And.intro (fun _ => ?_) (fun h => absurd h (by simp))
            conv => whnf
            have heq : (b == IntKind.i64.wrap (a + x)) = true := by rw [hw, hb]; simp
            refine And.intro (fun _ => ?_) (fun h => absurd (h.symm.trans heq) (by decide))
            conv => whnf
            have hge : decide (b ≥ a) = true := by simp; omega
            exact hge
abbrev shRp : List Sh := [.int .i64, .int .i64, .int .i64, .int .i64, .int .i64, .int .i64, .int .i64, .int .i64, .int .i64, .int .i64, .int .i64, .sl 6 shR, .int .i64, .int .i64]
theorem fit_rp {f : Nat → XC} (h : fitF shRp f 0) : ∃ r : Rp, ∀ j, j < 14 → entC (f j) (nthC (encRp r) j) := by
  obtain ⟨⟨n0, e0⟩, h⟩ := fitF_int h
  obtain ⟨⟨n1, e1⟩, h⟩ := fitF_int h
  obtain ⟨⟨n2, e2⟩, h⟩ := fitF_int h
  obtain ⟨⟨n3, e3⟩, h⟩ := fitF_int h
  obtain ⟨⟨n4, e4⟩, h⟩ := fitF_int h
  obtain ⟨⟨n5, e5⟩, h⟩ := fitF_int h
  obtain ⟨⟨n6, e6⟩, h⟩ := fitF_int h
  obtain ⟨⟨n7, e7⟩, h⟩ := fitF_int h
  obtain ⟨⟨n8, e8⟩, h⟩ := fitF_int h
  obtain ⟨⟨n9, e9⟩, h⟩ := fitF_int h
  obtain ⟨⟨n10, e10⟩, h⟩ := fitF_int h
  obtain ⟨⟨n, g, e11, hg⟩, h⟩ := fitF_sl h
  obtain ⟨⟨n12, e12⟩, h⟩ := fitF_int h
  obtain ⟨⟨n13, e13⟩, h⟩ := fitF_int h
  obtain ⟨l, hl, hrow⟩ := rows_ex (enc := encR) default (z := 6) fun i hi => fit_rw (hg i hi)
  refine ⟨⟨n0, n1, n2, n3, n4, n5, n6, n7, n8, n9, n10, l, n12, n13⟩, fun j hj => ?_⟩
  match j, hj with
  | 0, _ => exact entC_of_eq e0
  | 1, _ => exact entC_of_eq e1
  | 2, _ => exact entC_of_eq e2
  | 3, _ => exact entC_of_eq e3
  | 4, _ => exact entC_of_eq e4
  | 5, _ => exact entC_of_eq e5
  | 6, _ => exact entC_of_eq e6
  | 7, _ => exact entC_of_eq e7
  | 8, _ => exact entC_of_eq e8
  | 9, _ => exact entC_of_eq e9
  | 10, _ => exact entC_of_eq e10
  | 11, _ => rw [e11]; exact hrow
  | 12, _ => exact entC_of_eq e12
  | 13, _ => exact entC_of_eq e13
theorem most_row (l0 : Nat) (z0 : Nat → Nat → XC) (l1 : Nat) (h1 : Nat → Int) (n2 : Int) (_ : l0 ≤ maxLen) (k0 : ∀ i, i < l0 → fitF shRp (z0 i) 0) (_ : l1 ≤ maxLen) (_ : ∀ i, i < l1 → (Lit.int .i64 (h1 i)).wf = true) (_ : (Lit.int .i64 n2).wf = true) :
    Eng.Fn Try.prog 10 [.c (.rs l0 14 z0), .c (.rs l1 1 fun i _ => .i .i64 (h1 i)), .c (.i .i64 n2)] (Tells (.c (.b true))) := by
  obtain ⟨rs, _, er⟩ := rows_ex (enc := encRp) default (z := 14) fun i hi => fit_rp (k0 i hi)
  exact (most_fn rs ((List.range l1).map h1) n2).ask ⟨er, ints_of, entV_refl _, trivial⟩
end Go.Proofs.Ytbhmplbckkipjaa
