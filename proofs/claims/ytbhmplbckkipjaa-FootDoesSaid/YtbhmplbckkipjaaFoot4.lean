/- What the transactions of a client touch. -/
import Derived.Test.YtbhmplbckkipjaaFoot3
import Derived.Test.YtbhmplbckkipjaaEngGg
import Derived.Test.YtbhmplbckkipjaaEngGh
namespace Go.Proofs.Ytbhmplbckkipjaa
open Go Go.Eng Go.RowKit
set_option maxRecDepth 100000
set_option maxHeartbeats 4000000
set_option linter.unusedVariables false
set_option linter.unusedSimpArgs false
structure TxS where
  inn : Bool
  out : List (List Ft)
  now : List Ft
def endT (s : TxS) : TxS := ⟨false, if s.inn = true then s.out ++ [s.now] else s.out, []⟩
def stepT (s : TxS) (o : Opr) : TxS :=
  if ¬ OkP o then s
  else if o.k = 1 then { s with inn := true }
  else if (footO o).2 = true ∧ s.inn = true then { s with now := s.now ++ [(footO o).1] }
  else if (footO o).2 = false then endT s else s
def runT (l : List Opr) (k : Nat) : TxS := (l.take k).foldl stepT ⟨false, [], []⟩
def txsL (l : List Opr) : List (List Ft) := (endT (runT l l.length)).out
abbrev oprsX (l : List Opr) : XC := rowX encO default 7 l
abbrev feetX (l : List Ft) : XC := rowX encF default 6 l
def encFs (l : List Ft) : List XC := [feetX l]
abbrev feetsX (l : List (List Ft)) : XC := rowX encFs [] 1 l
theorem endT_len (s : TxS) : (endT s).out.length ≤ s.out.length + 1 := by
  unfold endT; dsimp only; split <;> simp
theorem stepT_len (s : TxS) (o : Opr) : (stepT s o).out.length ≤ s.out.length + 1 ∧ (stepT s o).now.length ≤ s.now.length + 1 := by
  unfold stepT
  have := endT_len s
  split
  · exact ⟨by omega, by omega⟩
  · split
    · exact ⟨by dsimp only; omega, by dsimp only; omega⟩
    · split
      · exact ⟨by dsimp only; omega, by dsimp only; simp⟩
      · split
        · exact ⟨this, by simp [endT]⟩
        · exact ⟨by omega, by omega⟩
theorem runT_succ (l : List Opr) (k : Nat) (hk : k < l.length) : runT l (k + 1) = stepT (runT l k) (l.getD k default) := foldl_take_succ _ _ _ _ _ hk
theorem runT_len (l : List Opr) : ∀ k, k ≤ l.length → (runT l k).out.length ≤ k ∧ (runT l k).now.length ≤ k
  | 0, _ => ⟨by simp [runT], by simp [runT]⟩
  | k + 1, h => by
    have h1 := runT_len l k (by omega)
    have h2 := stepT_len (runT l k) (l.getD k default)
    rw [runT_succ l k (by omega)]
    omega
theorem footO_st (a : Ft) (b : Bool) : stX (.t [.a (encF a), .c (.b b)]) := by
  intro x hx
  simp only [List.mem_cons, List.not_mem_nil, or_false] at hx
  rcases hx with rfl | rfl
  · exact fun y hy => allSt_iff (l := encF a) rfl y hy
  · trivial
theorem rowX_ent {α : Type} (enc : α → List XC) (d : α) (z : Nat) (l : List α) {xs : List (List XC)} (h : entLL xs (l.map enc)) : entC (rsOf xs z) (rowX enc d z l) := by
  have hl := entLL_len h
  rw [List.length_map] at hl
  refine ⟨hl, rfl, fun i hi j hj => ?_⟩
  have h1 := nthC_ent (nthL_ent h i (by rw [hl]; simpa using hi)) j
  rw [nthL_map _ d l i hi] at h1
  exact h1
theorem feets_now (s : List Ft) : entL [.rs (s.map encF).length 6 (cell2 (s.map encF))] (encFs s) := ⟨rowX_ent encF default 6 s (entLL_refl _), trivial⟩
theorem txs_fn (l : List Opr) (hl : l.length ≤ 10000) : Eng.Fn Try.prog 20 [.c (oprsX l)] (Tells (.c (feetsX (txsL l)))) := by
  refine Eng.Fn.ofZJ tab_ok [100016] Try.func20 (by kernel_rfl) (by kernel_rfl) trivial (fun w0 => ?_)
  conv => whnf
  refine loopx_gh (.nil 0 0 3 46 1 false) ?_
  conv => whnf
  refine loopx_gh (.nil 1 0 4 39 6 false) ?_
  conv => whnf
  refine loopi tab_ok (fun k => k ≤ l.length) (fun k => [(3, .c (.p 0 0)), (4, .c (.p 1 0)), (5, .c (.p 2 0)), (6, .c (.fn 78 3 (nthC [.p 2 0, .p 0 0, .p 1 0]))), (12, .c (oprsX l)), (13, .c (.i .i64 l.length)), (14, .c (.i .i64 k))])
    (fun k => [.cells 43 [.ow 3], .cells 46 [.ow 4], .cells 4 [.b (runT l k).inn], .row 46 1 ((runT l k).out.map encFs), .row 39 6 ((runT l k).now.map encF)]) (fun k => l.length - k) 0 49 rfl (Nat.zero_le _) ?_ (fun k hk => ?_)
  · refine ⟨?_, ?_, rfl⟩ <;> repeat' (first | exact trivial | exact entV_refl _ | exact entL_refl _ | apply And.intro)
    all_goals rfl
  · have hrl := runT_len l k hk
    conv => whnf
    refine And.intro (fun h1 => ?_) (fun h1 => ?_)
    · conv => whnf
      simp only [decide_eq_true_eq] at h1
      have h2 : k < l.length := by omega
      have hs := runT_succ l k h2
      refine ⟨by omega, ?_⟩
      conv => whnf
      generalize hb : l.getD (Int.toNat (k : Int)) default = o
      have hb : l.getD k default = o := hb
      rw [hb] at hs
      refine callx_tells (footOf_fn o) rfl (footO_st _ _) ?_
      conv => whnf
      refine callx_tells (check_fn o) rfl trivial ?_
      conv => whnf
      refine And.intro (fun h3 => ?_) (fun h3 => ?_)
      · have hok : ¬ OkP o := fun h => by simp [okI, h] at h3
        rw [stepT, if_pos hok] at hs
        conv => whnf
        refine regx_go tab_ok ?_
        conv => whnf
        refine ⟨k + 1, by omega, by omega, rfl, ?_⟩
        rw [hs]
        refine ⟨?_, ?_, rfl⟩ <;> repeat' (first | exact trivial | exact entV_refl _ | exact entL_refl _ | exact entLL_refl _ | exact wrap_succ (by omega) | rfl | apply And.intro)
      · have hok : OkP o := by
          by_cases h : OkP o
          · exact h
          · simp [okI, h] at h3
        rw [stepT, if_neg (fun h => h hok)] at hs
        conv => whnf
        refine And.intro (fun h4 => ?_) (fun h4 => ?_)
        · have h4 : o.k = 1 := by simpa using h4
          rw [if_pos h4] at hs
          conv => whnf
          refine regx_go tab_ok ?_
          conv => whnf
          refine ⟨k + 1, by omega, by omega, rfl, ?_⟩
          rw [hs]
          refine ⟨?_, ?_, rfl⟩ <;> repeat' (first | exact trivial | exact entV_refl _ | exact entL_refl _ | exact entLL_refl _ | exact wrap_succ (by omega) | rfl | apply And.intro)
        · have h4 : ¬ o.k = 1 := by simpa using h4
          rw [if_neg h4] at hs
          conv => whnf
          generalize hf : footO o = fo at hs
          obtain ⟨f, is⟩ := fo
          refine And.intro (fun h5 => ?_) (fun h5 => ?_)
          · obtain rfl : is = true := h5
            conv => whnf
            refine And.intro (fun h6 => ?_) (fun h6 => ?_)
            · rw [if_pos ⟨rfl, h6⟩] at hs
              conv => whnf
              refine ⟨by simp only [List.length_map, List.length_cons, List.length_nil]; omega, ?_⟩
              conv => whnf
              refine regx_go tab_ok ?_
              conv => whnf
              refine ⟨k + 1, by omega, by omega, rfl, ?_⟩
              rw [hs]
              refine ⟨?_, ?_, rfl⟩ <;> repeat' (first | exact trivial | exact entV_refl _ | exact entL_refl _ | exact entLL_refl _ | exact wrap_succ (by omega) | rfl | apply And.intro)
              all_goals (rw [List.map_append]; exact entLL_refl _)
            · rw [if_neg (fun h => by rw [h.2] at h6; simp at h6), if_neg (by simp)] at hs
              conv => whnf
              refine And.intro (fun h7 => by simp at h7) (fun _ => ?_)
              conv => whnf
              refine regx_go tab_ok ?_
              conv => whnf
              refine ⟨k + 1, by omega, by omega, rfl, ?_⟩
              rw [hs]
              refine ⟨?_, ?_, rfl⟩ <;> repeat' (first | exact trivial | exact entV_refl _ | exact entL_refl _ | exact entLL_refl _ | exact wrap_succ (by omega) | rfl | apply And.intro)
          · obtain rfl : is = false := h5
            rw [if_neg (fun h => by simp at h), if_pos rfl, endT] at hs
            conv => whnf
            refine And.intro (fun _ => ?_) (fun h7 => by simp at h7)
            conv => whnf
            refine callx_inline tab_ok Try.func78 (by kernel_rfl) (by kernel_rfl) (fun vs => ?_)
            conv => whnf
            refine And.intro (fun h6 => ?_) (fun h6 => ?_)
            · rw [if_pos h6] at hs
              conv => whnf
              refine ⟨by simp only [List.length_map, List.length_cons, List.length_nil]; omega, ?_⟩
              conv => whnf
              refine ⟨rfl, ?_⟩
              conv => whnf
              refine regx_gh (.nil 1 0 4 39 6 false) ?_
              conv => whnf
              refine regx_go tab_ok ?_
              conv => whnf
              refine ⟨k + 1, by omega, by omega, rfl, ?_⟩
              rw [hs]
              refine ⟨?_, ?_, rfl⟩ <;> repeat' (first | exact trivial | exact entV_refl _ | exact entL_refl _ | exact entLL_refl _ | exact wrap_succ (by omega) | rfl | apply And.intro)
              all_goals (rw [List.map_append]; exact entLL_append (entLL_refl _) ⟨feets_now _, trivial⟩)
            · rw [if_neg (by simp [h6])] at hs
              conv => whnf
              refine ⟨rfl, ?_⟩
              conv => whnf
              refine regx_gh (.drop 4) ?_
              conv => whnf
              refine regx_gh (.nil 1 0 4 39 6 false) ?_
              conv => whnf
              refine regx_go tab_ok ?_
              conv => whnf
              refine ⟨k + 1, by omega, by omega, rfl, ?_⟩
              rw [hs]
              refine ⟨?_, ?_, rfl⟩ <;> repeat' (first | exact trivial | exact entV_refl _ | exact entL_refl _ | exact entLL_refl _ | exact wrap_succ (by omega) | rfl | apply And.intro)
    · conv => whnf
      have h1 : k = l.length := by simp at h1; omega
      subst h1
      refine callx_inline tab_ok Try.func78 (by kernel_rfl) (by kernel_rfl) (fun vs => ?_)
      conv => whnf
      refine And.intro (fun h6 => ?_) (fun h6 => ?_)
      · conv => whnf
        refine ⟨by simp only [List.length_map, List.length_cons, List.length_nil]; omega, ?_⟩
        conv => whnf
        refine ⟨rfl, ?_⟩
        conv => whnf
        refine rowX_ent encFs [] 1 (txsL l) ?_
        rw [txsL, endT, if_pos h6, List.map_append]
        exact entLL_append (entLL_refl _) ⟨feets_now _, trivial⟩
      · conv => whnf
        refine ⟨rfl, ?_⟩
        conv => whnf
        refine rowX_ent encFs [] 1 (txsL l) ?_
        rw [txsL, endT, if_neg (by simp [h6])]
        exact entLL_refl _
end Go.Proofs.Ytbhmplbckkipjaa

/- Which feet stand apart. -/
namespace Go.Proofs.Ytbhmplbckkipjaa
open Go Go.Eng Go.RowKit
set_option maxRecDepth 100000
set_option maxHeartbeats 4000000
set_option linter.unusedVariables false
set_option linter.unusedSimpArgs false
def apartB (a b : List Ft) : Bool := a.all fun x => b.all fun y => !fclashB x y
theorem drop_all {α : Type} (d : α) (p : α → Bool) {l : List α} {k : Nat} (h : k < l.length) : (l.drop k).all p = (p (l.getD k d) && (l.drop (k + 1)).all p) := by
  rw [drop_getD d h, List.all_cons]
theorem drop_all_end {α : Type} (p : α → Bool) (l : List α) : (l.drop l.length).all p = true := by
  rw [List.drop_length, List.all_nil]
theorem apart_fn (a b : List Ft) (ha : a.length ≤ 10000) (hb : b.length ≤ 10000) : Eng.Fn Try.prog 26 [.c (feetX a), .c (feetX b)] (Tells (.c (.b (apartB a b)))) := by
  refine Eng.Fn.of tab_ok Try.func26 (by kernel_rfl) (by kernel_rfl) (fun w0 => ?_)
  conv => whnf
  refine loopi tab_ok (fun k => k ≤ a.length ∧ apartB a b = (a.drop k).all fun x => b.all fun y => !fclashB x y) (fun k => [(1, .c (feetX b)), (9, .c (feetX a)), (10, .c (.i .i64 a.length)), (11, .c (.i .i64 k))]) (fun k => []) (fun k => a.length - k) 0 26 rfl ⟨Nat.zero_le _, rfl⟩ ?_ (fun k hk => ?_)
  · refine ⟨?_, ?_, rfl⟩ <;> repeat' (first | exact trivial | exact entV_refl _ | apply And.intro)
    all_goals rfl
  · obtain ⟨hk, hall⟩ := hk
    conv => whnf
    refine And.intro (fun h1 => ?_) (fun h1 => ?_)
    · conv => whnf
      simp only [decide_eq_true_eq] at h1
      have h2 : k < a.length := by omega
      refine ⟨by omega, ?_⟩
      conv => whnf
      rw [drop_all default _ h2] at hall
      generalize he : a.getD (Int.toNat (k : Int)) default = e
      have he : a.getD k default = e := he
      rw [he] at hall
      refine loopi tab_ok (fun m => m ≤ b.length ∧ (b.all fun y => !fclashB e y) = ((b.drop m).all fun y => !fclashB e y)) (fun m => [(1, .c (feetX b)), (6, .c (.p 0 0)), (9, .c (feetX a)), (10, .c (.i .i64 a.length)), (11, .c (.i .i64 k)), (15, .c (feetX b)), (16, .c (.i .i64 b.length)), (17, .c (.i .i64 m))]) (fun m => [.cells 39 (encF e)]) (fun m => b.length - m) 0 26 rfl ⟨Nat.zero_le _, rfl⟩ ?_ (fun m hm => ?_)
      · refine ⟨?_, ?_, rfl⟩ <;> repeat' (first | exact trivial | exact entV_refl _ | apply And.intro)
        all_goals rfl
      · obtain ⟨hm, hin⟩ := hm
        conv => whnf
        refine And.intro (fun h3 => ?_) (fun h3 => ?_)
        · conv => whnf
          simp only [decide_eq_true_eq] at h3
          have h4 : m < b.length := by omega
          refine ⟨by omega, ?_⟩
          conv => whnf
          rw [drop_all default _ h4] at hin
          generalize hg : b.getD (Int.toNat (m : Int)) default = g
          have hg : b.getD m default = g := hg
          rw [hg] at hin
          refine callx_tells (fclash_fn e g) rfl trivial ?_
          conv => whnf
          refine And.intro (fun h5 => ?_) (fun h5 => ?_)
          · conv => whnf
            rw [hall, hin, h5]
            repeat' (first | exact trivial | exact ⟨rfl, rfl⟩ | rfl | apply And.intro)
          · conv => whnf
            rw [h5] at hin
            refine ⟨m + 1, ⟨by omega, by simpa using hin⟩, by omega, rfl, ?_⟩
            refine ⟨?_, ?_, rfl⟩ <;> repeat' (first | exact trivial | exact entV_refl _ | exact wrap_succ (by omega) | rfl | apply And.intro)
        · conv => whnf
          simp only [decide_eq_false_iff_not] at h3
          obtain rfl : m = b.length := by omega
          rw [drop_all_end] at hin
          rw [hin] at hall
          refine ⟨k + 1, ⟨by omega, by simpa using hall⟩, by omega, rfl, ?_⟩
          refine ⟨?_, ?_, rfl⟩ <;> repeat' (first | exact trivial | exact entV_refl _ | exact wrap_succ (by omega) | rfl | apply And.intro)
    · conv => whnf
      simp only [decide_eq_false_iff_not] at h1
      obtain rfl : k = a.length := by omega
      rw [drop_all_end] at hall
      rw [hall]
      repeat' (first | exact trivial | exact ⟨rfl, rfl⟩ | rfl | apply And.intro)
def pairB (l o : List Opr) : Bool := (txsL l).all fun a => (txsL o).all fun b => apartB a b
def rowB (ops : List (List Opr)) (k : Nat) : Bool := (ops.take k).all fun o => pairB (ops.getD k []) o
def freeB (ops : List (List Opr)) : Bool := (List.range ops.length).all (rowB ops)
def encOps (l : List Opr) : List XC := [oprsX l]
abbrev opsX (l : List (List Opr)) : XC := rowX encOps [] 1 l
theorem runT_lens (l : List Opr) : ∀ k, k ≤ l.length → ∀ x ∈ (runT l k).out, x.length ≤ k
  | 0, _ => fun x hx => by simp [runT] at hx
  | k + 1, h => fun x hx => by
    have ih := runT_lens l k (by omega)
    have hn := (runT_len l k (by omega)).2
    rw [runT_succ l k (by omega), stepT] at hx
    split at hx
    · have := ih x hx; omega
    · split at hx
      · have := ih x hx; omega
      · split at hx
        · have := ih x hx; omega
        · split at hx
          · unfold endT at hx
            dsimp only at hx
            split at hx
            · rcases List.mem_append.1 hx with hx | hx
              · have := ih x hx; omega
              · have := List.mem_singleton.1 hx; subst this; omega
            · have := ih x hx; omega
          · have := ih x hx; omega
theorem txsL_len (l : List Opr) : (txsL l).length ≤ l.length + 1 := by
  have h1 := endT_len (runT l l.length)
  have h2 := (runT_len l l.length (by omega)).1
  unfold txsL; omega
theorem txsL_lens (l : List Opr) (x : List Ft) (hx : x ∈ txsL l) : x.length ≤ l.length := by
  have h1 := runT_lens l l.length (by omega)
  have h2 := (runT_len l l.length (by omega)).2
  unfold txsL endT at hx
  dsimp only at hx
  split at hx
  · rcases List.mem_append.1 hx with hx | hx
    · exact h1 x hx
    · have := List.mem_singleton.1 hx; subst this; exact h2
  · exact h1 x hx
theorem getD_mem2 {α : Type} (d : α) : ∀ {l : List α} {k : Nat}, k < l.length → l.getD k d ∈ l
  | [], _, h => absurd h (by simp)
  | a :: l, 0, _ => by simp
  | a :: l, k + 1, h => by
    have := getD_mem2 d (l := l) (k := k) (by simpa using h)
    simpa using Or.inr this
theorem txsL_get (l : List Opr) (i : Nat) (h : i < (txsL l).length) : ((txsL l).getD i []).length ≤ l.length := by
  exact txsL_lens l _ (getD_mem2 _ h)
theorem getD_lens {ops : List (List Opr)} {n : Nat} (h : ∀ l ∈ ops, l.length ≤ n) {k : Nat} (hk : k < ops.length) : (ops.getD k []).length ≤ n := by
  exact h _ (getD_mem2 _ hk)
theorem free_fn (ops : List (List Opr)) (ho : ops.length ≤ 10000) (hl : ∀ l ∈ ops, l.length ≤ 5000) : Eng.Fn Try.prog 27 [.c (opsX ops)] (Tells (.c (.b (freeB ops)))) := by
  refine Eng.Fn.of tab_ok Try.func27 (by kernel_rfl) (by kernel_rfl) (fun w0 => ?_)
  conv => whnf
  refine loopi tab_ok (fun k => k ≤ ops.length ∧ freeB ops = ((List.range ops.length).drop k).all (rowB ops)) (fun k => [(0, .c (opsX ops)), (11, .c (opsX ops)), (12, .c (.i .i64 ops.length)), (13, .c (.i .i64 k))]) (fun k => []) (fun k => ops.length - k) 0 48 rfl ⟨Nat.zero_le _, rfl⟩ ?_ (fun k hk => ?_)
  · refine ⟨?_, ?_, rfl⟩ <;> repeat' (first | exact trivial | exact entV_refl _ | apply And.intro)
    all_goals rfl
  · obtain ⟨hk, hall⟩ := hk
    conv => whnf
    refine And.intro (fun h1 => ?_) (fun h1 => ?_)
    · conv => whnf
      simp only [decide_eq_true_eq] at h1
      have h2 : k < ops.length := by omega
      have hr : (List.range ops.length).getD k 0 = k := by simp [List.getD, h2]
      refine ⟨by omega, ?_⟩
      conv => whnf
      rw [drop_all 0 _ (by simpa using h2), hr] at hall
      have hlk := getD_lens hl h2
      generalize he : ops.getD (Int.toNat (k : Int)) default = l
      have he : ops.getD k [] = l := he
      have hrow : rowB ops k = (ops.take k).all fun o => pairB l o := by rw [← he]; rfl
      rw [hrow] at hall
      rw [he] at hlk
      refine ⟨⟨by omega, by omega⟩, ?_⟩
      conv => whnf
      have hkk : (ops.take k).length = k := by rw [List.length_take]; omega
      refine loopi tab_ok (fun m => m ≤ k ∧ ((ops.take k).all fun o => pairB l o) = (((ops.take k).drop m).all fun o => pairB l o)) (fun m => [(0, .c (opsX ops)), (4, .c (oprsX l)), (11, .c (opsX ops)), (12, .c (.i .i64 ops.length)), (13, .c (.i .i64 k)), (20, .c (.rs k 1 (fun i j => nthC (encOps (ops.getD i [])) j))), (21, .c (.i .i64 k)), (22, .c (.i .i64 m))]) (fun m => []) (fun m => k - m) 0 48 rfl ⟨Nat.zero_le _, rfl⟩ ?_ (fun m hm => ?_)
      · refine ⟨?_, ?_, rfl⟩ <;> repeat' (first | exact trivial | exact entV_refl _ | exact wrap_succ (by omega) | rfl | apply And.intro)
      · obtain ⟨hm, hin⟩ := hm
        conv => whnf
        refine And.intro (fun h3 => ?_) (fun h3 => ?_)
        · conv => whnf
          simp only [decide_eq_true_eq] at h3
          have h4 : m < k := by omega
          refine ⟨by omega, ?_⟩
          conv => whnf
          rw [drop_all [] _ (by omega)] at hin
          have hlm := getD_lens hl (k := m) (by omega)
          have htk : (ops.take k).getD m [] = ops.getD m [] := by simp [List.getD, List.getElem?_take, h4]
          rw [htk] at hin
          generalize hg : ops.getD (Int.toNat (m : Int)) default = o
          have hg : ops.getD m [] = o := hg
          rw [hg] at hin hlm
          have hp : pairB l o = (txsL l).all fun a => (txsL o).all fun b => apartB a b := rfl
          refine callx_tells (txs_fn l (by omega)) rfl trivial ?_
          conv => whnf
          have htl := txsL_len l
          have hto := txsL_len o
          refine loopi tab_ok (fun u => u ≤ (txsL l).length ∧ pairB l o = (((txsL l).drop u).all fun a => (txsL o).all fun b => apartB a b)) (fun u => [(0, .c (opsX ops)), (4, .c (oprsX l)), (6, .c (oprsX o)), (11, .c (opsX ops)), (12, .c (.i .i64 ops.length)), (13, .c (.i .i64 k)), (20, .c (.rs k 1 (fun i j => nthC (encOps (ops.getD i [])) j))), (21, .c (.i .i64 k)), (22, .c (.i .i64 m)), (27, .c (feetsX (txsL l))), (28, .c (.i .i64 (txsL l).length)), (29, .c (.i .i64 u))]) (fun u => []) (fun u => (txsL l).length - u) 0 48 rfl ⟨Nat.zero_le _, rfl⟩ ?_ (fun u hu => ?_)
          · refine ⟨?_, ?_, rfl⟩ <;> repeat' (first | exact trivial | exact entV_refl _ | exact wrap_succ (by omega) | rfl | apply And.intro)
          · obtain ⟨hu, hiu⟩ := hu
            conv => whnf
            refine And.intro (fun h5 => ?_) (fun h5 => ?_)
            · conv => whnf
              simp only [decide_eq_true_eq] at h5
              have h6 : u < (txsL l).length := by omega
              refine ⟨by omega, ?_⟩
              conv => whnf
              rw [drop_all [] _ h6] at hiu
              have hla := txsL_get l u h6
              generalize ha : (txsL l).getD (Int.toNat (u : Int)) [] = a
              have ha : (txsL l).getD u [] = a := ha
              rw [ha] at hiu hla
              refine callx_tells (txs_fn o (by omega)) rfl trivial ?_
              conv => whnf
              refine loopi tab_ok (fun w => w ≤ (txsL o).length ∧ ((txsL o).all fun b => apartB a b) = (((txsL o).drop w).all fun b => apartB a b)) (fun w => [(0, .c (opsX ops)), (4, .c (oprsX l)), (6, .c (oprsX o)), (8, .c (feetX a)), (11, .c (opsX ops)), (12, .c (.i .i64 ops.length)), (13, .c (.i .i64 k)), (20, .c (.rs k 1 (fun i j => nthC (encOps (ops.getD i [])) j))), (21, .c (.i .i64 k)), (22, .c (.i .i64 m)), (27, .c (feetsX (txsL l))), (28, .c (.i .i64 (txsL l).length)), (29, .c (.i .i64 u)), (34, .c (feetsX (txsL o))), (35, .c (.i .i64 (txsL o).length)), (36, .c (.i .i64 w))]) (fun w => []) (fun w => (txsL o).length - w) 0 48 rfl ⟨Nat.zero_le _, rfl⟩ ?_ (fun w hw => ?_)
              · refine ⟨?_, ?_, rfl⟩ <;> repeat' (first | exact trivial | exact entV_refl _ | exact wrap_succ (by omega) | rfl | apply And.intro)
              · obtain ⟨hw, hiw⟩ := hw
                conv => whnf
                refine And.intro (fun h7 => ?_) (fun h7 => ?_)
                · conv => whnf
                  simp only [decide_eq_true_eq] at h7
                  have h8 : w < (txsL o).length := by omega
                  refine ⟨by omega, ?_⟩
                  conv => whnf
                  rw [drop_all [] _ h8] at hiw
                  have hlb := txsL_get o w h8
                  generalize hb : (txsL o).getD (Int.toNat (w : Int)) [] = b
                  have hb : (txsL o).getD w [] = b := hb
                  rw [hb] at hiw hlb
                  refine callx_tells (apart_fn a b (by omega) (by omega)) rfl trivial ?_
                  conv => whnf
                  refine And.intro (fun h9 => ?_) (fun h9 => ?_)
                  · conv => whnf
                    have h9 : apartB a b = false := by simpa using h9
                    rw [hall, hin, hiu, hiw, h9]
                    repeat' (first | exact trivial | exact ⟨rfl, rfl⟩ | rfl | apply And.intro)
                  · conv => whnf
                    have h9 : apartB a b = true := by simpa using h9
                    rw [h9] at hiw
                    refine ⟨w + 1, ⟨by omega, by simpa using hiw⟩, by omega, rfl, ?_⟩
                    refine ⟨?_, ?_, rfl⟩ <;> repeat' (first | exact trivial | exact entV_refl _ | exact wrap_succ (by omega) | rfl | apply And.intro)
                · conv => whnf
                  simp only [decide_eq_false_iff_not] at h7
                  obtain rfl : w = (txsL o).length := by omega
                  rw [drop_all_end] at hiw
                  rw [hiw] at hiu
                  refine ⟨u + 1, ⟨by omega, by simpa using hiu⟩, by omega, rfl, ?_⟩
                  refine ⟨?_, ?_, rfl⟩ <;> repeat' (first | exact trivial | exact entV_refl _ | exact wrap_succ (by omega) | rfl | apply And.intro)
            · conv => whnf
              simp only [decide_eq_false_iff_not] at h5
              obtain rfl : u = (txsL l).length := by omega
              rw [drop_all_end] at hiu
              rw [hiu] at hin
              refine ⟨m + 1, ⟨by omega, by simpa using hin⟩, by omega, rfl, ?_⟩
              refine ⟨?_, ?_, rfl⟩ <;> repeat' (first | exact trivial | exact entV_refl _ | exact wrap_succ (by omega) | rfl | apply And.intro)
        · conv => whnf
          simp only [decide_eq_false_iff_not] at h3
          obtain rfl : m = k := by omega
          rw [List.drop_eq_nil_of_le (by omega)] at hin
          rw [hin] at hall
          refine ⟨m + 1, ⟨by omega, by simpa using hall⟩, by omega, rfl, ?_⟩
          refine ⟨?_, ?_, rfl⟩ <;> repeat' (first | exact trivial | exact entV_refl _ | exact wrap_succ (by omega) | rfl | apply And.intro)
    · conv => whnf
      simp only [decide_eq_false_iff_not] at h1
      obtain rfl : k = ops.length := by omega
      rw [show (List.range ops.length).drop ops.length = [] from by simp] at hall
      rw [hall]
      repeat' (first | exact trivial | exact ⟨rfl, rfl⟩ | rfl | apply And.intro)
end Go.Proofs.Ytbhmplbckkipjaa

/- FootSides: clashing goes both ways. -/
namespace Go.Proofs.Ytbhmplbckkipjaa
open Go Go.Eng Go.RowKit
set_option maxRecDepth 100000
set_option maxHeartbeats 4000000
set_option linter.unusedVariables false
set_option linter.unusedSimpArgs false
def opB : Opr := ⟨1, default, 0⟩
def opR : Opr := ⟨2, ⟨1, 1, 1, 1, 4⟩, 0⟩
def opW : Opr := ⟨4, ⟨1, 1, 1, 1, 4⟩, 0⟩
theorem free_yes : freeB [[opB, opR], [opB, opR]] = true := by decide
theorem free_no : freeB [[opB, opR], [opB, opW]] = false := by decide
theorem meet_sym (a b : Ft) : meetB a b = meetB b a := by unfold meetB; rw [Bool.or_comm]
theorem fcP_sym (a b : Ft) : FcP a b ↔ FcP b a := by unfold FcP; omega
theorem clash_sym (a b : Ft) : fclashB a b = fclashB b a := by unfold fclashB; rw [meet_sym a b]; congr 1; exact decide_eq_decide.2 (fcP_sym a b)
theorem clash_read (p q : Pth) : fclashB ⟨p, 1⟩ ⟨q, 1⟩ = false := fclash_no (by unfold FcP; dsimp only; omega)
theorem clash_meet (a b : Ft) (h : fclashB a b = true) : meetB a b = true := by unfold fclashB at h; simp at h; exact h.2
theorem free_one (l : List Opr) : freeB [l] = true := rfl
theorem free_nil : freeB [] = true := rfl
theorem ft_awake : Eng.Fn Try.prog 16 [] (Tells (.c (.b true))) := by
  refine Eng.Fn.of tab_ok Try.func16 (by kernel_rfl) (by kernel_rfl) (fun w0 => ?_)
  conv => whnf
  refine drawx_plan tab_ok [] (.take 0 (.take 1 (.take 2 (.take 3 (.two 4 5 (.one 5 (.one 6 (.one 7 (.done)))) (.one 4 (.one 6 (.one 7 (.done))))))))) (by kernel_rfl) (by kernel_rfl) (by kernel_rfl) ?_
  conv => whnf
  refine ⟨?_, ?_⟩
  all_goals
    conv => whnf
    have h1 := free_fn [[opB, opR], [opB, opR]] (by decide) (by decide)
    rw [free_yes] at h1
    refine callx_lent h1 ⟨rowX_ent encOps [] 1 [[opB, opR], [opB, opR]] ⟨⟨rowX_ent encO default 7 [opB, opR] ?_, trivial⟩, ⟨⟨rowX_ent encO default 7 [opB, opR] ?_, trivial⟩, trivial⟩⟩, trivial⟩ rfl rfl ?_
    · repeat' (first | exact trivial | exact ⟨rfl, rfl⟩ | apply And.intro)
    · repeat' (first | exact trivial | exact ⟨rfl, rfl⟩ | apply And.intro)
    conv => whnf
    refine And.intro (fun _ => ?_) (fun h => absurd h (by decide))
    conv => whnf
    have h2 := free_fn [[opB, opR], [opB, opW]] (by decide) (by decide)
    rw [free_no] at h2
    refine callx_lent h2 ⟨rowX_ent encOps [] 1 [[opB, opR], [opB, opW]] ⟨⟨rowX_ent encO default 7 [opB, opR] ?_, trivial⟩, ⟨⟨rowX_ent encO default 7 [opB, opW] ?_, trivial⟩, trivial⟩⟩, trivial⟩ rfl rfl ?_
    · repeat' (first | exact trivial | exact ⟨rfl, rfl⟩ | apply And.intro)
    · repeat' (first | exact trivial | exact ⟨rfl, rfl⟩ | apply And.intro)
    conv => whnf
    first | rfl | trace_state
theorem fsides_fn (a b : Ft) (l : List Opr) : Eng.Fn Try.prog 5 [.a (encF a), .a (encF b), .c (oprsX l)] (Tells (.c (.b true))) := by
  refine Eng.Fn.of tab_ok Try.func5 (by kernel_rfl) (by kernel_rfl) (fun w0 => ?_)
  conv => whnf
  refine callx_as (.c .bt) ft_awake rfl rfl trivial ?_
  conv => whnf
  refine And.intro (fun h1 => ?_) (fun h1 => ?_)
  · conv => whnf
  · have hl : l.length ≤ 20 := by simp at h1; omega
    conv => whnf
    refine drawx_plan tab_ok [] (.take 0 (.take 1 (.two 2 3 (.one 3 (.one 4 (.one 5 (.done)))) (.one 2 (.one 4 (.one 5 (.done))))))) (by kernel_rfl) (by kernel_rfl) (by kernel_rfl) ?_
    conv => whnf
    refine ⟨?_, ?_⟩
    all_goals
      conv => whnf
      refine drawx_pure tab_ok (by kernel_rfl) (by kernel_rfl) ?_
      conv => whnf
      refine callp_tells (fclash_fn a b) rfl trivial ?_
      conv => whnf
      have h2 := fclash_fn b a
      rw [clash_sym b a] at h2
      refine callp_tells h2 rfl trivial ?_
      conv => whnf
      refine And.intro (fun _ => ?_) (fun h => absurd h (by simp))
      conv => whnf
      refine callp_tells (meet_fn a b) rfl trivial ?_
      conv => whnf
      have h3 := meet_fn b a
      rw [meet_sym b a] at h3
      refine callp_tells h3 rfl trivial ?_
      conv => whnf
      refine And.intro (fun _ => ?_) (fun h => absurd h (by simp))
      conv => whnf
      have h4 := fclash_fn ⟨a.p, 1⟩ ⟨b.p, 1⟩
      rw [clash_read] at h4
      refine callp_lent h4 ⟨?_, ?_, trivial⟩ rfl rfl ?_
      · repeat' (first | exact trivial | exact ⟨rfl, rfl⟩ | exact entC_refl _ | apply And.intro)
      · repeat' (first | exact trivial | exact ⟨rfl, rfl⟩ | exact entC_refl _ | apply And.intro)
      conv => whnf
      refine And.intro (fun _ => ?_) (fun h => absurd h (by simp))
      conv => whnf
      have h5 := fclash_fn a b
      cases hx : fclashB a b
      · rw [hx] at h5
        refine callp_tells h5 rfl trivial ?_
        conv => whnf
        refine And.intro (fun _ => ?_) (fun h => absurd h (by simp))
        conv => whnf
        have h7 := free_fn [l] (by simp) (by intro x hxx; obtain rfl := List.mem_singleton.1 hxx; omega)
        rw [free_one] at h7
        refine callp_lent h7 ⟨rowX_ent encOps [] 1 [l] (entLL_refl _), trivial⟩ rfl rfl ?_
        conv => whnf
        refine And.intro (fun _ => ?_) (fun h => absurd h (by simp))
        conv => whnf
        have h8 := free_fn [] (by simp) (by simp)
        rw [free_nil] at h8
        refine callp_lent h8 ⟨⟨rfl, rfl⟩, trivial⟩ rfl rfl ?_
        conv => whnf
        first | rfl | trace_state
      · rw [hx] at h5
        refine callp_tells h5 rfl trivial ?_
        conv => whnf
        refine And.intro (fun h => absurd h (by simp)) (fun _ => ?_)
        conv => whnf
        have h6 := meet_fn a b
        rw [clash_meet a b hx] at h6
        refine callp_tells h6 rfl trivial ?_
        conv => whnf
        refine And.intro (fun _ => ?_) (fun h => absurd h (by simp))
        conv => whnf
        have h7 := free_fn [l] (by simp) (by intro x hxx; obtain rfl := List.mem_singleton.1 hxx; omega)
        rw [free_one] at h7
        refine callp_lent h7 ⟨rowX_ent encOps [] 1 [l] (entLL_refl _), trivial⟩ rfl rfl ?_
        conv => whnf
        refine And.intro (fun _ => ?_) (fun h => absurd h (by simp))
        conv => whnf
        have h8 := free_fn [] (by simp) (by simp)
        rw [free_nil] at h8
        refine callp_lent h8 ⟨⟨rfl, rfl⟩, trivial⟩ rfl rfl ?_
        conv => whnf
        first | rfl | trace_state
abbrev shO : List Sh := [.int .i64, .int .i64, .int .i64, .int .i64, .int .i64, .int .i64, .int .i64]
theorem fit_op {f : Nat → XC} (h : fitF shO f 0) : ∃ r : Opr, ∀ j, j < 7 → entC (f j) (nthC (encO r) j) := by
  obtain ⟨⟨n0, e0⟩, h⟩ := fitF_int h
  obtain ⟨⟨n1, e1⟩, h⟩ := fitF_int h
  obtain ⟨⟨n2, e2⟩, h⟩ := fitF_int h
  obtain ⟨⟨n3, e3⟩, h⟩ := fitF_int h
  obtain ⟨⟨n4, e4⟩, h⟩ := fitF_int h
  obtain ⟨⟨n5, e5⟩, h⟩ := fitF_int h
  obtain ⟨⟨n6, e6⟩, _⟩ := fitF_int h
  refine ⟨⟨n0, ⟨n1, n2, n3, n4, n5⟩, n6⟩, fun j hj => entC_of_eq ?_⟩
  match j, hj with
  | 0, _ => exact e0
  | 1, _ => exact e1
  | 2, _ => exact e2
  | 3, _ => exact e3
  | 4, _ => exact e4
  | 5, _ => exact e5
  | 6, _ => exact e6
theorem ints_op (f : Nat → Int) : ∃ r : Opr, ∀ j, j < 7 → entC (.i .i64 (f j)) (nthC (encO r) j) := by
  refine ⟨⟨f 0, ⟨f 1, f 2, f 3, f 4, f 5⟩, f 6⟩, fun j hj => entC_of_eq ?_⟩
  match j, hj with
  | 0, _ => rfl
  | 1, _ => rfl
  | 2, _ => rfl
  | 3, _ => rfl
  | 4, _ => rfl
  | 5, _ => rfl
  | 6, _ => rfl
theorem fsides_row (a0 a1 a2 a3 a4 a5 b0 b1 b2 b3 b4 b5 : Int) (lc : Nat) (zc : Nat → Nat → Int)
    (_ : (Lit.int .i64 a0).wf = true) (_ : (Lit.int .i64 a1).wf = true) (_ : (Lit.int .i64 a2).wf = true) (_ : (Lit.int .i64 a3).wf = true) (_ : (Lit.int .i64 a4).wf = true) (_ : (Lit.int .i64 a5).wf = true) (_ : (Lit.int .i64 b0).wf = true) (_ : (Lit.int .i64 b1).wf = true) (_ : (Lit.int .i64 b2).wf = true) (_ : (Lit.int .i64 b3).wf = true) (_ : (Lit.int .i64 b4).wf = true) (_ : (Lit.int .i64 b5).wf = true) (mc : lc ≤ maxLen) (kc : ∀ i, i < lc → ∀ j, j < 7 → (Lit.int .i64 (zc i j)).wf = true) :
    Eng.Fn Try.prog 5 [.a [.i .i64 a0, .i .i64 a1, .i .i64 a2, .i .i64 a3, .i .i64 a4, .i .i64 a5], .a [.i .i64 b0, .i .i64 b1, .i .i64 b2, .i .i64 b3, .i .i64 b4, .i .i64 b5], .c (.rs lc 7 fun i j => .i .i64 (zc i j))] (Tells (.c (.b true))) := by
  obtain ⟨l, hl, el⟩ := rows_ex (enc := encO) default (z := 7) (n := lc) fun i hi => ints_op (zc i)
  exact (fsides_fn ⟨⟨a0, a1, a2, a3, a4⟩, a5⟩ ⟨⟨b0, b1, b2, b3, b4⟩, b5⟩ l).ask ⟨entV_refl _, entV_refl _, el, trivial⟩
end Go.Proofs.Ytbhmplbckkipjaa

/- What the transactions of a client touch: the reference's own way. -/
namespace Go.Proofs.Ytbhmplbckkipjaa
open Go Go.Eng Go.RowKit
set_option maxRecDepth 100000
set_option maxHeartbeats 4000000
set_option linter.unusedVariables false
set_option linter.unusedSimpArgs false
structure RxS where
  inn : Bool
  out : List (List Ft)
/-- The last row grows. -/
def addLast (l : List (List Ft)) (f : Ft) : List (List Ft) := l.set (l.length - 1) (l.getD (l.length - 1) [] ++ [f])
def stepR1 (s : RxS) (o : Opr) : RxS := if o.k = 1 ∧ s.inn = false then ⟨true, s.out ++ [[]]⟩ else s
def stepR2 (s : RxS) (o : Opr) : RxS := if o.k = 6 ∨ o.k = 7 then ⟨false, s.out⟩ else s
def stepR3 (s : RxS) (o : Opr) : RxS := if (footO o).2 = true ∧ s.inn = true then ⟨s.inn, addLast s.out (footO o).1⟩ else s
def stepR (s : RxS) (o : Opr) : RxS := if ¬ OkP o then s else stepR3 (stepR2 (stepR1 s o) o) o
def runR (l : List Opr) (k : Nat) : RxS := (l.take k).foldl stepR ⟨false, []⟩
theorem runR_succ (l : List Opr) (k : Nat) (hk : k < l.length) : runR l (k + 1) = stepR (runR l k) (l.getD k default) := foldl_take_succ _ _ _ _ _ hk
def RxT (r : RxS) (t : TxS) : Prop := r.inn = t.inn ∧ r.out = (endT t).out ∧ (t.inn = false → t.now = [])
theorem addLast_snoc (l : List (List Ft)) (x : List Ft) (f : Ft) : addLast (l ++ [x]) f = l ++ [x ++ [f]] := by
  unfold addLast
  have h : (l ++ [x]).length - 1 = l.length := by simp
  rw [h]
  simp [List.getD]
theorem kinds3 {o : Opr} (hok : OkP o) : (o.k = 1 ∧ ∃ f, footO o = (f, false)) ∨ ((o.k = 6 ∨ o.k = 7) ∧ o.k ≠ 1 ∧ ∃ f, footO o = (f, false)) ∨ (o.k ≠ 1 ∧ o.k ≠ 6 ∧ o.k ≠ 7 ∧ ∃ f, footO o = (f, true)) := by
  have hf : (footO o).2 = decide (lvI o.k ≠ 0) := by unfold footO; split <;> simp_all
  have hr : 1 ≤ o.k ∧ o.k ≤ 7 := by unfold OkP at hok; omega
  have hc : (o.k = 1 ∧ lvI o.k = 0) ∨ ((o.k = 6 ∨ o.k = 7) ∧ o.k ≠ 1 ∧ lvI o.k = 0) ∨ (o.k ≠ 1 ∧ o.k ≠ 6 ∧ o.k ≠ 7 ∧ lvI o.k ≠ 0) := by
    unfold lvI
    have : o.k = 1 ∨ o.k = 2 ∨ o.k = 3 ∨ o.k = 4 ∨ o.k = 5 ∨ o.k = 6 ∨ o.k = 7 := by omega
    rcases this with e | e | e | e | e | e | e <;> rw [e] <;> decide
  rcases hc with ⟨e1, e2⟩ | ⟨e1, e2, e3⟩ | ⟨e1, e2, e3, e4⟩
  · exact .inl ⟨e1, (footO o).1, Prod.ext rfl (by rw [hf, e2]; rfl)⟩
  · exact .inr (.inl ⟨e1, e2, (footO o).1, Prod.ext rfl (by rw [hf, e3]; rfl)⟩)
  · exact .inr (.inr ⟨e1, e2, e3, (footO o).1, Prod.ext rfl (by rw [hf]; simpa using e4)⟩)
theorem step_same {r : RxS} {t : TxS} (o : Opr) (h : RxT r t) : RxT (stepR r o) (stepT t o) := by
  obtain ⟨h1, h2, h3⟩ := h
  obtain ⟨ri, ro⟩ := r
  obtain ⟨ti, to, tn⟩ := t
  dsimp only at h1 h2 h3
  subst h1
  unfold stepR stepT
  by_cases hok : OkP o
  · rw [if_neg (fun h => h hok), if_neg (fun h => h hok)]
    have hf : (footO o).2 = decide (lvI o.k ≠ 0) := by unfold footO; split <;> simp_all
    have hr : 1 ≤ o.k ∧ o.k ≤ 7 := by unfold OkP at hok; omega
    have hc : (o.k = 1 ∧ lvI o.k = 0) ∨ ((o.k = 6 ∨ o.k = 7) ∧ o.k ≠ 1 ∧ lvI o.k = 0) ∨ (o.k ≠ 1 ∧ ¬ (o.k = 6 ∨ o.k = 7) ∧ lvI o.k ≠ 0) := by
      unfold lvI
      have : o.k = 1 ∨ o.k = 2 ∨ o.k = 3 ∨ o.k = 4 ∨ o.k = 5 ∨ o.k = 6 ∨ o.k = 7 := by omega
      rcases this with e | e | e | e | e | e | e <;> rw [e] <;> decide
    rcases hc with ⟨e1, e2⟩ | ⟨e1, e2, e3⟩ | ⟨e1, e2, e3⟩
    · have hf : (footO o).2 = false := by rw [hf, e2]; rfl
      have hn : ¬ (o.k = 6 ∨ o.k = 7) := by omega
      cases ri
      · have h3 : tn = [] := h3 rfl
        simp [stepR3, stepR2, stepR1, hf, e1, RxT, endT] at h2 ⊢
        exact ⟨h2, h3⟩
      · simp [stepR3, stepR2, stepR1, hf, e1, RxT, endT] at h2 ⊢
        exact h2
    · have hf : (footO o).2 = false := by rw [hf, e3]; rfl
      simp [stepR3, stepR2, stepR1, hf, e1, e2, RxT, endT] at h2 ⊢
      exact h2
    · have hf : (footO o).2 = true := by rw [hf]; simpa using e3
      cases ri
      · simp [stepR3, stepR2, stepR1, hf, e1, e2, RxT, endT] at h2 ⊢
        exact ⟨h2, h3 rfl⟩
      · simp [stepR3, stepR2, stepR1, hf, e1, e2, RxT, endT] at h2 ⊢
        rw [h2, addLast_snoc]
  · rw [if_pos hok, if_pos hok]
    exact ⟨rfl, h2, h3⟩
theorem run_same (l : List Opr) : ∀ k, k ≤ l.length → RxT (runR l k) (runT l k)
  | 0, _ => ⟨rfl, rfl, fun _ => rfl⟩
  | k + 1, h => by
    rw [runR_succ l k h, runT_succ l k h]
    exact step_same _ (run_same l k (by omega))
theorem runR_txs (l : List Opr) : (runR l l.length).out = txsL l := (run_same l l.length (by omega)).2.1
theorem endT_len1 (t : TxS) : t.inn = true → 1 ≤ (endT t).out.length := by
  intro h; simp [endT, h]
theorem runR_pos (l : List Opr) (k : Nat) (hk : k ≤ l.length) (h : (runR l k).inn = true) : 1 ≤ (runR l k).out.length := by
  obtain ⟨h1, h2, _⟩ := run_same l k hk
  rw [h2]; exact endT_len1 _ (by rw [← h1]; exact h)
theorem runR_len (l : List Opr) (k : Nat) (hk : k ≤ l.length) : (runR l k).out.length ≤ k + 1 := by
  obtain ⟨h1, h2, _⟩ := run_same l k hk
  have := endT_len (runT l k)
  have := (runT_len l k hk).1
  rw [h2]; omega
theorem runR_lens (l : List Opr) (k : Nat) (hk : k ≤ l.length) (x : List Ft) (hx : x ∈ (runR l k).out) : x.length ≤ k := by
  obtain ⟨h1, h2, _⟩ := run_same l k hk
  rw [h2] at hx
  have h4 := runT_lens l k hk
  have h5 := (runT_len l k hk).2
  unfold endT at hx
  dsimp only at hx
  split at hx
  · rcases List.mem_append.1 hx with hx | hx
    · exact h4 x hx
    · have := List.mem_singleton.1 hx; subst this; exact h5
  · exact h4 x hx
/-- An element of the reference's row: nothing yet, or a row of its own. -/
def feetA (s : List Ft) : AbsL := match s with
  | [] => PackL [.v (.slice none 0 0)] []
  | _ => PackL [.ow 0] [.row 39 6 (s.map encF)]
theorem rtxs_fn (l : List Opr) (hl : l.length ≤ 10000) : Eng.Fn Try.prog 21 [.c (oprsX l)] (Tells (.c (feetsX (txsL l)))) := by
  refine Eng.Fn.ofZJ tab_ok [100015] Try.func21 (by kernel_rfl) (by kernel_rfl) trivial (fun w0 => ?_)
  conv => whnf
  refine loopx_nilp 3 46 1 rfl ?_
  conv => whnf
  refine loopi tab_ok (fun k => k ≤ l.length) (fun k => [(3, .c (.ow 0)), (4, .c (.b (runR l k).inn)), (9, .c (oprsX l)), (10, .c (.i .i64 l.length)), (11, .c (.i .i64 k))])
    (fun k => [.prow 46 1 ((runR l k).out.map feetA) none]) (fun k => l.length - k) 0 61 rfl (Nat.zero_le _) ?_ (fun k hk0 => ?_)
  · refine ⟨?_, ?_, rfl⟩ <;> repeat' (first | exact trivial | exact entV_refl _ | exact entL_refl _ | rfl | apply And.intro)
  · conv => whnf
    refine And.intro (fun h1 => ?_) (fun h1 => ?_)
    · conv => whnf
      simp only [decide_eq_true_eq] at h1
      have h2 : k < l.length := by omega
      have hs := runR_succ l k h2
      refine ⟨by omega, ?_⟩
      conv => whnf
      generalize hb : l.getD (Int.toNat (k : Int)) default = o
      have hb : l.getD k default = o := hb
      rw [hb] at hs
      refine callx_tells (refCheck_fn o) rfl trivial ?_
      conv => whnf
      refine And.intro (fun h3 => ?_) (fun h3 => ?_)
      · have hok : ¬ OkP o := fun h => by simp [okI, h] at h3
        rw [stepR, if_pos hok] at hs
        conv => whnf
        refine regx_go tab_ok ?_
        conv => whnf
        refine ⟨k + 1, by omega, by omega, rfl, ?_⟩
        rw [hs]
        refine ⟨?_, ?_, rfl⟩ <;> repeat' (first | exact trivial | exact entV_refl _ | exact leA_refl _ | exact wrap_succ (by omega) | rfl | apply And.intro)
      · have hok : OkP o := by
          by_cases h : OkP o
          · exact h
          · simp [okI, h] at h3
        rw [stepR, if_neg (fun h => h hok)] at hs
        conv => whnf
        rcases kinds3 hok with ⟨hk, f, hf⟩ | ⟨hk, hk1, f, hf⟩ | ⟨hk1, hk6, hk7, f, hf⟩
        · have hk6 : ¬ (o.k = 6 ∨ o.k = 7) := by omega
          refine And.intro (fun _ => ?_) (fun h => absurd h (by simp [hk]))
          conv => whnf
          refine And.intro (fun h4 => ?_) (fun h4 => ?_)
          · have h4 : (runR l k).inn = false := by simpa using h4
            simp [stepR3, stepR2, stepR1, hf, hk, h4] at hs
            conv => whnf
            refine ⟨by have := runR_len l k hk0; simp only [List.length_map, List.length_cons, List.length_nil]; omega, ?_⟩
            conv => whnf
            refine And.intro (fun h => absurd h (by simp [hk])) (fun _ => ?_)
            conv => whnf
            refine And.intro (fun h => absurd h (by simp [hk])) (fun _ => ?_)
            conv => whnf
            have hfn := refFoot_fn o
            rw [hf] at hfn
            refine callx_tells hfn rfl (footO_st _ _) ?_
            conv => whnf
            refine And.intro (fun h => absurd h (by simp)) (fun _ => ?_)
            conv => whnf
            refine regx_go tab_ok ?_
            conv => whnf
            refine ⟨k + 1, by omega, by omega, rfl, ?_⟩
            rw [hs]
            refine ⟨?_, ?_, rfl⟩ <;> repeat' (first | exact trivial | exact entV_refl _ | exact leA_refl _ | exact wrap_succ (by omega) | rfl | apply And.intro)
            all_goals (rw [List.map_append]; exact leA_append (leA_refl _) ⟨stL_pack _, trivial⟩)
          · have h4 : (runR l k).inn = true := by simpa using h4
            simp [stepR3, stepR2, stepR1, hf, hk, h4] at hs
            conv => whnf
            refine And.intro (fun h => absurd h (by simp [hk])) (fun _ => ?_)
            conv => whnf
            refine And.intro (fun h => absurd h (by simp [hk])) (fun _ => ?_)
            conv => whnf
            have hfn := refFoot_fn o
            rw [hf] at hfn
            refine callx_tells hfn rfl (footO_st _ _) ?_
            conv => whnf
            refine And.intro (fun h => absurd h (by simp)) (fun _ => ?_)
            conv => whnf
            refine regx_go tab_ok ?_
            conv => whnf
            refine ⟨k + 1, by omega, by omega, rfl, ?_⟩
            rw [hs]
            refine ⟨?_, ?_, rfl⟩ <;> repeat' (first | exact trivial | exact entV_refl _ | exact leA_refl _ | exact wrap_succ (by omega) | rfl | apply And.intro)
        · simp [stepR3, stepR2, stepR1, hf, hk, hk1] at hs
          refine And.intro (fun h => absurd h (by simp [hk1])) (fun _ => ?_)
          conv => whnf
          refine And.intro (fun h4 => ?_) (fun h4 => ?_)
          · conv => whnf
            have hfn := refFoot_fn o
            rw [hf] at hfn
            refine callx_tells hfn rfl (footO_st _ _) ?_
            conv => whnf
            refine And.intro (fun h => absurd h (by simp)) (fun _ => ?_)
            conv => whnf
            refine regx_go tab_ok ?_
            conv => whnf
            refine ⟨k + 1, by omega, by omega, rfl, ?_⟩
            rw [hs]
            refine ⟨?_, ?_, rfl⟩ <;> repeat' (first | exact trivial | exact entV_refl _ | exact leA_refl _ | exact wrap_succ (by omega) | rfl | apply And.intro)
          · conv => whnf
            have hk : o.k = 7 := by rcases hk with e | e <;> simp_all
            refine And.intro (fun _ => ?_) (fun h => absurd h (by simp [hk]))
            conv => whnf
            have hfn := refFoot_fn o
            rw [hf] at hfn
            refine callx_tells hfn rfl (footO_st _ _) ?_
            conv => whnf
            refine And.intro (fun h => absurd h (by simp)) (fun _ => ?_)
            conv => whnf
            refine regx_go tab_ok ?_
            conv => whnf
            refine ⟨k + 1, by omega, by omega, rfl, ?_⟩
            rw [hs]
            refine ⟨?_, ?_, rfl⟩ <;> repeat' (first | exact trivial | exact entV_refl _ | exact leA_refl _ | exact wrap_succ (by omega) | rfl | apply And.intro)
        · refine And.intro (fun h => absurd h (by simp [hk1])) (fun _ => ?_)
          conv => whnf
          refine And.intro (fun h => absurd h (by simp [hk6])) (fun _ => ?_)
          conv => whnf
          refine And.intro (fun h => absurd h (by simp [hk7])) (fun _ => ?_)
          conv => whnf
          have hfn := refFoot_fn o
          rw [hf] at hfn
          refine callx_tells hfn rfl (footO_st _ _) ?_
          conv => whnf
          refine And.intro (fun _ => ?_) (fun h => absurd h (by simp))
          conv => whnf
          refine And.intro (fun h4 => ?_) (fun h4 => ?_)
          · simp [stepR3, stepR2, stepR1, hf, hk1, hk6, hk7, h4] at hs
            have hpos := runR_pos l k hk0 h4
            have hlen := runR_len l k hk0
            have hlens := runR_lens l k hk0
            generalize ho : (runR l k).out = os at *
            have hxl : (os.getD (os.length - 1) []).length ≤ k := hlens _ (getD_mem2 _ (by omega))
            have hat : (os.map feetA)[os.length - 1]? = some (feetA (os.getD (os.length - 1) [])) := by
              rw [List.getElem?_map, List.getD_eq_getElem?_getD]
              rw [List.getElem?_eq_getElem (by omega)]
              rfl
            have hw : IntKind.i64.wrap ((os.map feetA).length - 1 : Int) = ((os.length - 1 : Nat) : Int) := by
              rw [List.length_map, show ((os.length : Int) - 1) = ((os.length - 1 : Nat) : Int) by omega]; exact wrap_ok (by omega) (by omega)
            generalize hx : os.getD (os.length - 1) [] = x at hat hxl
            conv => whnf
            cases x with
            | nil =>
              refine drawx_gh (.open_ 0 (os.length - 1) [.v (.slice none 0 0)] []) ?_
              conv => whnf
              refine ⟨hat, ?_⟩
              conv => whnf
              refine drawx_plan tab_ok [0] (.take 0 (.take 1 (.take 2 (.take 3 (.take 4 (.take 5 (.take 6 (.take 7 (.take 8 (.take 10 (.two 9 11 (.one 11 (.one 12 (.take 13 (.one 14 (.done))))) (.one 9 (.one 12 (.take 13 (.one 14 (.done)))))))))))))))) (by kernel_rfl) (by kernel_rfl) (by kernel_rfl) ?_
              conv => whnf
              refine ⟨by rw [hw, List.length_map]; exact ⟨by omega, by omega⟩, ?_⟩
              conv => whnf
              refine ⟨?_, ?_⟩
              all_goals
                conv => whnf
                repeat' (first
                  | (refine ⟨by rw [hw, List.length_map]; exact ⟨by omega, by omega⟩, ?_⟩; conv => whnf)
                  | (refine .inl ⟨by rw [hw]; exact Int.toNat_natCast _, ?_⟩; conv => whnf)
                  | (refine ⟨by rw [hw]; exact Int.toNat_natCast _, ?_⟩; conv => whnf)
                  | (refine ⟨by simp only [List.length_map, List.length_cons, List.length_nil] at hxl ⊢; omega, ?_⟩; conv => whnf))
                refine regx_gh (.close 0 [4] [.ow 0] [.row 39 6 [encF f]]) ?_
                conv => whnf
                refine ⟨by repeat' (first | exact trivial | rfl | exact entC_refl _ | apply And.intro), ?_⟩
                conv => whnf
                refine ⟨?_, ?_⟩
                · repeat' (first | exact trivial | rfl | exact entLL_refl _ | apply And.intro)
                conv => whnf
                refine regx_go tab_ok ?_
                conv => whnf
                refine ⟨k + 1, by omega, by omega, rfl, ?_⟩
                rw [hs]
                refine ⟨?_, ?_, rfl⟩ <;> repeat' (first | exact trivial | exact entV_refl _ | exact wrap_succ (by omega) | exact h4 | exact (show entC (.b (runR l k).inn) (.b true) from by rw [h4]; exact entC_refl _) | rfl | apply And.intro)
                all_goals exact leA_of_eq (by unfold addLast; rw [hx, List.map_set]; rfl)
            | cons y ys =>
              refine drawx_gh (.open_ 0 (os.length - 1) [.ow 0] [.row 39 6 ((y :: ys).map encF)]) ?_
              conv => whnf
              refine ⟨hat, ?_⟩
              conv => whnf
              refine drawx_plan tab_ok [0, 3] (.take 0 (.take 1 (.take 2 (.take 3 (.take 4 (.take 5 (.take 6 (.take 7 (.take 8 (.take 10 (.two 9 11 (.one 11 (.one 12 (.take 13 (.one 14 (.done))))) (.one 9 (.one 12 (.take 13 (.one 14 (.done)))))))))))))))) (by kernel_rfl) (by kernel_rfl) (by kernel_rfl) ?_
              conv => whnf
              refine ⟨by rw [hw, List.length_map]; exact ⟨by omega, by omega⟩, ?_⟩
              conv => whnf
              refine ⟨?_, ?_⟩
              all_goals
                conv => whnf
                repeat' (first
                  | (refine ⟨by rw [hw, List.length_map]; exact ⟨by omega, by omega⟩, ?_⟩; conv => whnf)
                  | (refine .inl ⟨by rw [hw]; exact Int.toNat_natCast _, ?_⟩; conv => whnf)
                  | (refine ⟨by rw [hw]; exact Int.toNat_natCast _, ?_⟩; conv => whnf)
                  | (refine ⟨by simp only [List.length_map, List.length_cons, List.length_nil] at hxl ⊢; omega, ?_⟩; conv => whnf))
                refine regx_gh (.close 0 [3] [.ow 0] [.row 39 6 (((y :: ys) ++ [f]).map encF)]) ?_
                conv => whnf
                refine ⟨by repeat' (first | exact trivial | rfl | exact entC_refl _ | apply And.intro), ?_⟩
                conv => whnf
                refine ⟨?_, ?_⟩
                · repeat' (first | exact trivial | rfl | exact entLL_refl _ | apply And.intro)
                  all_goals exact entLL_of_eq (List.map_append (f := encF) (l₁ := ys) (l₂ := [f])).symm
                conv => whnf
                refine regx_go tab_ok ?_
                conv => whnf
                refine ⟨k + 1, by omega, by omega, rfl, ?_⟩
                rw [hs]
                refine ⟨?_, ?_, rfl⟩ <;> repeat' (first | exact trivial | exact entV_refl _ | exact wrap_succ (by omega) | exact h4 | exact (show entC (.b (runR l k).inn) (.b true) from by rw [h4]; exact entC_refl _) | rfl | apply And.intro)
                all_goals exact leA_of_eq (by unfold addLast; rw [hx, List.map_set]; rfl)
          · simp [stepR3, stepR2, stepR1, hf, hk1, hk6, hk7, h4] at hs
            conv => whnf
            refine regx_go tab_ok ?_
            conv => whnf
            refine ⟨k + 1, by omega, by omega, rfl, ?_⟩
            rw [hs]
            refine ⟨?_, ?_, rfl⟩ <;> repeat' (first | exact trivial | exact entV_refl _ | exact leA_refl _ | exact wrap_succ (by omega) | rfl | apply And.intro)
    · conv => whnf
      have h1 : k = l.length := by simp at h1; omega
      subst h1
      rw [← runR_txs l]
      refine ⟨List.length_map .., rfl, fun i hi j hj => ?_⟩
      obtain rfl : j = 0 := by omega
      generalize hos : (runR l l.length).out = os at *
      have hat : (os.map feetA)[i]? = some (feetA (os.getD i [])) := by
        rw [List.getElem?_map, List.getD_eq_getElem?_getD]
        rw [List.getElem?_eq_getElem (by simpa using hi)]
        rfl
      show entC (nthC (fzAt (os.map feetA) i) 0) (nthC (encFs (os.getD i [])) 0)
      rw [fzAt_eq hat]
      generalize os.getD i [] = x
      cases x with
      | nil => exact ⟨rfl, rfl⟩
      | cons y ys => exact rowX_ent encF default 6 (y :: ys) (entLL_refl _)
end Go.Proofs.Ytbhmplbckkipjaa

/- FootDoes: the reference's Free, Few, and what they say together. -/
namespace Go.Proofs.Ytbhmplbckkipjaa
open Go Go.Eng Go.RowKit
set_option maxRecDepth 100000
set_option maxHeartbeats 4000000
set_option linter.unusedVariables false
set_option linter.unusedSimpArgs false
theorem same_fn (a : List Ft) (ha : a.length ≤ 10000) : Eng.Fn Try.prog 22 [.c (feetX a), .c (feetX a)] (Tells (.c (.b true))) := by
  refine Eng.Fn.of tab_ok Try.func22 (by kernel_rfl) (by kernel_rfl) (fun w0 => ?_)
  conv => whnf
  refine And.intro (fun h => absurd h (by simp)) (fun _ => ?_)
  conv => whnf
  refine loopi tab_ok (fun k => k ≤ a.length) (fun k => [(0, .c (feetX a)), (1, .c (feetX a)), (12, .c (.i .i64 a.length)), (13, .c (.i .i64 k))]) (fun k => []) (fun k => a.length - k) 0 26 rfl (Nat.zero_le _) ?_ (fun k hk => ?_)
  · refine ⟨?_, ?_, rfl⟩ <;> repeat' (first | exact trivial | exact entV_refl _ | exact wrap_succ (by omega) | rfl | apply And.intro)
  · conv => whnf
    refine And.intro (fun h1 => ?_) (fun h1 => ?_)
    · conv => whnf
      simp only [decide_eq_true_eq] at h1
      have h2 : k < a.length := by omega
      refine drawx_pure tab_ok (by kernel_rfl) (by kernel_rfl) ?_
      conv => whnf
      refine ⟨by omega, ?_⟩
      conv => whnf
      refine ⟨by omega, ?_⟩
      conv => whnf
      refine And.intro (fun h => absurd h (by simp)) (fun _ => ?_)
      conv => whnf
      refine ⟨k + 1, by omega, by omega, rfl, ?_⟩
      refine ⟨?_, ?_, rfl⟩ <;> repeat' (first | exact trivial | exact entV_refl _ | exact wrap_succ (by omega) | rfl | apply And.intro)
    · conv => whnf
      first | rfl | trace_state
theorem wrap_big {k : Nat} (h : k < 9223372036854775807) : IntKind.i64.wrap ((k : Int) + 1) = ((k + 1 : Nat) : Int) := by
  rw [IntKind.wrap_i64]; omega
def fewB (ops : List (List Opr)) : Bool := ops.all fun l => decide (l.length ≤ 70)
theorem fewO_fn (ops : List (List Opr)) (ho : ops.length ≤ 9223372036854775807) : Eng.Fn Try.prog 17 [.c (opsX ops), .c (.v (.slice none 0 0))] (Tells (.c (.b (fewB ops && decide (ops.length ≤ 9))))) := by
  refine Eng.Fn.of tab_ok Try.func17 (by kernel_rfl) (by kernel_rfl) (fun w0 => ?_)
  conv => whnf
  refine loopi tab_ok (fun k => k ≤ ops.length ∧ fewB ops = (ops.drop k).all fun l => decide (l.length ≤ 70)) (fun k => [(0, .c (opsX ops)), (1, .c (.v (.slice none 0 0))), (7, .c (opsX ops)), (8, .c (.i .i64 ops.length)), (9, .c (.i .i64 k))]) (fun k => []) (fun k => ops.length - k) 0 25 rfl ⟨Nat.zero_le _, rfl⟩ ?_ (fun k hk => ?_)
  · refine ⟨?_, ?_, rfl⟩ <;> repeat' (first | exact trivial | exact entV_refl _ | exact wrap_big (by omega) | rfl | apply And.intro)
  · obtain ⟨hk, hall⟩ := hk
    conv => whnf
    refine And.intro (fun h1 => ?_) (fun h1 => ?_)
    · conv => whnf
      simp only [decide_eq_true_eq] at h1
      have h2 : k < ops.length := by omega
      refine ⟨by omega, ?_⟩
      conv => whnf
      rw [drop_all [] _ h2] at hall
      generalize he : ops.getD (Int.toNat (k : Int)) default = l
      have he : ops.getD k [] = l := he
      rw [he] at hall
      refine And.intro (fun h3 => ?_) (fun h3 => ?_)
      · conv => whnf
        have h3 : ¬ l.length ≤ 70 := by simp at h3; omega
        rw [hall, decide_eq_false h3]
        repeat' (first | exact trivial | exact ⟨rfl, rfl⟩ | rfl | apply And.intro)
      · conv => whnf
        have h3 : l.length ≤ 70 := by simp at h3; omega
        rw [decide_eq_true h3] at hall
        refine ⟨k + 1, ⟨by omega, by simpa using hall⟩, by omega, rfl, ?_⟩
        refine ⟨?_, ?_, rfl⟩ <;> repeat' (first | exact trivial | exact entV_refl _ | exact wrap_big (by omega) | rfl | apply And.intro)
    · conv => whnf
      simp only [decide_eq_false_iff_not] at h1
      obtain rfl : k = ops.length := by omega
      rw [drop_all_end] at hall
      refine And.intro (fun h3 => ?_) (fun h3 => ?_)
      · conv => whnf
        have h3 : ops.length ≤ 9 := by simp at h3; omega
        rw [hall, decide_eq_true h3]
        first | rfl | trace_state
      · conv => whnf
        have h3 : ¬ ops.length ≤ 9 := by simp at h3; omega
        rw [hall, decide_eq_false h3]
        first | rfl | trace_state
theorem rfree_fn (ops : List (List Opr)) (ho : ops.length ≤ 10000) (hl : ∀ l ∈ ops, l.length ≤ 5000) : Eng.Fn Try.prog 28 [.c (opsX ops)] (Tells (.c (.b (freeB ops)))) := by
  refine Eng.Fn.of tab_ok Try.func28 (by kernel_rfl) (by kernel_rfl) (fun w0 => ?_)
  conv => whnf
  refine loopi tab_ok (fun k => k ≤ ops.length ∧ freeB ops = ((List.range ops.length).drop k).all (rowB ops)) (fun k => [(0, .c (opsX ops)), (13, .c (opsX ops)), (14, .c (.i .i64 ops.length)), (15, .c (.i .i64 k))]) (fun k => []) (fun k => ops.length - k) 0 63 rfl ⟨Nat.zero_le _, rfl⟩ ?_ (fun k hk => ?_)
  · refine ⟨?_, ?_, rfl⟩ <;> repeat' (first | exact trivial | exact entV_refl _ | exact entL_refl _ | exact wrap_succ (by omega) | rfl | apply And.intro)
  · obtain ⟨hk, hall⟩ := hk
    conv => whnf
    refine And.intro (fun bk => ?_) (fun bk => ?_)
    · conv => whnf
      simp only [decide_eq_true_eq] at bk
      have ck : k < ops.length := by omega
      have hr : (List.range ops.length).getD k 0 = k := by simp [List.getD, ck]
      rw [drop_all 0 _ (by simpa using ck), hr] at hall
      have hlk := getD_lens hl ck
      generalize he : ops.getD k [] = l at *
      have hrow : rowB ops k = (ops.take k).all fun o => pairB l o := by rw [← he]; rfl
      rw [hrow] at hall
      have hkk : (ops.take k).length = k := by rw [List.length_take]; omega
      refine loopi tab_ok (fun m => m ≤ k ∧ ((ops.take k).all fun o => pairB l o) = (((ops.take k).drop m).all fun o => pairB l o)) (fun m => [(0, .c (opsX ops)), (13, .c (opsX ops)), (14, .c (.i .i64 ops.length)), (15, .c (.i .i64 k)), (3, .c (.i .i64 k)), (4, .c (.i .i64 m))]) (fun m => []) (fun m => k - m) 0 63 rfl ⟨Nat.zero_le _, rfl⟩ ?_ (fun m hm => ?_)
      · refine ⟨?_, ?_, rfl⟩ <;> repeat' (first | exact trivial | exact entV_refl _ | exact entL_refl _ | exact wrap_succ (by omega) | rfl | apply And.intro)
      · obtain ⟨hm, hin⟩ := hm
        conv => whnf
        refine And.intro (fun bm => ?_) (fun bm => ?_)
        · conv => whnf
          simp only [decide_eq_true_eq] at bm
          have cm : m < k := by omega
          refine ⟨by omega, ?_⟩
          conv => whnf
          rw [drop_all [] _ (by omega)] at hin
          have hlm := getD_lens hl (k := m) (by omega)
          have htk : (ops.take k).getD m [] = ops.getD m [] := by simp [List.getD, List.getElem?_take, cm]
          rw [htk] at hin
          generalize hg : ops.getD m [] = o at *
          generalize he2 : ops.getD (Int.toNat (k : Int)) default = l2
          obtain rfl : l = l2 := he.symm.trans he2
          refine callx_tells (rtxs_fn l (by omega)) rfl trivial ?_
          conv => whnf
          have htl := txsL_len l
          have hto := txsL_len o
          refine loopi tab_ok (fun u => u ≤ (txsL l).length ∧ pairB l o = (((txsL l).drop u).all fun a => (txsL o).all fun b => apartB a b)) (fun u => [(0, .c (opsX ops)), (13, .c (opsX ops)), (14, .c (.i .i64 ops.length)), (15, .c (.i .i64 k)), (3, .c (.i .i64 k)), (4, .c (.i .i64 m)), (27, .c (feetsX (txsL l))), (28, .c (.i .i64 (txsL l).length)), (29, .c (.i .i64 u))]) (fun u => []) (fun u => (txsL l).length - u) 0 63 rfl ⟨Nat.zero_le _, rfl⟩ ?_ (fun u hu => ?_)
          · refine ⟨?_, ?_, rfl⟩ <;> repeat' (first | exact trivial | exact entV_refl _ | exact entL_refl _ | exact wrap_succ (by omega) | rfl | apply And.intro)
          · obtain ⟨hu, hiu⟩ := hu
            conv => whnf
            refine And.intro (fun bu => ?_) (fun bu => ?_)
            · conv => whnf
              simp only [decide_eq_true_eq] at bu
              have cu : u < (txsL l).length := by omega
              refine ⟨by omega, ?_⟩
              conv => whnf
              rw [drop_all [] _ cu] at hiu
              have hla := txsL_get l u cu
              generalize ha : (txsL l).getD (Int.toNat (u : Int)) [] = x
              have ha : (txsL l).getD u [] = x := ha
              rw [ha] at hiu hla
              refine ⟨by omega, ?_⟩
              conv => whnf
              generalize hg2 : ops.getD (Int.toNat (m : Int)) default = o2
              obtain rfl : o = o2 := hg.symm.trans hg2
              refine callx_tells (rtxs_fn o (by omega)) rfl trivial ?_
              conv => whnf
              refine loopi tab_ok (fun v => v ≤ (txsL o).length ∧ ((txsL o).all fun b => apartB x b) = (((txsL o).drop v).all fun b => apartB x b)) (fun v => [(0, .c (opsX ops)), (13, .c (opsX ops)), (14, .c (.i .i64 ops.length)), (15, .c (.i .i64 k)), (3, .c (.i .i64 k)), (4, .c (.i .i64 m)), (27, .c (feetsX (txsL l))), (28, .c (.i .i64 (txsL l).length)), (29, .c (.i .i64 u)), (6, .c (feetX x)), (37, .c (feetsX (txsL o))), (38, .c (.i .i64 (txsL o).length)), (39, .c (.i .i64 v))]) (fun v => []) (fun v => (txsL o).length - v) 0 63 rfl ⟨Nat.zero_le _, rfl⟩ ?_ (fun v hv => ?_)
              · refine ⟨?_, ?_, rfl⟩ <;> repeat' (first | exact trivial | exact entV_refl _ | exact entL_refl _ | exact wrap_succ (by omega) | rfl | apply And.intro)
              · obtain ⟨hv, hiw⟩ := hv
                conv => whnf
                refine And.intro (fun bv => ?_) (fun bv => ?_)
                · conv => whnf
                  simp only [decide_eq_true_eq] at bv
                  have cv : v < (txsL o).length := by omega
                  refine ⟨by omega, ?_⟩
                  conv => whnf
                  rw [drop_all [] _ cv] at hiw
                  have hlb := txsL_get o v cv
                  generalize hb : (txsL o).getD (Int.toNat (v : Int)) [] = y
                  have hb : (txsL o).getD v [] = y := hb
                  rw [hb] at hiw hlb
                  refine loopi tab_ok (fun c => c ≤ x.length ∧ apartB x y = ((x.drop c).all fun e => y.all fun g => !fclashB e g)) (fun c => [(0, .c (opsX ops)), (13, .c (opsX ops)), (14, .c (.i .i64 ops.length)), (15, .c (.i .i64 k)), (3, .c (.i .i64 k)), (4, .c (.i .i64 m)), (27, .c (feetsX (txsL l))), (28, .c (.i .i64 (txsL l).length)), (29, .c (.i .i64 u)), (6, .c (feetX x)), (37, .c (feetsX (txsL o))), (38, .c (.i .i64 (txsL o).length)), (39, .c (.i .i64 v)), (8, .c (feetX y)), (43, .c (feetX x)), (44, .c (.i .i64 x.length)), (45, .c (.i .i64 c))]) (fun c => []) (fun c => x.length - c) 0 63 rfl ⟨Nat.zero_le _, rfl⟩ ?_ (fun c hc => ?_)
                  · refine ⟨?_, ?_, rfl⟩ <;> repeat' (first | exact trivial | exact entV_refl _ | exact entL_refl _ | exact wrap_succ (by omega) | rfl | apply And.intro)
                  · obtain ⟨hc, hic⟩ := hc
                    conv => whnf
                    refine And.intro (fun bc => ?_) (fun bc => ?_)
                    · conv => whnf
                      simp only [decide_eq_true_eq] at bc
                      have cc : c < x.length := by omega
                      refine ⟨by omega, ?_⟩
                      conv => whnf
                      rw [drop_all default _ cc] at hic
                      generalize hee : x.getD (Int.toNat (c : Int)) default = e
                      have hee : x.getD c default = e := hee
                      rw [hee] at hic
                      refine loopi tab_ok (fun d => d ≤ y.length ∧ (y.all fun g => !fclashB e g) = ((y.drop d).all fun g => !fclashB e g)) (fun d => [(0, .c (opsX ops)), (13, .c (opsX ops)), (14, .c (.i .i64 ops.length)), (15, .c (.i .i64 k)), (3, .c (.i .i64 k)), (4, .c (.i .i64 m)), (27, .c (feetsX (txsL l))), (28, .c (.i .i64 (txsL l).length)), (29, .c (.i .i64 u)), (6, .c (feetX x)), (37, .c (feetsX (txsL o))), (38, .c (.i .i64 (txsL o).length)), (39, .c (.i .i64 v)), (8, .c (feetX y)), (43, .c (feetX x)), (44, .c (.i .i64 x.length)), (45, .c (.i .i64 c)), (10, .c (.p 0 0)), (49, .c (feetX y)), (50, .c (.i .i64 y.length)), (51, .c (.i .i64 d))]) (fun d => [.cells 39 (encF e)]) (fun d => y.length - d) 0 63 rfl ⟨Nat.zero_le _, rfl⟩ ?_ (fun d hd => ?_)
                      · refine ⟨?_, ?_, rfl⟩ <;> repeat' (first | exact trivial | exact entV_refl _ | exact entL_refl _ | exact wrap_succ (by omega) | rfl | apply And.intro)
                      · obtain ⟨hd, hid⟩ := hd
                        conv => whnf
                        refine And.intro (fun bd => ?_) (fun bd => ?_)
                        · conv => whnf
                          simp only [decide_eq_true_eq] at bd
                          have cd : d < y.length := by omega
                          refine ⟨by omega, ?_⟩
                          conv => whnf
                          rw [drop_all default _ cd] at hid
                          generalize hgg : y.getD (Int.toNat (d : Int)) default = g
                          have hgg : y.getD d default = g := hgg
                          rw [hgg] at hid
                          refine callx_tells (refClash_fn e g refWithin_fn) rfl trivial ?_
                          conv => whnf
                          refine And.intro (fun h9 => ?_) (fun h9 => ?_)
                          · conv => whnf
                            rw [hall, hin, hiu, hiw, hic, hid, h9]
                            repeat' (first | exact trivial | exact ⟨rfl, rfl⟩ | rfl | apply And.intro)
                          · conv => whnf
                            rw [h9] at hid
                            refine ⟨d + 1, ⟨by omega, by simpa using hid⟩, by omega, rfl, ?_⟩
                            refine ⟨?_, ?_, rfl⟩ <;> repeat' (first | exact trivial | exact entV_refl _ | exact entL_refl _ | exact wrap_succ (by omega) | rfl | apply And.intro)
                        · conv => whnf
                          simp only [decide_eq_false_iff_not] at bd
                          obtain rfl : d = y.length := by omega
                          rw [drop_all_end] at hid
                          rw [hid] at hic
                          refine ⟨c + 1, ⟨by omega, by simpa using hic⟩, by omega, rfl, ?_⟩
                          refine ⟨?_, ?_, rfl⟩ <;> repeat' (first | exact trivial | exact entV_refl _ | exact entL_refl _ | exact wrap_succ (by omega) | rfl | apply And.intro)
                    · conv => whnf
                      simp only [decide_eq_false_iff_not] at bc
                      obtain rfl : c = x.length := by omega
                      rw [drop_all_end] at hic
                      rw [hic] at hiw
                      refine ⟨v + 1, ⟨by omega, by simpa using hiw⟩, by omega, rfl, ?_⟩
                      refine ⟨?_, ?_, rfl⟩ <;> repeat' (first | exact trivial | exact entV_refl _ | exact entL_refl _ | exact wrap_succ (by omega) | rfl | apply And.intro)
                · conv => whnf
                  simp only [decide_eq_false_iff_not] at bv
                  obtain rfl : v = (txsL o).length := by omega
                  rw [drop_all_end] at hiw
                  rw [hiw] at hiu
                  refine ⟨u + 1, ⟨by omega, by simpa using hiu⟩, by omega, rfl, ?_⟩
                  refine ⟨?_, ?_, rfl⟩ <;> repeat' (first | exact trivial | exact entV_refl _ | exact entL_refl _ | exact wrap_succ (by omega) | rfl | apply And.intro)
            · conv => whnf
              simp only [decide_eq_false_iff_not] at bu
              obtain rfl : u = (txsL l).length := by omega
              rw [drop_all_end] at hiu
              rw [hiu] at hin
              refine ⟨m + 1, ⟨by omega, by simpa using hin⟩, by omega, rfl, ?_⟩
              refine ⟨?_, ?_, rfl⟩ <;> repeat' (first | exact trivial | exact entV_refl _ | exact entL_refl _ | exact wrap_succ (by omega) | rfl | apply And.intro)
        · conv => whnf
          simp only [decide_eq_false_iff_not] at bm
          obtain rfl : m = k := by omega
          rw [List.drop_eq_nil_of_le (by omega)] at hin
          rw [hin] at hall
          refine ⟨m + 1, ⟨by omega, by simpa using hall⟩, by omega, rfl, ?_⟩
          refine ⟨?_, ?_, rfl⟩ <;> repeat' (first | exact trivial | exact entV_refl _ | exact entL_refl _ | exact wrap_succ (by omega) | rfl | apply And.intro)
    · conv => whnf
      simp only [decide_eq_false_iff_not] at bk
      obtain rfl : k = ops.length := by omega
      rw [show (List.range ops.length).drop ops.length = [] from by simp] at hall
      rw [hall]
      repeat' (first | exact trivial | exact ⟨rfl, rfl⟩ | rfl | apply And.intro)
end Go.Proofs.Ytbhmplbckkipjaa

/- FootDoes: what an operation touches, which clash, what the transactions of a client touch, and whether no two clients' do. -/
namespace Go.Proofs.Ytbhmplbckkipjaa
open Go Go.Eng Go.RowKit
set_option maxRecDepth 100000
set_option maxHeartbeats 4000000
set_option linter.unusedVariables false
set_option linter.unusedSimpArgs false
theorem clash_near (a b : Ft) : fclashB ⟨a.p, 3⟩ ⟨b.p, 3⟩ = meetB a b := fclash_yes (by unfold FcP; dsimp only; omega)
theorem apart_one (a b : Ft) : apartB [a] [b] = !fclashB a b := by simp [apartB]
theorem fdoes_fn (o : Opr) (a b : Ft) (ops : List (List Opr)) (ho : ops.length ≤ 9223372036854775807) : Eng.Fn Try.prog 4 [.a (encO o), .a (encF a), .a (encF b), .c (opsX ops)] (Tells (.c (.b true))) := by
  refine Eng.Fn.of tab_ok Try.func4 (by kernel_rfl) (by kernel_rfl) (fun w0 => ?_)
  conv => whnf
  refine callx_as (.c .bt) ft_awake rfl rfl trivial ?_
  conv => whnf
  refine callx_tells (fewO_fn ops ho) rfl trivial ?_
  conv => whnf
  refine And.intro (fun h1 => ?_) (fun h1 => ?_)
  · conv => whnf
    first | rfl | trace_state
  · have h1 : fewB ops = true ∧ ops.length ≤ 9 := by simpa using h1
    have hl : ∀ l ∈ ops, l.length ≤ 5000 := fun l hx => by
      have := List.all_eq_true.1 h1.1 l hx
      have : l.length ≤ 70 := by simpa using this
      omega
    conv => whnf
    refine callx_tells (footOf_fn o) rfl (footO_st _ _) ?_
    conv => whnf
    refine callx_tells (refFoot_fn o) rfl (footO_st _ _) ?_
    conv => whnf
    generalize footO o = fo
    obtain ⟨f, is⟩ := fo
    refine loopi tab_ok (fun k => k ≤ ops.length) (fun k => [(3, .c (opsX ops)), (5, .c (.p 1 0)), (6, .c (.p 2 0)), (9, .c (.p 3 0)), (10, .c (.b is)), (11, .c (.p 4 0)), (12, .c (.b is)), (34, .c (opsX ops)), (35, .c (.i .i64 ops.length)), (36, .c (.i .i64 k))]) (fun k => [.cells 37 (encO o), .cells 39 (encF a), .cells 39 (encF b), .cells 39 (encF f), .cells 39 (encF f)]) (fun k => ops.length - k) 0 119 rfl (Nat.zero_le _) ?_ (fun k hk => ?_)
    · refine ⟨?_, ?_, rfl⟩ <;> repeat' (first | exact trivial | exact entV_refl _ | exact entL_refl _ | exact wrap_succ (by omega) | rfl | apply And.intro)
    · conv => whnf
      refine And.intro (fun b1 => ?_) (fun b1 => ?_)
      · conv => whnf
        simp only [decide_eq_true_eq] at b1
        have c1 : k < ops.length := by omega
        refine ⟨by omega, ?_⟩
        conv => whnf
        have hlk := getD_lens hl c1
        generalize he2 : ops.getD (Int.toNat (k : Int)) default = l
        have he : ops.getD k [] = l := he2
        rw [he] at hlk
        refine And.intro (fun h3 => ?_) (fun h3 => ?_)
        · conv => whnf
          first | rfl | trace_state
        · conv => whnf
          refine callx_tells (txs_fn l (by omega)) rfl trivial ?_
          conv => whnf
          refine callx_tells (rtxs_fn l (by omega)) rfl trivial ?_
          conv => whnf
          have htl := txsL_len l
          refine And.intro (fun h => absurd h (by simp)) (fun _ => ?_)
          conv => whnf
          refine loopi tab_ok (fun m => m ≤ (txsL l).length) (fun m => [(3, .c (opsX ops)), (5, .c (.p 1 0)), (6, .c (.p 2 0)), (9, .c (.p 3 0)), (10, .c (.b is)), (11, .c (.p 4 0)), (12, .c (.b is)), (15, .c (feetsX (txsL l))), (16, .c (feetsX (txsL l))), (34, .c (opsX ops)), (35, .c (.i .i64 ops.length)), (36, .c (.i .i64 k)), (53, .c (.i .i64 (txsL l).length)), (54, .c (.i .i64 m))]) (fun m => [.cells 37 (encO o), .cells 39 (encF a), .cells 39 (encF b), .cells 39 (encF f), .cells 39 (encF f)]) (fun m => (txsL l).length - m) 0 119 rfl (Nat.zero_le _) ?_ (fun m hm => ?_)
          · refine ⟨?_, ?_, rfl⟩ <;> repeat' (first | exact trivial | exact entV_refl _ | exact entL_refl _ | exact wrap_succ (by omega) | rfl | apply And.intro)
          · conv => whnf
            refine And.intro (fun b2 => ?_) (fun b2 => ?_)
            · conv => whnf
              simp only [decide_eq_true_eq] at b2
              have c2 : m < (txsL l).length := by omega
              have hla := txsL_get l m c2
              refine drawx_pure tab_ok (by kernel_rfl) (by kernel_rfl) ?_
              conv => whnf
              refine ⟨by omega, ?_⟩
              conv => whnf
              refine ⟨by omega, ?_⟩
              conv => whnf
              refine callp_tells (same_fn ((txsL l).getD m []) (by omega)) rfl trivial ?_
              conv => whnf
              refine And.intro (fun h => absurd h (by simp)) (fun _ => ?_)
              conv => whnf
              refine ⟨m + 1, by omega, by omega, rfl, ?_⟩
              refine ⟨?_, ?_, rfl⟩ <;> repeat' (first | exact trivial | exact entV_refl _ | exact entL_refl _ | exact wrap_succ (by omega) | rfl | apply And.intro)
            · conv => whnf
              refine ⟨k + 1, by omega, by omega, rfl, ?_⟩
              refine ⟨?_, ?_, rfl⟩ <;> repeat' (first | exact trivial | exact entV_refl _ | exact entL_refl _ | exact wrap_succ (by omega) | rfl | apply And.intro)
      · conv => whnf
        have h2 := refClash_fn ⟨a.p, 3⟩ ⟨b.p, 3⟩ refWithin_fn
        rw [clash_near] at h2
        refine callx_lent h2 ⟨?_, ?_, trivial⟩ rfl rfl ?_
        · repeat' (first | exact trivial | exact ⟨rfl, rfl⟩ | exact entC_refl _ | apply And.intro)
        · repeat' (first | exact trivial | exact ⟨rfl, rfl⟩ | exact entC_refl _ | apply And.intro)
        conv => whnf
        refine drawx_pure tab_ok (by kernel_rfl) (by kernel_rfl) ?_
        conv => whnf
        refine And.intro (fun _ => ?_) (fun h => absurd h (by simp))
        conv => whnf
        refine And.intro (fun _ => ?_) (fun h => absurd h (by simp))
        conv => whnf
        refine callp_tells (fclash_fn a b) rfl trivial ?_
        conv => whnf
        refine callp_tells (refClash_fn a b refWithin_fn) rfl trivial ?_
        conv => whnf
        refine And.intro (fun _ => ?_) (fun h => absurd h (by simp))
        conv => whnf
        refine callp_tells (meet_fn a b) rfl trivial ?_
        conv => whnf
        refine And.intro (fun _ => ?_) (fun h => absurd h (by simp))
        conv => whnf
        have h3 := apart_fn [a] [b] (by simp) (by simp)
        rw [apart_one] at h3
        refine callp_lent h3 ⟨rowX_ent encF default 6 [a] (entLL_refl _), rowX_ent encF default 6 [b] (entLL_refl _), trivial⟩ rfl rfl ?_
        conv => whnf
        refine callp_tells (fclash_fn a b) rfl trivial ?_
        conv => whnf
        refine And.intro (fun _ => ?_) (fun h => absurd h (by simp))
        conv => whnf
        refine callp_tells (free_fn ops (by omega) hl) rfl trivial ?_
        conv => whnf
        refine callp_tells (rfree_fn ops (by omega) hl) rfl trivial ?_
        conv => whnf
        exact beq_self_eq_true _
theorem fit_ops {f : Nat → XC} (h : fitF [.sl 7 shO] f 0) : ∃ l : List Opr, ∀ j, j < 1 → entC (f j) (nthC (encOps l) j) := by
  obtain ⟨⟨n, g, e, h3⟩, _⟩ := fitF_sl h
  obtain ⟨l, hl, el⟩ := rows_ex (enc := encO) default (z := 7) fun i hi => fit_op (h3 i hi)
  refine ⟨l, fun j hj => ?_⟩
  obtain rfl : j = 0 := by omega
  rw [e]
  exact el
theorem fdoes_row (o0 o1 o2 o3 o4 o5 o6 a0 a1 a2 a3 a4 a5 b0 b1 b2 b3 b4 b5 : Int) (lc : Nat) (zc : Nat → Nat → XC)
    (_ : (Lit.int .i64 o0).wf = true) (_ : (Lit.int .i64 o1).wf = true) (_ : (Lit.int .i64 o2).wf = true) (_ : (Lit.int .i64 o3).wf = true) (_ : (Lit.int .i64 o4).wf = true) (_ : (Lit.int .i64 o5).wf = true) (_ : (Lit.int .i64 o6).wf = true) (_ : (Lit.int .i64 a0).wf = true) (_ : (Lit.int .i64 a1).wf = true) (_ : (Lit.int .i64 a2).wf = true) (_ : (Lit.int .i64 a3).wf = true) (_ : (Lit.int .i64 a4).wf = true) (_ : (Lit.int .i64 a5).wf = true) (_ : (Lit.int .i64 b0).wf = true) (_ : (Lit.int .i64 b1).wf = true) (_ : (Lit.int .i64 b2).wf = true) (_ : (Lit.int .i64 b3).wf = true) (_ : (Lit.int .i64 b4).wf = true) (_ : (Lit.int .i64 b5).wf = true) (mc : lc ≤ maxLen) (kc : ∀ i, i < lc → fitF [.sl 7 shO] (zc i) 0) :
    Eng.Fn Try.prog 4 [.a [.i .i64 o0, .i .i64 o1, .i .i64 o2, .i .i64 o3, .i .i64 o4, .i .i64 o5, .i .i64 o6], .a [.i .i64 a0, .i .i64 a1, .i .i64 a2, .i .i64 a3, .i .i64 a4, .i .i64 a5], .a [.i .i64 b0, .i .i64 b1, .i .i64 b2, .i .i64 b3, .i .i64 b4, .i .i64 b5], .c (.rs lc 1 zc)] (Tells (.c (.b true))) := by
  obtain ⟨l, hl, el⟩ := rows_ex (enc := encOps) [] (z := 1) fun i hi => fit_ops (kc i hi)
  simp only [maxLen] at mc
  exact (fdoes_fn ⟨o0, ⟨o1, o2, o3, o4, o5⟩, o6⟩ ⟨⟨a0, a1, a2, a3, a4⟩, a5⟩ ⟨⟨b0, b1, b2, b3, b4⟩, b5⟩ l (by omega)).ask ⟨entV_refl _, entV_refl _, entV_refl _, el, trivial⟩
end Go.Proofs.Ytbhmplbckkipjaa
