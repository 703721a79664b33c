/- Which feet stand apart. -/
import Derived.Test.YtbhmplbckkipjaaFoot4
namespace Go.Proofs.Ytbhmplbckkipjaa
open Go Go.Eng Go.RowKit
set_option maxRecDepth 100000
set_option maxHeartbeats 4000000
set_option linter.unusedVariables false
set_option linter.unusedSimpArgs false
def apartB (a b : List Ft) : Bool := a.all fun x => b.all fun y => !fclashB x y
theorem drop_all {α : Type} (d : α) (p : α → Bool) {l : List α} {k : Nat} (h : k < l.length) : (l.drop k).all p = (p (l.getD k d) && (l.drop (k + 1)).all p) := by
  rw [drop_getD d h, List.all_cons]
theorem drop_all_end {α : Type} (p : α → Bool) (l : List α) : (l.drop l.length).all p = true := by
  rw [List.drop_length, List.all_nil]
theorem apart_fn (a b : List Ft) (ha : a.length ≤ 10000) (hb : b.length ≤ 10000) : Eng.Fn Try.prog 26 [.c (feetX a), .c (feetX b)] (Tells (.c (.b (apartB a b)))) := by
  refine Eng.Fn.of tab_ok Try.func26 (by kernel_rfl) (by kernel_rfl) (fun w0 => ?_)
  conv => whnf
  refine loopi tab_ok (fun k => k ≤ a.length ∧ apartB a b = (a.drop k).all fun x => b.all fun y => !fclashB x y) (fun k => [(1, .c (feetX b)), (9, .c (feetX a)), (10, .c (.i .i64 a.length)), (11, .c (.i .i64 k))]) (fun k => []) (fun k => a.length - k) 0 26 rfl ⟨Nat.zero_le _, rfl⟩ ?_ (fun k hk => ?_)
  · refine ⟨?_, ?_, rfl⟩ <;> repeat' (first | exact trivial | exact entV_refl _ | apply And.intro)
    all_goals rfl
  · obtain ⟨hk, hall⟩ := hk
    conv => whnf
    refine And.intro (fun h1 => ?_) (fun h1 => ?_)
    · conv => whnf
      simp only [decide_eq_true_eq] at h1
      have h2 : k < a.length := by omega
      refine ⟨by omega, ?_⟩
      conv => whnf
      rw [drop_all default _ h2] at hall
      generalize he : a.getD (Int.toNat (k : Int)) default = e
      have he : a.getD k default = e := he
      rw [he] at hall
      refine loopi tab_ok (fun m => m ≤ b.length ∧ (b.all fun y => !fclashB e y) = ((b.drop m).all fun y => !fclashB e y)) (fun m => [(1, .c (feetX b)), (6, .c (.p 0 0)), (9, .c (feetX a)), (10, .c (.i .i64 a.length)), (11, .c (.i .i64 k)), (15, .c (feetX b)), (16, .c (.i .i64 b.length)), (17, .c (.i .i64 m))]) (fun m => [.cells 39 (encF e)]) (fun m => b.length - m) 0 26 rfl ⟨Nat.zero_le _, rfl⟩ ?_ (fun m hm => ?_)
      · refine ⟨?_, ?_, rfl⟩ <;> repeat' (first | exact trivial | exact entV_refl _ | apply And.intro)
        all_goals rfl
      · obtain ⟨hm, hin⟩ := hm
        conv => whnf
        refine And.intro (fun h3 => ?_) (fun h3 => ?_)
        · conv => whnf
          simp only [decide_eq_true_eq] at h3
          have h4 : m < b.length := by omega
          refine ⟨by omega, ?_⟩
          conv => whnf
          rw [drop_all default _ h4] at hin
          generalize hg : b.getD (Int.toNat (m : Int)) default = g
          have hg : b.getD m default = g := hg
          rw [hg] at hin
          refine callx_tells (fclash_fn e g) rfl trivial ?_
          conv => whnf
          refine And.intro (fun h5 => ?_) (fun h5 => ?_)
          · conv => whnf
            rw [hall, hin, h5]
            repeat' (first | exact trivial | exact ⟨rfl, rfl⟩ | rfl | apply And.intro)
          · conv => whnf
            rw [h5] at hin
            refine ⟨m + 1, ⟨by omega, by simpa using hin⟩, by omega, rfl, ?_⟩
            refine ⟨?_, ?_, rfl⟩ <;> repeat' (first | exact trivial | exact entV_refl _ | exact wrap_succ (by omega) | rfl | apply And.intro)
        · conv => whnf
          simp only [decide_eq_false_iff_not] at h3
          obtain rfl : m = b.length := by omega
          rw [drop_all_end] at hin
          rw [hin] at hall
          refine ⟨k + 1, ⟨by omega, by simpa using hall⟩, by omega, rfl, ?_⟩
          refine ⟨?_, ?_, rfl⟩ <;> repeat' (first | exact trivial | exact entV_refl _ | exact wrap_succ (by omega) | rfl | apply And.intro)
    · conv => whnf
      simp only [decide_eq_false_iff_not] at h1
      obtain rfl : k = a.length := by omega
      rw [drop_all_end] at hall
      rw [hall]
      repeat' (first | exact trivial | exact ⟨rfl, rfl⟩ | rfl | apply And.intro)
def pairB (l o : List Opr) : Bool := (txsL l).all fun a => (txsL o).all fun b => apartB a b
def rowB (ops : List (List Opr)) (k : Nat) : Bool := (ops.take k).all fun o => pairB (ops.getD k []) o
def freeB (ops : List (List Opr)) : Bool := (List.range ops.length).all (rowB ops)
def encOps (l : List Opr) : List XC := [oprsX l]
abbrev opsX (l : List (List Opr)) : XC := rowX encOps [] 1 l
theorem runT_lens (l : List Opr) : ∀ k, k ≤ l.length → ∀ x ∈ (runT l k).out, x.length ≤ k
  | 0, _ => fun x hx => by simp [runT] at hx
  | k + 1, h => fun x hx => by
    have ih := runT_lens l k (by omega)
    have hn := (runT_len l k (by omega)).2
    rw [runT_succ l k (by omega), stepT] at hx
    split at hx
    · have := ih x hx; omega
    · split at hx
      · have := ih x hx; omega
      · split at hx
        · have := ih x hx; omega
        · split at hx
          · unfold endT at hx
            dsimp only at hx
            split at hx
            · rcases List.mem_append.1 hx with hx | hx
              · have := ih x hx; omega
              · have := List.mem_singleton.1 hx; subst this; omega
            · have := ih x hx; omega
          · have := ih x hx; omega
theorem txsL_len (l : List Opr) : (txsL l).length ≤ l.length + 1 := by
  have h1 := endT_len (runT l l.length)
  have h2 := (runT_len l l.length (by omega)).1
  unfold txsL; omega
theorem txsL_lens (l : List Opr) (x : List Ft) (hx : x ∈ txsL l) : x.length ≤ l.length := by
  have h1 := runT_lens l l.length (by omega)
  have h2 := (runT_len l l.length (by omega)).2
  unfold txsL endT at hx
  dsimp only at hx
  split at hx
  · rcases List.mem_append.1 hx with hx | hx
    · exact h1 x hx
    · have := List.mem_singleton.1 hx; subst this; exact h2
  · exact h1 x hx
theorem getD_mem2 {α : Type} (d : α) : ∀ {l : List α} {k : Nat}, k < l.length → l.getD k d ∈ l
  | [], _, h => absurd h (by simp)
  | a :: l, 0, _ => by simp
  | a :: l, k + 1, h => by
    have := getD_mem2 d (l := l) (k := k) (by simpa using h)
    simpa using Or.inr this
theorem txsL_get (l : List Opr) (i : Nat) (h : i < (txsL l).length) : ((txsL l).getD i []).length ≤ l.length := by
  exact txsL_lens l _ (getD_mem2 _ h)
theorem getD_lens {ops : List (List Opr)} {n : Nat} (h : ∀ l ∈ ops, l.length ≤ n) {k : Nat} (hk : k < ops.length) : (ops.getD k []).length ≤ n := by
  exact h _ (getD_mem2 _ hk)
theorem free_fn (ops : List (List Opr)) (ho : ops.length ≤ 10000) (hl : ∀ l ∈ ops, l.length ≤ 5000) : Eng.Fn Try.prog 27 [.c (opsX ops)] (Tells (.c (.b (freeB ops)))) := by
  refine Eng.Fn.of tab_ok Try.func27 (by kernel_rfl) (by kernel_rfl) (fun w0 => ?_)
  conv => whnf
  refine loopi tab_ok (fun k => k ≤ ops.length ∧ freeB ops = ((List.range ops.length).drop k).all (rowB ops)) (fun k => [(0, .c (opsX ops)), (11, .c (opsX ops)), (12, .c (.i .i64 ops.length)), (13, .c (.i .i64 k))]) (fun k => []) (fun k => ops.length - k) 0 48 rfl ⟨Nat.zero_le _, rfl⟩ ?_ (fun k hk => ?_)
  · refine ⟨?_, ?_, rfl⟩ <;> repeat' (first | exact trivial | exact entV_refl _ | apply And.intro)
    all_goals rfl
  · obtain ⟨hk, hall⟩ := hk
    conv => whnf
    refine And.intro (fun h1 => ?_) (fun h1 => ?_)
    · conv => whnf
      simp only [decide_eq_true_eq] at h1
      have h2 : k < ops.length := by omega
      have hr : (List.range ops.length).getD k 0 = k := by simp [List.getD, h2]
      refine ⟨by omega, ?_⟩
      conv => whnf
      rw [drop_all 0 _ (by simpa using h2), hr] at hall
      have hlk := getD_lens hl h2
      generalize he : ops.getD (Int.toNat (k : Int)) default = l
      have he : ops.getD k [] = l := he
      have hrow : rowB ops k = (ops.take k).all fun o => pairB l o := by rw [← he]; rfl
      rw [hrow] at hall
      rw [he] at hlk
      refine ⟨⟨by omega, by omega⟩, ?_⟩
      conv => whnf
      have hkk : (ops.take k).length = k := by rw [List.length_take]; omega
      refine loopi tab_ok (fun m => m ≤ k ∧ ((ops.take k).all fun o => pairB l o) = (((ops.take k).drop m).all fun o => pairB l o)) (fun m => [(0, .c (opsX ops)), (4, .c (oprsX l)), (11, .c (opsX ops)), (12, .c (.i .i64 ops.length)), (13, .c (.i .i64 k)), (20, .c (.rs k 1 (fun i j => nthC (encOps (ops.getD i [])) j))), (21, .c (.i .i64 k)), (22, .c (.i .i64 m))]) (fun m => []) (fun m => k - m) 0 48 rfl ⟨Nat.zero_le _, rfl⟩ ?_ (fun m hm => ?_)
      · refine ⟨?_, ?_, rfl⟩ <;> repeat' (first | exact trivial | exact entV_refl _ | exact wrap_succ (by omega) | rfl | apply And.intro)
      · obtain ⟨hm, hin⟩ := hm
        conv => whnf
        refine And.intro (fun h3 => ?_) (fun h3 => ?_)
        · conv => whnf
          simp only [decide_eq_true_eq] at h3
          have h4 : m < k := by omega
          refine ⟨by omega, ?_⟩
          conv => whnf
          rw [drop_all [] _ (by omega)] at hin
          have hlm := getD_lens hl (k := m) (by omega)
          have htk : (ops.take k).getD m [] = ops.getD m [] := by simp [List.getD, List.getElem?_take, h4]
          rw [htk] at hin
          generalize hg : ops.getD (Int.toNat (m : Int)) default = o
          have hg : ops.getD m [] = o := hg
          rw [hg] at hin hlm
          have hp : pairB l o = (txsL l).all fun a => (txsL o).all fun b => apartB a b := rfl
          refine callx_tells (txs_fn l (by omega)) rfl trivial ?_
          conv => whnf
          have htl := txsL_len l
          have hto := txsL_len o
          refine loopi tab_ok (fun u => u ≤ (txsL l).length ∧ pairB l o = (((txsL l).drop u).all fun a => (txsL o).all fun b => apartB a b)) (fun u => [(0, .c (opsX ops)), (4, .c (oprsX l)), (6, .c (oprsX o)), (11, .c (opsX ops)), (12, .c (.i .i64 ops.length)), (13, .c (.i .i64 k)), (20, .c (.rs k 1 (fun i j => nthC (encOps (ops.getD i [])) j))), (21, .c (.i .i64 k)), (22, .c (.i .i64 m)), (27, .c (feetsX (txsL l))), (28, .c (.i .i64 (txsL l).length)), (29, .c (.i .i64 u))]) (fun u => []) (fun u => (txsL l).length - u) 0 48 rfl ⟨Nat.zero_le _, rfl⟩ ?_ (fun u hu => ?_)
          · refine ⟨?_, ?_, rfl⟩ <;> repeat' (first | exact trivial | exact entV_refl _ | exact wrap_succ (by omega) | rfl | apply And.intro)
          · obtain ⟨hu, hiu⟩ := hu
            conv => whnf
            refine And.intro (fun h5 => ?_) (fun h5 => ?_)
            · conv => whnf
              simp only [decide_eq_true_eq] at h5
              have h6 : u < (txsL l).length := by omega
              refine ⟨by omega, ?_⟩
              conv => whnf
              rw [drop_all [] _ h6] at hiu
              have hla := txsL_get l u h6
              generalize ha : (txsL l).getD (Int.toNat (u : Int)) [] = a
              have ha : (txsL l).getD u [] = a := ha
              rw [ha] at hiu hla
              refine callx_tells (txs_fn o (by omega)) rfl trivial ?_
              conv => whnf
              refine loopi tab_ok (fun w => w ≤ (txsL o).length ∧ ((txsL o).all fun b => apartB a b) = (((txsL o).drop w).all fun b => apartB a b)) (fun w => [(0, .c (opsX ops)), (4, .c (oprsX l)), (6, .c (oprsX o)), (8, .c (feetX a)), (11, .c (opsX ops)), (12, .c (.i .i64 ops.length)), (13, .c (.i .i64 k)), (20, .c (.rs k 1 (fun i j => nthC (encOps (ops.getD i [])) j))), (21, .c (.i .i64 k)), (22, .c (.i .i64 m)), (27, .c (feetsX (txsL l))), (28, .c (.i .i64 (txsL l).length)), (29, .c (.i .i64 u)), (34, .c (feetsX (txsL o))), (35, .c (.i .i64 (txsL o).length)), (36, .c (.i .i64 w))]) (fun w => []) (fun w => (txsL o).length - w) 0 48 rfl ⟨Nat.zero_le _, rfl⟩ ?_ (fun w hw => ?_)
              · refine ⟨?_, ?_, rfl⟩ <;> repeat' (first | exact trivial | exact entV_refl _ | exact wrap_succ (by omega) | rfl | apply And.intro)
              · obtain ⟨hw, hiw⟩ := hw
                conv => whnf
                refine And.intro (fun h7 => ?_) (fun h7 => ?_)
                · conv => whnf
                  simp only [decide_eq_true_eq] at h7
                  have h8 : w < (txsL o).length := by omega
                  refine ⟨by omega, ?_⟩
                  conv => whnf
                  rw [drop_all [] _ h8] at hiw
                  have hlb := txsL_get o w h8
                  generalize hb : (txsL o).getD (Int.toNat (w : Int)) [] = b
                  have hb : (txsL o).getD w [] = b := hb
                  rw [hb] at hiw hlb
                  refine callx_tells (apart_fn a b (by omega) (by omega)) rfl trivial ?_
                  conv => whnf
                  refine And.intro (fun h9 => ?_) (fun h9 => ?_)
                  · conv => whnf
                    have h9 : apartB a b = false := by simpa using h9
                    rw [hall, hin, hiu, hiw, h9]
                    repeat' (first | exact trivial | exact ⟨rfl, rfl⟩ | rfl | apply And.intro)
                  · conv => whnf
                    have h9 : apartB a b = true := by simpa using h9
                    rw [h9] at hiw
                    refine ⟨w + 1, ⟨by omega, by simpa using hiw⟩, by omega, rfl, ?_⟩
                    refine ⟨?_, ?_, rfl⟩ <;> repeat' (first | exact trivial | exact entV_refl _ | exact wrap_succ (by omega) | rfl | apply And.intro)
                · conv => whnf
                  simp only [decide_eq_false_iff_not] at h7
                  obtain rfl : w = (txsL o).length := by omega
                  rw [drop_all_end] at hiw
                  rw [hiw] at hiu
                  refine ⟨u + 1, ⟨by omega, by simpa using hiu⟩, by omega, rfl, ?_⟩
                  refine ⟨?_, ?_, rfl⟩ <;> repeat' (first | exact trivial | exact entV_refl _ | exact wrap_succ (by omega) | rfl | apply And.intro)
            · conv => whnf
              simp only [decide_eq_false_iff_not] at h5
              obtain rfl : u = (txsL l).length := by omega
              rw [drop_all_end] at hiu
              rw [hiu] at hin
              refine ⟨m + 1, ⟨by omega, by simpa using hin⟩, by omega, rfl, ?_⟩
              refine ⟨?_, ?_, rfl⟩ <;> repeat' (first | exact trivial | exact entV_refl _ | exact wrap_succ (by omega) | rfl | apply And.intro)
        · conv => whnf
          simp only [decide_eq_false_iff_not] at h3
          obtain rfl : m = k := by omega
          rw [List.drop_eq_nil_of_le (by omega)] at hin
          rw [hin] at hall
          refine ⟨m + 1, ⟨by omega, by simpa using hall⟩, by omega, rfl, ?_⟩
          refine ⟨?_, ?_, rfl⟩ <;> repeat' (first | exact trivial | exact entV_refl _ | exact wrap_succ (by omega) | rfl | apply And.intro)
    · conv => whnf
      simp only [decide_eq_false_iff_not] at h1
      obtain rfl : k = ops.length := by omega
      rw [show (List.range ops.length).drop ops.length = [] from by simp] at hall
      rw [hall]
      repeat' (first | exact trivial | exact ⟨rfl, rfl⟩ | rfl | apply And.intro)
end Go.Proofs.Ytbhmplbckkipjaa
