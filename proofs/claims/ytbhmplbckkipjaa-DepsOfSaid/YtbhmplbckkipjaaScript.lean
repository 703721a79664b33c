/- Scripts: the machine that eight bytes tell. -/
import Derived.Test.YtbhmplbckkipjaaOpWord
import Derived.Test.YtbhmplbckkipjaaEngGg
import Derived.Test.YtbhmplbckkipjaaEngGh
import Derived.Test.YtbhmplbckkipjaaEngGj
namespace Go.Proofs.Ytbhmplbckkipjaa
open Go Go.Eng Go.RowKit
set_option maxRecDepth 100000
set_option maxHeartbeats 4000000
set_option linter.unusedVariables false
set_option linter.unusedSimpArgs false
structure Cf where
  cl : Int
  po : Int
  vi : Int
  he : Int
  re : Int
  la : Int
  ti : Int
  gr : Int
  ck : Int
def encCf (c : Cf) : List XC := [.i .i64 c.cl, .i .i64 c.po, .i .i64 c.vi, .i .i64 c.he, .i .i64 c.re, .i .i64 c.la, .i .i64 c.ti, .i .i64 c.gr, .i .i64 c.ck]
def cfB (b0 b1 b2 b3 b4 b5 b6 b7 : Int) : Cf := ⟨1 + b0 % 8, b1 % 4, b2 % 2, 1 + b3, 1 + 4 * b4, 1 + b5 % 8, 1 + b6, b7 % 16, 1048576⟩
def Byte (b : Int) : Prop := 0 ≤ b ∧ b ≤ 255
theorem config_fn (b0 b1 b2 b3 b4 b5 b6 b7 : Int) (h0 : Byte b0) (h1 : Byte b1) (h2 : Byte b2) (h3 : Byte b3) (h4 : Byte b4) (h5 : Byte b5) (h6 : Byte b6) (h7 : Byte b7) :
    Eng.Fn Try.prog 73 [.a [.i .u8 b0, .i .u8 b1, .i .u8 b2, .i .u8 b3, .i .u8 b4, .i .u8 b5, .i .u8 b6, .i .u8 b7]] (Tells (.a (encCf (cfB b0 b1 b2 b3 b4 b5 b6 b7)))) := by
  refine Eng.Fn.of tab_ok Try.func73 (by kernel_rfl) (by kernel_rfl) (fun w0 => ?_)
  conv => whnf
  unfold Byte at *
  have tm : ∀ {a k : Int}, 0 ≤ a → a ≤ 255 → 1 ≤ k → k ≤ 16 → a.tmod k = a % k ∧ 0 ≤ a % k ∧ a % k < k := fun {a k} ha _ hk _ => ⟨Int.tmod_eq_emod_of_nonneg ha, Int.emod_nonneg _ (by omega), Int.emod_lt_of_pos _ (by omega)⟩
  obtain ⟨e0, p0, q0⟩ := tm (k := 8) h0.1 h0.2 (by decide) (by decide)
  obtain ⟨e1, p1, q1⟩ := tm (k := 4) h1.1 h1.2 (by decide) (by decide)
  obtain ⟨e2, p2, q2⟩ := tm (k := 2) h2.1 h2.2 (by decide) (by decide)
  obtain ⟨e5, p5, q5⟩ := tm (k := 8) h5.1 h5.2 (by decide) (by decide)
  obtain ⟨e7, p7, q7⟩ := tm (k := 16) h7.1 h7.2 (by decide) (by decide)
  rw [e0, e1, e2, e5, e7]
  have w := @wrap_ok
  rw [w (n := b0 % 8) (by omega) (by omega), w (n := 1 + b0 % 8) (by omega) (by omega), w (n := b1 % 4) (by omega) (by omega), w (n := b2 % 2) (by omega) (by omega), w (n := b3) (by omega) (by omega), w (n := 1 + b3) (by omega) (by omega), w (n := b4) (by omega) (by omega), w (n := 4 * b4) (by omega) (by omega), w (n := 1 + 4 * b4) (by omega) (by omega), w (n := b5 % 8) (by omega) (by omega), w (n := 1 + b5 % 8) (by omega) (by omega), w (n := b6) (by omega) (by omega), w (n := 1 + b6) (by omega) (by omega), w (n := b7 % 16) (by omega) (by omega)]
  repeat' (first | exact trivial | exact entC_refl _ | exact ⟨rfl, rfl⟩ | apply And.intro)
structure ScS where
  ops : List (List Opr)
  pk : List Int
def setO (ops : List (List Opr)) (i : Nat) (o : Opr) : List (List Opr) := if (ops.getD i []).length < 64 then ops.set i (ops.getD i [] ++ [o]) else ops
def stepS (cl : Int) (s : ScS) (r : List Int) : ScS × List Int :=
  if r.getD 0 0 < 128 then (⟨s.ops, if s.pk.length < 4096 then s.pk ++ [r.getD 0 0 % (cl + 2)] else s.pk⟩, r.drop 1)
  else (⟨setO s.ops ((r.getD 0 0 - 128) % cl).toNat (ofR (r.drop 1)).1, s.pk⟩, (r.drop 1).drop (ofR (r.drop 1)).2.1.toNat)
def runS (cl : Int) : Nat → ScS → List Int → ScS
  | 0, s, _ => s
  | n + 1, s, r => if r = [] then s else runS cl n (stepS cl s r).1 (stepS cl s r).2
theorem stepS_len (cl : Int) (s : ScS) {r : List Int} (h : 0 < r.length) : (stepS cl s r).2.length < r.length := by
  unfold stepS
  split <;> simp only [List.length_drop] <;> omega
theorem runS_nil (cl : Int) (n : Nat) (s : ScS) : runS cl n s [] = s := by
  cases n with
  | zero => rfl
  | succ n => rw [runS, if_pos rfl]
theorem runS_fuel (cl : Int) : ∀ n, ∀ (s : ScS) (r : List Int), r.length ≤ n → ∀ m, r.length ≤ m → runS cl n s r = runS cl m s r
  | 0, s, r, h, m, _ => by
    have hr : r = [] := List.length_eq_zero_iff.1 (by omega)
    subst hr
    rw [runS_nil, runS_nil]
  | n + 1, s, r, h, m, hm => by
    by_cases hr : r = []
    · subst hr; rw [runS_nil, runS_nil]
    · have hp : 0 < r.length := List.length_pos_iff.2 hr
      have hlt := stepS_len cl s hp
      cases m with
      | zero => omega
      | succ m =>
        rw [runS, runS, if_neg hr, if_neg hr]
        exact runS_fuel cl n _ _ (by omega) m (by omega)
theorem runS_step (cl : Int) (s : ScS) {r : List Int} (h : 0 < r.length) : runS cl r.length s r = runS cl (stepS cl s r).2.length (stepS cl s r).1 (stepS cl s r).2 := by
  have hlt := stepS_len cl s h
  have hr : r ≠ [] := List.length_pos_iff.1 h
  obtain ⟨n, hn⟩ : ∃ n, r.length = n + 1 := ⟨r.length - 1, by omega⟩
  rw [hn, runS, if_neg hr]
  exact runS_fuel cl n _ _ (by omega) _ (Nat.le_refl _)
def cfL (l : List Int) : Cf := cfB (l.getD 0 0) (l.getD 1 0) (l.getD 2 0) (l.getD 3 0) (l.getD 4 0) (l.getD 5 0) (l.getD 6 0) (l.getD 7 0)
def takeS (l : List Int) : ScS := runS (cfL l).cl l.length ⟨List.replicate (cfL l).cl.toNat [], []⟩ (l.drop 8)
def encOpsS (l : List Opr) : List XC := [rowX encO default 7 l]
def opsA (l : List Opr) : AbsL := match l with
  | [] => PackL [.v (.slice none 0 0)] []
  | _ => PackL [.ow 0] [.row 37 7 (l.map encO)]
def planX (c : Cf) (s : ScS) : XV := .a [.i .i64 c.cl, .i .i64 c.po, .i .i64 c.vi, .i .i64 c.he, .i .i64 c.re, .i .i64 c.la, .i .i64 c.ti, .i .i64 c.gr, .i .i64 c.ck, rowX encOpsS [] 1 s.ops, intsX s.pk]
theorem rowX_entS {α : Type} (enc : α → List XC) (d : α) (z : Nat) (l : List α) {xs : List (List XC)} (h : entLL xs (l.map enc)) : entC (rsOf xs z) (rowX enc d z l) := by
  have hl := entLL_len h
  rw [List.length_map] at hl
  refine ⟨hl, rfl, fun i hi j hj => ?_⟩
  have h1 := nthC_ent (nthL_ent h i (by rw [hl]; simpa using hi)) j
  rw [nthL_map _ d l i hi] at h1
  exact h1
theorem ints_entS {l : List Int} : entC (rsOf (l.map fun n => [XC.i .i64 n]) 1) (intsX l) := by
  refine ⟨List.length_map .., rfl, fun i hi j hj => ?_⟩
  obtain rfl : j = 0 := by omega
  have hi : i < l.length := hi
  show entC (nthC (nthL (l.map fun n => [XC.i .i64 n]) i) 0) (.i .i64 (l.getD i 0))
  rw [nthL_map _ 0 l i hi]
  exact entC_refl _
theorem opsA_ent (os : List (List Opr)) : entC (rsP (os.map opsA) 1) (rowX encOpsS [] 1 os) := by
  refine ⟨List.length_map .., rfl, fun i hi j hj => ?_⟩
  obtain rfl : j = 0 := by omega
  have hi : i < os.length := hi
  have hat : (os.map opsA)[i]? = some (opsA (os.getD i [])) := by
    rw [List.getElem?_map, List.getD_eq_getElem?_getD]
    rw [List.getElem?_eq_getElem (by simpa using hi)]
    rfl
  show entC (nthC (fzAt (os.map opsA) i) 0) (nthC (encOpsS (os.getD i [])) 0)
  rw [fzAt_eq hat]
  generalize os.getD i [] = x
  cases x with
  | nil => exact ⟨rfl, rfl⟩
  | cons y ys => exact rowX_entS encO default 7 (y :: ys) (entLL_refl _)
theorem ofR_size (l : List Int) (hb : ∀ k, Byte (l.getD k 0)) : 0 ≤ (ofR l).2.1 ∧ (ofR l).2.1 ≤ (l.length : Int) := by
  unfold ofR
  split
  · rename_i hg
    refine ⟨?_, hg.2.1⟩
    have h0 : 0 ≤ at8 l 0 := (hb 0).1
    have hd : 0 ≤ dpI l := by unfold dpI; omega
    show 0 ≤ sizeI l
    unfold sizeI
    split <;> omega
  · exact ⟨Int.le_refl _, Int.natCast_nonneg _⟩
theorem bs_drop1n (r : List Int) (k : Nat) : entC (.rs (r.length - Int.toNat 1 - k) 1 (fun i => (fun i => (fun i (_ : Nat) => .i .u8 (r.getD i 0)) (Int.toNat 1 + i)) (k + i))) (bytesX ((r.drop 1).drop k)) :=
  bytes_ent (by rw [List.length_drop, List.length_drop]; rfl) fun i hi => by
    show XC.i .u8 (at8 r (1 + (k + i))) = XC.i .u8 (at8 ((r.drop 1).drop k) i)
    rw [at8_drop, at8_drop]
theorem bs_drop8 (l : List Int) : entC (.rs (l.length - Int.toNat ((Nat.min l.length 8 : Nat) : Int)) 1 (fun i => (fun i (_ : Nat) => .i .u8 (l.getD i 0)) (Int.toNat ((Nat.min l.length 8 : Nat) : Int) + i))) (bytesX (l.drop 8)) := by
  have hm : Nat.min l.length 8 = l.length ∧ l.length ≤ 8 ∨ Nat.min l.length 8 = 8 ∧ 8 ≤ l.length := by
    rcases Nat.le_total l.length 8 with h | h
    · exact .inl ⟨Nat.min_eq_left h, h⟩
    · exact .inr ⟨Nat.min_eq_right h, h⟩
  rw [Int.toNat_natCast]
  generalize Nat.min l.length 8 = m at hm ⊢
  refine bytes_ent (by rw [List.length_drop]; omega) fun i hi => ?_
  rcases hm with ⟨h1, h2⟩ | ⟨h1, h2⟩
  · omega
  · show XC.i .u8 (at8 l (m + i)) = XC.i .u8 (at8 (l.drop 8) i)
    rw [at8_drop, h1]
theorem ops_nil (z : List XC) (hz : z = [.v (.slice none 0 0)]) : ∀ n : Nat, leA (List.map StL (List.replicate n z)) (List.map opsA (List.replicate n []))
  | 0 => trivial
  | n + 1 => by
    rw [List.replicate_succ, List.replicate_succ]
    exact ⟨by subst hz; exact stL_pack _, ops_nil z hz n⟩
theorem take_fn (l : List Int) (hb : ∀ i, Byte (l.getD i 0)) (hl : l.length ≤ 100000) : Eng.Fn Try.prog 15 [.c (bytesX l)] (Tells (planX (cfL l) (takeS l))) := by
  refine Eng.Fn.ofZJ tab_ok [100015, 200000] Try.func15 (by kernel_rfl) (by kernel_rfl) ?_ (fun w0 => ?_)
  · exact fun y hy => allSt_iff (l := [.i .i64 (cfL l).cl, .i .i64 (cfL l).po, .i .i64 (cfL l).vi, .i .i64 (cfL l).he, .i .i64 (cfL l).re, .i .i64 (cfL l).la, .i .i64 (cfL l).ti, .i .i64 (cfL l).gr, .i .i64 (cfL l).ck, rowX encOpsS [] 1 (takeS l).ops, intsX (takeS l).pk]) rfl y hy
  conv => whnf
  have hcf := config_fn (l.getD 0 0) (l.getD 1 0) (l.getD 2 0) (l.getD 3 0) (l.getD 4 0) (l.getD 5 0) (l.getD 6 0) (l.getD 7 0) (hb 0) (hb 1) (hb 2) (hb 3) (hb 4) (hb 5) (hb 6) (hb 7)
  have hcl : 1 ≤ (cfL l).cl ∧ (cfL l).cl ≤ 8 := by
    unfold cfL cfB; dsimp only; omega
  have hcf : Eng.Fn Try.prog 73 [.a [.i .u8 (l.getD 0 0), .i .u8 (l.getD 1 0), .i .u8 (l.getD 2 0), .i .u8 (l.getD 3 0), .i .u8 (l.getD 4 0), .i .u8 (l.getD 5 0), .i .u8 (l.getD 6 0), .i .u8 (l.getD 7 0)]] (Tells (.a (encCf (cfL l)))) := hcf
  have hfin0 : runS (cfL l).cl (l.drop 8).length ⟨List.replicate (cfL l).cl.toNat [], []⟩ (l.drop 8) = takeS l :=
    runS_fuel _ _ _ _ (Nat.le_refl _) _ (by rw [List.length_drop]; omega)
  generalize takeS l = fin at *
  generalize cfL l = c at *
  refine scopel tab_ok 0 rfl (fun i : ScS × List Int => (∀ k, Byte (i.2.getD k 0)) ∧ i.2.length ≤ 100000 ∧ (i.1.ops.length : Int) = c.cl ∧ runS c.cl i.2.length i.1 i.2 = fin) (fun i => [(0, .c (bytesX i.2)), (2, .c (.p 0 0)), (4, .c (.p 2 0))])
    (fun i => [.cells 29 [.il .i64 0, .il .i64 0, .il .i64 0, .il .i64 0, .il .i64 0, .il .i64 0, .il .i64 0, .il .i64 0, .il .i64 0, .v (.slice none 0 0), .v (.slice none 0 0)], .dead, .cells 29 [.i .i64 c.cl, .i .i64 c.po, .i .i64 c.vi, .i .i64 c.he, .i .i64 c.re, .i .i64 c.la, .i .i64 c.ti, .i .i64 c.gr, .i .i64 c.ck, .ow 3, .ow 4], .prow 31 1 (i.1.ops.map opsA) none, .row 3 1 (i.1.pk.map fun n => [.i .i64 n])]) (fun i => i.2.length) 84 ?_ (fun i hi => ?_)
  · conv => whnf
    refine opx_copyB tab_ok [.i .u8 (l.getD 0 0), .i .u8 (l.getD 1 0), .i .u8 (l.getD 2 0), .i .u8 (l.getD 3 0), .i .u8 (l.getD 4 0), .i .u8 (l.getD 5 0), .i .u8 (l.getD 6 0), .i .u8 (l.getD 7 0)] rfl rfl rfl rfl rfl rfl rfl rfl rfl ?_ ?_ ?_
    · intro i _ hi
      have : i = 0 ∨ i = 1 ∨ i = 2 ∨ i = 3 ∨ i = 4 ∨ i = 5 ∨ i = 6 ∨ i = 7 := by omega
      rcases this with e | e | e | e | e | e | e | e <;> (subst e; exact ⟨rfl, rfl⟩)
    · intro i hm hi
      have h0 : l.getD i 0 = 0 := getD_big hm
      have : i = 0 ∨ i = 1 ∨ i = 2 ∨ i = 3 ∨ i = 4 ∨ i = 5 ∨ i = 6 ∨ i = 7 := by omega
      rcases this with e | e | e | e | e | e | e | e <;> (subst e; exact ⟨rfl, h0.symm⟩)
    conv => whnf
    refine ⟨⟨by omega, by have : Nat.min l.length 8 ≤ l.length := Nat.min_le_left _ _; omega⟩, ?_⟩
    conv => whnf
    refine callx_tells hcf rfl (fun y hy => allSt_iff (l := encCf c) rfl y hy) ?_
    conv => whnf
    refine ⟨by omega, ?_⟩
    conv => whnf
    refine labx_packs 3 31 1 rfl ?_
    conv => whnf
    refine labx_gh (.nil 2 10 4 3 1 false) ?_
    conv => whnf
    refine labx_go ?_
    refine ⟨(⟨List.replicate c.cl.toNat [], []⟩, l.drop 8), ⟨fun k => ?_, ?_, ?_, ?_⟩, rfl, ?_⟩
    · show Byte (at8 (l.drop 8) k)
      rw [at8_drop]; exact hb _
    · rw [List.length_drop]; omega
    · rw [List.length_replicate]; omega
    · exact hfin0
    refine ⟨?_, ?_, rfl⟩ <;> repeat' (first | exact trivial | exact entV_refl _ | exact bs_drop8 l | exact entC_refl _ | exact leA_refl _ | exact entLL_refl _ | exact ops_nil _ rfl _ | rfl | apply And.intro)
  · obtain ⟨s, r⟩ := i
    obtain ⟨hr, hrl, hops, hfin⟩ := hi
    dsimp only at hr hrl hops hfin ⊢
    conv => whnf
    refine And.intro (fun h1 => ?_) (fun h1 => ?_)
    · have h1 : r = [] := List.length_eq_zero_iff.1 (by have : (r.length : Int) = 0 := by simpa using h1
                                                        omega)
      subst h1
      have hfin : s = fin := hfin
      subst hfin
      conv => whnf
      repeat' (first | exact trivial | exact entC_refl _ | exact opsA_ent _ | exact ints_entS | apply And.intro)
    · have h0 : 0 < r.length := by
        have : ¬ (r.length : Int) = 0 := by simpa using h1
        omega
      conv => whnf
      refine ⟨by omega, ?_⟩
      conv => whnf
      refine ⟨by omega, ?_⟩
      conv => whnf
      have hstep := runS_step c.cl s h0
      rw [hfin] at hstep
      have hx : Byte (r.getD 0 0) := hr 0
      have hw : IntKind.i64.wrap (r.getD 0 0) = r.getD 0 0 := by unfold Byte at hx; exact wrap_ok (by omega) (by omega)
      have hr1 : ∀ k, Byte ((r.drop 1).getD k 0) := fun k => by
        have : (r.drop 1).getD k 0 = r.getD (1 + k) 0 := by rw [List.getD_eq_getElem?_getD, List.getD_eq_getElem?_getD, List.getElem?_drop]
        rw [this]; exact hr _
      refine And.intro (fun h2 => ?_) (fun h2 => ?_)
      · have h2 : r.getD 0 0 < 128 := by
          have : IntKind.i64.wrap (r.getD 0 0) < 128 := by simpa using h2
          rw [hw] at this; exact this
        rw [stepS, if_pos h2] at hstep
        conv => whnf
        refine And.intro (fun h3 => ?_) (fun h3 => ?_)
        · have h3 : s.pk.length < 4096 := by simp at h3; omega
          have hw2 : IntKind.i64.wrap (c.cl + 2) = c.cl + 2 := wrap_ok (by omega) (by omega)
          have hm : (r.getD 0 0).tmod (c.cl + 2) = r.getD 0 0 % (c.cl + 2) := by
            unfold Byte at hx
            exact Int.tmod_eq_emod_of_nonneg hx.1
          refine drawx_plan tab_ok [2, 4] (.take 0 (.take 2 (.take 3 (.take 4 (.two 1 5 (.one 5 (.take 6 (.take 7 (.one 8 (.one 9 (.take 10 (.one 11 (.done)))))))) (.take 6 (.take 7 (.two 1 8 (.one 8 (.one 9 (.take 10 (.one 11 (.done))))) (.one 1 (.one 9 (.take 10 (.one 11 (.done))))))))))))) (by kernel_rfl) (by kernel_rfl) (by kernel_rfl) ?_
          conv => whnf
          rw [if_pos h3] at hstep
          repeat' (first
            | (refine ⟨by rw [hw2]; omega, ?_⟩; conv => whnf)
            | (refine ⟨by simp only [List.length_map, List.length_cons, List.length_nil]; omega, ?_⟩; conv => whnf)
            | (apply And.intro <;> conv => whnf))
          all_goals
            refine gotox_go ?_
            conv => whnf
            refine ⟨(⟨s.ops, s.pk ++ [r.getD 0 0 % (c.cl + 2)]⟩, r.drop 1), ⟨hr1, by rw [List.length_drop]; omega, hops, hstep.symm⟩, by rw [List.length_drop]; omega, rfl, ?_⟩
            refine ⟨?_, ?_, rfl⟩ <;> repeat' (first | exact trivial | exact entV_refl _ | exact entC_refl _ | exact leA_refl _ | exact entLL_refl _ | exact bs_drop r 1 | rfl | apply And.intro)
            all_goals (rw [List.map_append, show IntKind.i64.wrap (r.getD (Int.toNat 0) 0) = r.getD 0 0 from hw, hw2, hm]; exact entLL_refl _)
        · have h3 : ¬ s.pk.length < 4096 := by simp at h3; omega
          rw [if_neg h3] at hstep
          conv => whnf
          refine gotox_go ?_
          conv => whnf
          refine ⟨(⟨s.ops, s.pk⟩, r.drop 1), ⟨hr1, by rw [List.length_drop]; omega, hops, hstep.symm⟩, by rw [List.length_drop]; omega, rfl, ?_⟩
          refine ⟨?_, ?_, rfl⟩ <;> repeat' (first | exact trivial | exact entV_refl _ | exact entC_refl _ | exact leA_refl _ | exact entLL_refl _ | exact bs_drop r 1 | rfl | apply And.intro)
      · have h2 : ¬ r.getD 0 0 < 128 := by
          have : ¬ IntKind.i64.wrap (r.getD 0 0) < 128 := by simpa using h2
          rw [hw] at this; exact this
        rw [stepS, if_neg h2] at hstep
        have hm : (IntKind.i64.wrap (IntKind.i64.wrap (r.getD 0 0) - 128)).tmod c.cl = (r.getD 0 0 - 128) % c.cl := by
          rw [hw]
          unfold Byte at hx
          rw [wrap_ok (n := r.getD 0 0 - 128) (by omega) (by omega), Int.tmod_eq_emod_of_nonneg (by omega)]
        conv => whnf
        refine ⟨by omega, ?_⟩
        conv => whnf
        have hof := opOf_fn (r.drop 1) (by rw [List.length_drop]; omega) hr1
        refine callx_says hof ⟨bs_drop r 1, trivial⟩ rfl (ofR_st _ _ _) ?_
        conv => whnf
        have hsz := ofR_size (r.drop 1) hr1
        rw [List.length_drop] at hsz
        generalize hof2 : ofR (r.drop 1) = res at *
        obtain ⟨o, sz, er⟩ := res
        have hsz : 0 ≤ sz ∧ sz ≤ ((r.length - 1 : Nat) : Int) := hsz
        refine ⟨⟨hsz.1, hsz.2⟩, ?_⟩
        conv => whnf
        have hq0 : 0 ≤ (r.getD 0 0 - 128) % c.cl := Int.emod_nonneg _ (by omega)
        have hq1 : (r.getD 0 0 - 128) % c.cl < c.cl := Int.emod_lt_of_pos _ (by omega)
        have hm2 : (IntKind.i64.wrap (IntKind.i64.wrap (r.getD (Int.toNat 0) 0) - 128)).tmod c.cl = (r.getD 0 0 - 128) % c.cl := hm
        obtain ⟨q, hq⟩ : ∃ q : Nat, (r.getD 0 0 - 128) % c.cl = q := ⟨((r.getD 0 0 - 128) % c.cl).toNat, by omega⟩
        rw [hq] at hm2 hstep hq1
        have hql : q < s.ops.length := by omega
        have hat : (s.ops.map opsA)[q]? = some (opsA (s.ops.getD q [])) := by
          rw [List.getElem?_map, List.getD_eq_getElem?_getD]
          rw [List.getElem?_eq_getElem hql]
          rfl
        rw [hm2]
        generalize hxs : s.ops.getD q [] = xs at hat
        have hr2 : ∀ k, Byte (((r.drop 1).drop sz.toNat).getD k 0) := fun k => by
          have : ((r.drop 1).drop sz.toNat).getD k 0 = (r.drop 1).getD (sz.toNat + k) 0 := by rw [List.getD_eq_getElem?_getD, List.getD_eq_getElem?_getD, List.getElem?_drop]
          rw [this]; exact hr1 _
        have hset : ∀ xs2 : List Opr, xs2 ≠ [] → (s.ops.map opsA).set q (PackL [.ow 0] [.row 37 7 (xs2.map encO)]) = (s.ops.set q xs2).map opsA := fun xs2 hne => by
          rw [List.map_set]
          cases xs2 with
          | nil => exact absurd rfl hne
          | cons _ _ => rfl
        rw [Int.toNat_natCast] at hstep
        cases xs with
        | nil =>
          refine regx_gh (.open_ 3 q [.v (.slice none 0 0)] []) ?_
          conv => whnf
          refine ⟨hat, ?_⟩
          conv => whnf
          refine regx_go tab_ok ?_
          conv => whnf
          refine ⟨by rw [List.length_map]; omega, ?_⟩
          conv => whnf
          refine .inl ⟨Int.toNat_natCast _, ?_⟩
          conv => whnf
          refine drawx_plan tab_ok [3] (.take 0 (.take 1 (.take 2 (.take 3 (.take 4 (.take 5 (.take 6 (.take 8 (.two 7 9 (.one 9 (.one 10 (.take 11 (.one 12 (.done))))) (.one 7 (.one 10 (.take 11 (.one 12 (.done)))))))))))))) (by kernel_rfl) (by kernel_rfl) (by kernel_rfl) ?_
          conv => whnf
          repeat' (first
            | (refine ⟨by rw [List.length_map]; omega, ?_⟩; conv => whnf)
            | (refine .inl ⟨Int.toNat_natCast _, ?_⟩; conv => whnf)
            | (refine ⟨Int.toNat_natCast _, ?_⟩; conv => whnf)
            | (refine ⟨by simp only [List.length_map, List.length_cons, List.length_nil]; omega, ?_⟩; conv => whnf)
            | (apply And.intro <;> conv => whnf))
          all_goals
            have hs64 : setO s.ops q o = s.ops.set q [o] := by
              unfold setO; rw [hxs]; exact if_pos (by decide)
            rw [hs64] at hstep
            refine gotox_gh (.close 3 [7] [.ow 0] [.row 37 7 ([o].map encO)]) ?_
            conv => whnf
            refine ⟨⟨entC_refl _, trivial⟩, ?_⟩
            conv => whnf
            refine ⟨?_, ?_⟩
            · repeat' (first | exact trivial | rfl | exact entLL_refl _ | apply And.intro)
            conv => whnf
            refine gotox_go ?_
            conv => whnf
            refine ⟨(⟨s.ops.set q [o], s.pk⟩, (r.drop 1).drop sz.toNat), ⟨hr2, by rw [List.length_drop, List.length_drop]; omega, by rw [List.length_set]; exact hops, hstep.symm⟩, by rw [List.length_drop, List.length_drop]; omega, rfl, ?_⟩
            refine ⟨?_, ?_, rfl⟩ <;> repeat' (first | exact trivial | exact entV_refl _ | exact entC_refl _ | exact leA_refl _ | exact entLL_refl _ | exact bs_drop1n r sz.toNat | exact leA_of_eq (hset [o] (by simp)) | rfl | apply And.intro)
        | cons y ys =>
          have hlxs : (y :: ys).length ≤ 64 ∨ True := .inr trivial
          refine regx_gh (.open_ 3 q [.ow 0] [.row 37 7 ((y :: ys).map encO)]) ?_
          conv => whnf
          refine ⟨hat, ?_⟩
          conv => whnf
          refine regx_go tab_ok ?_
          conv => whnf
          refine ⟨by rw [List.length_map]; omega, ?_⟩
          conv => whnf
          refine .inl ⟨Int.toNat_natCast _, ?_⟩
          conv => whnf
          refine And.intro (fun h5 => ?_) (fun h5 => ?_)
          · have h6 : (y :: ys).length < 64 := by
              have h5 : (((y :: ys).map encO).length : Int) < 64 := of_decide_eq_true h5
              rw [List.length_map] at h5; omega
            have hs64 : setO s.ops q o = s.ops.set q ((y :: ys) ++ [o]) := by
              unfold setO; rw [hxs]; exact if_pos h6
            rw [hs64] at hstep
            conv => whnf
            refine drawx_plan tab_ok [3, 6] (.take 0 (.take 1 (.take 2 (.take 3 (.take 4 (.take 5 (.take 6 (.take 8 (.two 7 9 (.one 9 (.one 10 (.take 11 (.one 12 (.done))))) (.one 7 (.one 10 (.take 11 (.one 12 (.done)))))))))))))) (by kernel_rfl) (by kernel_rfl) (by kernel_rfl) ?_
            conv => whnf
            repeat' (first
              | (refine ⟨by rw [List.length_map]; omega, ?_⟩; conv => whnf)
              | (refine .inl ⟨Int.toNat_natCast _, ?_⟩; conv => whnf)
              | (refine ⟨Int.toNat_natCast _, ?_⟩; conv => whnf)
              | (refine ⟨by show (_ : Nat) ≤ _; rw [List.length_map]; simp only [List.length_cons, List.length_nil] at h6 ⊢; omega, ?_⟩; conv => whnf)
              | (apply And.intro <;> conv => whnf))
            all_goals first
              | (show (_ : Nat) ≤ _; rw [List.length_map]; simp only [List.length_cons, List.length_nil] at h6 ⊢; omega)
              | skip
            all_goals
              refine gotox_gh (.close 3 [6] [.ow 0] [.row 37 7 (((y :: ys) ++ [o]).map encO)]) ?_
              conv => whnf
              refine ⟨⟨entC_refl _, trivial⟩, ?_⟩
              conv => whnf
              refine ⟨?_, ?_⟩
              · repeat' (first | exact trivial | rfl | exact entLL_refl _ | apply And.intro)
                all_goals exact entLL_of_eq (List.map_append (f := encO) (l₁ := ys) (l₂ := [o])).symm
              conv => whnf
              refine gotox_go ?_
              conv => whnf
              refine ⟨(⟨s.ops.set q ((y :: ys) ++ [o]), s.pk⟩, (r.drop 1).drop sz.toNat), ⟨hr2, by rw [List.length_drop, List.length_drop]; omega, by rw [List.length_set]; exact hops, hstep.symm⟩, by rw [List.length_drop, List.length_drop]; omega, rfl, ?_⟩
              refine ⟨?_, ?_, rfl⟩ <;> repeat' (first | exact trivial | exact entV_refl _ | exact entC_refl _ | exact leA_refl _ | exact entLL_refl _ | exact bs_drop1n r sz.toNat | exact leA_of_eq (hset ((y :: ys) ++ [o]) (by simp)) | rfl | apply And.intro)
          · have h6 : ¬ (y :: ys).length < 64 := by
              have h5 : ¬ (((y :: ys).map encO).length : Int) < 64 := of_decide_eq_false h5
              rw [List.length_map] at h5; omega
            have hs64 : setO s.ops q o = s.ops := by
              unfold setO; rw [hxs]; exact if_neg h6
            rw [hs64] at hstep
            have hsame : s.ops.set q (y :: ys) = s.ops := by
              rw [← hxs, List.getD_eq_getElem?_getD, List.getElem?_eq_getElem hql]; exact List.set_getElem_self hql
            conv => whnf
            refine gotox_gh (.close 3 [6] [.ow 0] [.row 37 7 ((y :: ys).map encO)]) ?_
            conv => whnf
            refine ⟨⟨entC_refl _, trivial⟩, ?_⟩
            conv => whnf
            refine ⟨?_, ?_⟩
            · repeat' (first | exact trivial | rfl | exact entLL_refl _ | apply And.intro)
            conv => whnf
            refine gotox_go ?_
            conv => whnf
            refine ⟨(s, (r.drop 1).drop sz.toNat), ⟨hr2, by rw [List.length_drop, List.length_drop]; omega, hops, hstep.symm⟩, by rw [List.length_drop, List.length_drop]; omega, rfl, ?_⟩
            refine ⟨?_, ?_, rfl⟩ <;> repeat' (first | exact trivial | exact entV_refl _ | exact entC_refl _ | exact leA_refl _ | exact entLL_refl _ | exact bs_drop1n r sz.toNat | exact leA_of_eq ((hset (y :: ys) (by simp)).trans (by rw [hsame])) | rfl | apply And.intro)
end Go.Proofs.Ytbhmplbckkipjaa
