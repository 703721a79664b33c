/- The log: how many there are of one. -/
import Derived.Test.YtehbalkhboedeaaUnd2
import Derived.Test.YtehbalkhboedeaaEngGg
import Derived.Test.YtehbalkhboedeaaEngGh
import Derived.Test.YtehbalkhboedeaaEngGv
namespace Go.Proofs.Ytehbalkhboedeaa
open Go Go.Eng Go.RowKit
set_option maxRecDepth 100000
set_option maxHeartbeats 8000000
set_option linter.unusedVariables false
set_option linter.unusedSimpArgs false
theorem nodup_leU : ∀ {s t : List Int}, s.Nodup → (∀ x ∈ s, x ∈ t) → s.length ≤ t.length
  | [], t, _, _ => Nat.zero_le _
  | a :: s, t, hn, h => by
    have ha := h a (by simp)
    have h1 := List.nodup_cons.1 hn
    have h2 := nodup_leU (s := s) (t := t.erase a) h1.2 fun x hx => (List.mem_erase_of_ne (show x ≠ a from fun e => h1.1 (by rw [← e]; exact hx))).2 (h x (by simp [hx]))
    rw [List.length_erase_of_mem ha] at h2
    have : 0 < t.length := List.length_pos_of_mem ha
    simp only [List.length_cons]; omega
/-- A closure over one pointer, by other numbers. -/
theorem ent_fnU {f a b : Nat} {σ : Nat → Nat} (h : σ b = a) : entV (.c (.fn f 1 (nthC [.p a 0]))) (renV σ (.c (.fn f 1 (nthC [.p b 0])))) := by
  refine .inr ?_
  show XC.fn f 1 (nthC [.p a 0]) = XC.fn f 1 fun j => renC σ (nthC [.p b 0] j)
  congr 1
  funext j
  cases j with
  | zero => show XC.p a 0 = XC.p (σ b) 0; rw [h]
  | succ j => rfl
theorem take_snocU {α : Type} (d : α) {l : List α} {k : Nat} (h : k < l.length) : l.take (k + 1) = l.take k ++ [l.getD k d] := by
  rw [List.take_add_one, List.getD_eq_getElem?_getD, List.getElem?_eq_getElem h]
  rfl
theorem mem_atU {α : Type} (d : α) {l : List α} {k : Nat} (h : k < l.length) : l.getD k d ∈ l := by
  rw [List.getD_eq_getElem?_getD, List.getElem?_eq_getElem h]; exact List.getElem_mem h
theorem ints_entU {l : List Int} {xs : List (List XC)} (h : entLL xs (l.map fun n => [.i .i64 n])) : entC (rsOf xs 1) (intsX l) := by
  have hl := entLL_len h
  rw [List.length_map] at hl
  refine ⟨hl, rfl, fun i hi j hj => ?_⟩
  have h1 := nthC_ent (nthL_ent h i (by rw [hl]; simpa using hi)) j
  obtain rfl : j = 0 := by omega
  rw [nthL_map (fun n => [XC.i .i64 n]) 0 l i (by simpa using hi)] at h1
  exact h1
abbrev Lg := List (Int × Rw)
/-- What a log has at each. -/
def gOf (l : Lg) (k : Int) : List Rw := (l.filter fun p => p.1 == k).map (·.2)
theorem gOf_ne {l : Lg} {k : Int} : gOf l k ≠ [] ↔ k ∈ l.map (·.1) := by
  unfold gOf
  simp only [ne_eq, List.map_eq_nil_iff, List.filter_eq_nil_iff, List.mem_map, Classical.not_forall, beq_iff_eq, Classical.not_not]
  constructor
  · rintro ⟨p, hp, e⟩; exact ⟨p, hp, e⟩
  · rintro ⟨p, hp, e⟩; exact ⟨p, hp, e⟩
theorem gOf_len (l : Lg) (k : Int) : (gOf l k).length ≤ l.length := by
  unfold gOf
  rw [List.length_map]; exact List.length_filter_le _ _
def LgOk (l : Lg) : Prop := l.length ≤ 1000 ∧ ∀ p ∈ l, (Lit.int .i64 p.1).wf = true
/-- The keys in order. -/
structure KsOk (g : Int → List Rw) (ks : List Int) : Prop where
  mem : ∀ k, k ∈ ks ↔ g k ≠ []
  ris : ks.Pairwise (· < ·)
theorem dom_len {l : Lg} {dom : List (List Int)} (hd : DomOk (gOf l) dom) : dom.length ≤ l.length := by
  have h1 : (dom.map fun q => q.headD 0).Nodup := by
    rw [List.nodup_iff_pairwise_ne, List.pairwise_map]
    refine hd.2.2.imp_of_mem fun {a b} ha hb hab e => hab ?_
    have h1 := hd.2.1 a ha
    have h2 := hd.2.1 b hb
    match a, b, h1, h2 with
    | [x], [y], _, _ => rw [show x = y from e]
  have h2 : ∀ k ∈ dom.map fun q => q.headD 0, k ∈ l.map (·.1) := fun k hk => by
    obtain ⟨q, hq, rfl⟩ := List.mem_map.1 hk
    have h1 := hd.2.1 q hq
    match q, h1, hq with
    | [x], _, hq => exact gOf_ne.1 ((hd.1 x).1 hq)
  have := nodup_leU h1 h2
  simpa using this
theorem dom_ks {l : Lg} {dom : List (List Int)} (hd : DomOk (gOf l) dom) : KsOk (gOf l) (sortL (dom.map fun q => q.headD 0)) := by
  have hp : (sortL (dom.map fun q => q.headD 0)).Perm (dom.map fun q => q.headD 0) := List.mergeSort_perm _ _
  have h1 : (dom.map fun q => q.headD 0).Nodup := by
    rw [List.nodup_iff_pairwise_ne, List.pairwise_map]
    refine hd.2.2.imp_of_mem fun {a b} ha hb hab e => hab ?_
    have h1 := hd.2.1 a ha
    have h2 := hd.2.1 b hb
    match a, b, h1, h2 with
    | [x], [y], _, _ => rw [show x = y from e]
  refine ⟨fun k => ?_, ?_⟩
  · rw [hp.mem_iff, ← hd.1 k]
    constructor
    · intro hk
      obtain ⟨q, hq, rfl⟩ := List.mem_map.1 hk
      have h1 := hd.2.1 q hq
      match q, h1, hq with
      | [x], _, hq => exact hq
    · intro hk; exact List.mem_map.2 ⟨[k], hk, rfl⟩
  · have h2 := hp.nodup_iff.2 h1
    have h3 : (sortL (dom.map fun q => q.headD 0)).Pairwise (· ≤ ·) := by
      have := List.pairwise_mergeSort (le := fun x y : Int => decide (x ≤ y)) (by intro a b c; simp; omega) (by intro a b; simp; omega) (dom.map fun q => q.headD 0)
      exact this.imp fun h => by simpa using h
    exact (List.nodup_iff_pairwise_ne.1 h2).imp₂ (fun _ _ h h' => by omega) h3
/-- How many of k have come when i keys have been told. -/
def cntK (g : Int → List Rw) (k : Int) (ks : List Int) (i : Nat) : Nat := if k ∈ ks.take i then (g k).length else 0
theorem at_notin {ks : List Int} (h : ks.Pairwise (· < ·)) {i : Nat} (hi : i < ks.length) : ks.getD i 0 ∉ ks.take i := by
  intro hx
  obtain ⟨j, hj, e⟩ := List.mem_take_iff_getElem.1 hx
  have := (List.pairwise_iff_getElem.1 h) j i (by omega) hi (by omega)
  rw [List.getD_eq_getElem?_getD, List.getElem?_eq_getElem hi] at e
  have e : ks[j] = ks[i] := e
  omega
theorem cntK_snoc {g : Int → List Rw} {k : Int} {ks : List Int} (h : KsOk g ks) {i : Nat} (hi : i < ks.length) : cntK g k ks (i + 1) = cntK g k ks i + if ks.getD i 0 = k then (g k).length else 0 := by
  unfold cntK
  rw [take_snocU 0 hi]
  have := at_notin h.ris hi
  generalize ks.getD i 0 = y at *
  by_cases e : y = k
  · subst e; simp [this]
  · have e2 : ¬ k = y := fun h => e h.symm
    simp [e, e2]
theorem cntK_at {g : Int → List Rw} {k : Int} {ks : List Int} (h : KsOk g ks) {i j : Nat} (hi : i < ks.length) : ks.getD i 0 = k → cntK g k ks i = 0 := by
  intro e
  subst e
  unfold cntK
  rw [if_neg (at_notin h.ris hi)]
theorem cntK_all {g : Int → List Rw} {k : Int} {ks : List Int} (h : KsOk g ks) : cntK g k ks ks.length = (g k).length := by
  unfold cntK
  rw [List.take_length]
  split
  · rfl
  · rename_i hk
    have : g k = [] := Classical.byContradiction fun e => hk ((h.mem k).2 e)
    rw [this]; rfl
theorem encU_len {l : List Rw} : ∀ m ∈ l.map encU, m.length = 6 := fun m hm => by
  obtain ⟨r, _, rfl⟩ := List.mem_map.1 hm; rfl
theorem encU_flat {l : List Rw} : ∀ m ∈ l.map encU, flatL m = true := fun m hm => by
  obtain ⟨r, _, rfl⟩ := List.mem_map.1 hm; rfl
theorem len_fn (l : Lg) (k : Int) (hl : LgOk l) :
    FnM Try.prog 17 [.c (.p 0 0), .c (.i .i64 k)] [logI, logA (gOf l)] [.p 0 0] (.c (.i .i64 (gOf l k).length)) [logI, logA (gOf l)] := by
  refine FnM.of tab_ok Try.func17 (by kernel_rfl) (by kernel_rfl) (fun vs => ?_)
  conv => whnf
  refine callx_inline tab_ok Try.func19 (by kernel_rfl) (by kernel_rfl) (fun us => ?_)
  conv => whnf
  refine ⟨rfl, ?_⟩
  conv => whnf
  refine rangex_in tab_ok rfl rfl Try.func42 (by kernel_rfl) (by kernel_rfl) (fun ln us => ?_)
  conv => whnf
  refine callx_inline tab_ok Try.func41 (by kernel_rfl) (by kernel_rfl) (fun us2 => ?_)
  conv => whnf
  refine opx_nemap tab_ok rfl rfl rfl rfl rfl ?_
  conv => whnf
  refine ⟨rfl, ?_⟩
  conv => whnf
  refine callx_inline tab_ok Try.func44 (by kernel_rfl) (by kernel_rfl) (fun us3 => ?_)
  conv => whnf
  refine ⟨rfl, ?_⟩
  conv => whnf
  refine callx_spl ⟨_, Try.func43, by kernel_rfl, by kernel_rfl⟩ (openOut (it := 1) rfl) ?_
  intro dom vv hd
  conv => whnf
  have hdl := dom_len hd
  refine callx_m (keysLog_m (va := false) (vz := 1) (val := fun q => [.v (vv q)]) (dom := dom) (by have := hl.1; omega) (fun q hq => ?_) [.ow 0] 71) [1, 11] (by kernel_rfl) ⟨ent_fnU rfl, trivial⟩ ?_ ?_
  · have h1 := hd.2.1 q hq
    match q, h1, hq with
    | [x], _, hq =>
      obtain ⟨p, hp, e⟩ := List.mem_map.1 (gOf_ne.1 ((hd.1 x).1 hq))
      show (Lit.int .i64 x).wf = true
      rw [← e]; exact hl.2 p hp
  · repeat' (first | exact trivial | exact ⟨rfl, rfl⟩ | exact entL_refl _ | exact (fun _ _ _ _ h => h) | rfl | apply And.intro)
  conv => whnf
  have hks := dom_ks hd
  have hkl : (sortL (dom.map fun q => q.headD 0)).length ≤ 1000 := by
    have := hl.1
    rw [sortL, List.length_mergeSort, List.length_map]; omega
  generalize sortL (dom.map fun q => q.headD 0) = ks at *
  refine loopx_spl (closeNone (it := 1) (g := gOf l) 12 (gOf l) rfl rfl rfl (fun _ _ => rfl) (fun _ h => h) (fun _ _ => rfl) hd) ?_
  conv => whnf
  refine loopx_gh (.frz 13) ?_
  conv => whnf
  refine loopi_h tab_ok (fun i => i ≤ ks.length) (fun i => [(0, .c (.v (.func (.yield ln) #[] #[]))), (1, .c (.p 6 0)), (15, .c (intsX ks)), (16, .c (.i .i64 ks.length)), (17, .c (.i .i64 i))]) (fun i => [(4, .cells 3 [.i .i64 (cntK (gOf l) k ks i)])]) (fun i => ks.length - i) 0 40 rfl (Nat.zero_le _) ?_ (fun i hi => ?_)
  · conv => whnf
    refine ⟨?_, ?_, rfl⟩ <;> repeat' (first | exact trivial | exact entV_refl _ | exact entTs_refl _ | exact entL_refl _ | exact ⟨rfl, rfl⟩ | exact ints_entU (entLL_refl _) | exact (fun _ _ _ _ h => h) | rfl | apply And.intro)
    all_goals simp
  · conv => whnf
    refine And.intro (fun h1 => ?_) (fun h1 => ?_)
    · have h1 : i < ks.length := by simp at h1; omega
      have hxm := mem_atU 0 h1
      have hstep := cntK_snoc (k := k) hks h1
      have hz := cntK_at (k := k) (j := 0) hks h1
      conv => whnf
      refine ⟨by omega, ?_⟩
      conv => whnf
      rw [Int.toNat_natCast]
      generalize ks.getD i 0 = x at *
      have hne := (hks.mem x).1 hxm
      have hgl := gOf_len l x
      have hl1 := hl.1
      refine opx_spl (fun c e => Op.noConfusion e) (openIn (it := 1) x rfl hne) ?_
      intro dom2 vv2 hd2 hkd2
      conv => whnf
      refine opx_valr (fun c e => Op.noConfusion e) (valr_look tab_ok (q := x) (u := vv2 [x]) (hd := 16) rfl rfl rfl rfl rfl rfl rfl hkd2) ?_
      conv => whnf
      refine callx_of_callf (callf_row (cloneU_own (gOf l x) (by omega)) ⟨us_ent2 (entLL_refl _), trivial⟩ rfl encU_len encU_flat ?_)
      conv => whnf
      refine loopx_spl (closeRow (it := 1) (g := gOf l) 14 15 16 x (gOf l) rfl rfl rfl rfl rfl (fun q _ => ?_) (fun q hq hne => List.mem_filter.2 ⟨hq, by simpa using hne⟩) rfl (fun _ _ => rfl) hd2) ?_
      · by_cases e : q = [x]
        · rw [if_pos e, e]
        · rw [if_neg e]
      conv => whnf
      refine loopx_gh (.frz 17) ?_
      conv => whnf
      refine loopi_h tab_ok (fun j => j ≤ (gOf l x).length) (fun j => [(0, .c (.v (.func (.yield ln) #[] #[]))), (1, .c (.p 6 0)), (4, .c (.i .i64 x)), (15, .c (intsX ks)), (16, .c (.i .i64 ks.length)), (17, .c (.i .i64 i)), (27, .c (usX (gOf l x))), (28, .c (.i .i64 (gOf l x).length)), (29, .c (.i .i64 j))]) (fun j => [(4, .cells 3 [.i .i64 (cntK (gOf l) k ks i + if x = k then j else 0 : Nat)])]) (fun j => (gOf l x).length - j) 0 40 rfl (Nat.zero_le _) ?_ (fun j hj => ?_)
      · conv => whnf
        refine ⟨?_, ?_, rfl⟩ <;> repeat' (first | exact trivial | exact entV_refl _ | exact entTs_refl _ | exact entL_refl _ | exact ⟨rfl, rfl⟩ | exact us_ent2 (entLL_refl _) | exact (fun _ _ _ _ h => h) | rfl | apply And.intro)
        all_goals simp
      · conv => whnf
        refine And.intro (fun h2 => ?_) (fun h2 => ?_)
        · have h2 : j < (gOf l x).length := by simp at h2; omega
          conv => whnf
          refine ⟨by omega, ?_⟩
          conv => whnf
          rw [Int.toNat_natCast]
          generalize (gOf l x).getD j default = r
          refine yieldx_round tab_ok 7 rfl rfl (fun vs2 => ?_)
          conv => whnf
          refine ⟨rfl, ?_⟩
          conv => whnf
          refine And.intro (fun h3 => ?_) (fun h3 => ?_)
          · conv => whnf
            refine ⟨rfl, ?_⟩
            conv => whnf
            refine ⟨rfl, ?_⟩
            conv => whnf
            refine ⟨j + 1, by omega, by omega, rfl, ?_⟩
            conv => whnf
            refine ⟨?_, ?_, rfl⟩ <;> repeat' (first | exact trivial | exact entV_refl _ | exact entTs_refl _ | exact entL_refl _ | exact ⟨rfl, rfl⟩ | exact wrap_succ (by omega) | exact (fun _ _ _ _ h => h) | rfl | apply And.intro)
            all_goals have e : x = k := by simpa using h3
            all_goals rw [hz e, if_pos e, if_pos e, Nat.zero_add, Nat.zero_add]
            exact wrap_succ (by omega)
          · conv => whnf
            refine ⟨rfl, ?_⟩
            conv => whnf
            refine ⟨rfl, ?_⟩
            conv => whnf
            refine ⟨j + 1, by omega, by omega, rfl, ?_⟩
            conv => whnf
            refine ⟨?_, ?_, rfl⟩ <;> repeat' (first | exact trivial | exact entV_refl _ | exact entTs_refl _ | exact entL_refl _ | exact ⟨rfl, rfl⟩ | exact wrap_succ (by omega) | exact (fun _ _ _ _ h => h) | rfl | apply And.intro)
            all_goals have e : ¬ x = k := by simpa using h3
            all_goals rw [if_neg e, if_neg e]
        · have h2 : j = (gOf l x).length := by simp at h2; omega
          subst h2
          conv => whnf
          refine ⟨i + 1, by omega, by omega, rfl, ?_⟩
          rw [hstep, show (if x = k then (gOf l k).length else 0) = if x = k then (gOf l x).length else 0 by split <;> simp_all]
          conv => whnf
          refine ⟨?_, ?_, rfl⟩ <;> repeat' (first | exact trivial | exact entV_refl _ | exact entTs_refl _ | exact entL_refl _ | exact ⟨rfl, rfl⟩ | exact wrap_succ (by omega) | exact (fun _ _ _ _ h => h) | rfl | apply And.intro)
    · have h1 : i = ks.length := by simp at h1; omega
      subst h1
      conv => whnf
      refine ⟨rfl, _, _, rfl, by decide, ?_⟩
      conv => whnf
      rw [cntK_all hks]
      exact mt_done (v := .c (.i .i64 (gOf l k).length)) (hs' := [logI, logA (gOf l)]) (fx := [.p 0 0]) (x := .c (.i .i64 (gOf l k).length)) (ys := [.c (.p 0 0)]) [0, 1] 2 rfl rfl rfl rfl rfl (entV_refl _) ⟨entV_refl _, trivial⟩ ⟨⟨rfl, entL_refl _⟩, fun _ _ _ _ h => h, trivial⟩
end Go.Proofs.Ytehbalkhboedeaa
